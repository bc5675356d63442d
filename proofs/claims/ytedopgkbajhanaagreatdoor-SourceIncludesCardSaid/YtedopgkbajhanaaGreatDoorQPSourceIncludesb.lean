/-
  What PSourceIncludes rests on, part 2: the texts of this work, without what it does not use; printed by a program (wip/shake.py).
  Conditions: none.
-/
import Derived.Test.YtedopgkbajhanaaGreatDoorQPSourceIncludesa
namespace Go.Proofs.YtedopgkbajhanaaGreatDoor
section
open Go Go.RowKit

theorem strCells_bytesV (s : ByteArray) : Lib.strCells s = bytesV (bytesOf s) := by
  simp only [Lib.strCells, bytesV, bytesOf, List.map_map]
  rfl

structure Bld (w : World) (base g t : Nat) (rest : List Value) (A : Option Addr) (c : Nat) (out : List Nat) : Prop where
  g1 : g < base
  top : base ≤ w.heap.size
  blk : ∃ pa, (pa = .pointer none ∨ pa = .pointer (some ⟨g, 0, none⟩)) ∧ Blk w g t (pa :: .slice A out.length c :: rest)
  own : Own w base 5 1 A out.length c (bytesV out)

theorem Bld.grow {w w' : World} {base g t : Nat} {rest : List Value} {A : Option Addr} {c : Nat} {out : List Nat} (h : Bld w base g t rest A c out) (k : Ext w w') : Bld w' base g t rest A c out :=
  ⟨h.g1, Nat.le_trans h.top k.size, let ⟨pa, h1, h2⟩ := h.blk; ⟨pa, h1, h2.ext k⟩, h.own.ext k⟩

/-- What a builder's methods may touch. -/
def BldS (g : Nat) (A : Option Addr) : Nat → Prop := fun k => k = g ∨ rowS A k
theorem BldS.moved {w : World} {g : Nat} {A A' : Option Addr} (h : Moved w A A') : ∀ k, BldS g A' k → BldS g A k ∨ w.heap.size ≤ k := by
  rintro k (rfl | hk)
  · exact .inl (.inl rfl)
  · rcases h.rows k hk with h | h
    · exact .inl (.inr h)
    · exact .inr h

/-- A builder lies at the head of a variable of this type and size. -/
def LiesB (t m : Nat) : Prop := liesAt Tryz.prog Tryz.prog.depth t (m / Tryz.prog.cellsOf t) 0 86 1 = true

theorem Blk.shape {w : World} {g t : Nat} {cs : List Value} (h : Blk w g t cs) : w.shape? g = some (t, cs.length) := by
  unfold World.shape?; rw [h]; simp

theorem gxP : gx.P = Tryz.prog := rfl

theorem builder_info : ∃ j, Tryz.prog.info? 86 = some j ∧ j.size ≠ 0 := by
  obtain ⟨_, i, hi, hs, _⟩ := gx_ok.row (t := 86) rfl
  exact ⟨i, hi, by rw [hs]; decide⟩

theorem copyCheck_fn (g t : Nat) (pa sl : Value) (rest : List Value) (w : World) (hl : LiesB t (rest.length + 2)) (hp : pa = .pointer none ∨ pa = .pointer (some ⟨g, 0, none⟩)) (hB : Blk w g t (pa :: sl :: rest)) :
    Fn Tryz.prog 98 [.pointer (some ⟨g, 0, none⟩)] w (fun _ w' => Mod (· = g) w w' ∧ Blk w' g t (.pointer (some ⟨g, 0, none⟩) :: sl :: rest)) := by
  obtain ⟨j, hj, hj0⟩ := builder_info
  refine fn_of_exec (c := c98) gx_ok Tryz.func98 rfl rfl rfl ?_
  have hsh := hB.shape
  have ucs := Tryz.underlying84
  have uus := Tryz.underlying192
  rcases hp with rfl | rfl
  · refine load_blk hB rfl ?_
    refine wif_t rfl ?_
    refine at_run (w' := w) (v := .pointer (some ⟨g, 0, none⟩)) (fun a hf => ?_) ?_
    · have e1 := hf.ev (show Env.ev _ (.tmp 8) = some (.pointer (some ⟨g, 0, none⟩)) from rfl)
      have := Lib.run_to_unsafe (P := Tryz.prog) (src := 84) (dst := 192) w ⟨g, 0, none⟩ ucs uus hj hj0 hsh (by simp)
      simp only [execOp, e1]
      simp [gxP, this]
    refine at_run (w' := w) (v := .pointer (some ⟨g, 0, none⟩)) (fun a hf => ?_) ?_
    · have e1 := hf.ev (show Env.ev _ (.tmp 9) = some (.pointer (some ⟨g, 0, none⟩)) from rfl)
      have := run_callFunc_extern (P := Tryz.prog) (e := Extern.AbiNoEscape.same) Tryz.func131 (by kernel_rfl) (by kernel_rfl) (by kernel_rfl) (by kernel_rfl) #[.pointer (some ⟨g, 0, none⟩)] w
      rw [Lib.run_noEscape] at this
      simp only [execOp, resolve, invoke]
      simp [Deferred.ofValue, Act.eval] at e1 ⊢
      simp [e1, gxP, this]
    refine at_run (w' := w) (v := .pointer (some ⟨g, 0, none⟩)) (fun a hf => ?_) ?_
    · have e1 := hf.ev (show Env.ev _ (.tmp 10) = some (.pointer (some ⟨g, 0, none⟩)) from rfl)
      have := Lib.run_from_unsafe (P := Tryz.prog) (src := 192) (dst := 84) (u := 86) w ⟨g, 0, none⟩ uus ucs hj hsh (by simpa [LiesB] using hl)
      simp only [execOp, e1]
      simp [gxP, this]
    refine store_mod hB (by simp) (fun w1 hm hB1 => ?_)
    exact ⟨hm, hB1⟩
  · refine load_blk hB rfl ?_
    refine wif_f rfl ?_
    refine load_blk hB rfl ?_
    refine at_run (w' := w) (v := .bool false) (fun a hf => ?_) ?_
    · have e1 := hf.ev (show Env.ev _ (.tmp 17) = some (.pointer (some ⟨g, 0, none⟩)) from rfl)
      have e2 := hf.ev (show Env.ev _ (.tmp 18) = some (.pointer (some ⟨g, 0, none⟩)) from rfl)
      have := Lib.run_neq_ptr_same (P := Tryz.prog) (tp := 84) w ⟨g, 0, none⟩ ucs hj
      simp only [execOp, e1, e2, eqGuard]
      simp [gxP, this]
    refine wif_f rfl ?_
    exact ⟨Mod.refl _ _, hB⟩

theorem writeString_fn (base g t : Nat) (rest : List Value) (A : Option Addr) (c : Nat) (out : List Nat) (s : ByteArray) (w : World) (hl : LiesB t (rest.length + 2)) (hb : Bld w base g t rest A c out) (hs : out.length + s.size ≤ 140737488355328) :
    Fn Tryz.prog 57 [.pointer (some ⟨g, 0, none⟩), .string s] w (fun _ w' => ∃ A' c', Bld w' base g t rest A' c' (out ++ bytesOf s) ∧ Mod (BldS g A) w w' ∧ Moved w A A') := by
  refine fn_of_exec (c := c57) gx_ok Tryz.func57 rfl rfl rfl ?_
  obtain ⟨pa, hpa, hB⟩ := hb.blk
  refine call (copyCheck_fn g t pa _ rest w hl hpa hB) ?_
  rintro v w1 ⟨hm1, hB1⟩
  have hrows := hb.own.rows
  have hg1 := hb.g1
  have hn : ¬ rowS A g := fun h => by have := (hrows g h).1; omega
  have hown1 := hb.own.mod hm1 (fun k hk e => hn (e ▸ hk))
  refine load_blk hB1 rfl ?_
  refine at_app_str gx_ok rfl rfl rfl rfl rfl rfl rfl rfl rfl rfl rfl hown1 hs (by have := hm1.size; have := hb.top; omega) ?_
  intro A' c' w2 hm2 hown2 hmv2
  refine store_mod (hB1.mod hm2 hn) (by simp) (fun w3 hm3 hB3 => ?_)
  have hlen : (out ++ bytesOf s).length = out.length + s.size := by rw [List.length_append, bytesOf_length]
  have hrows2 := hown2.rows
  refine ⟨A', c', ⟨hg1, by have := hm1.size; have := hm2.size; have := hm3.size; have := hb.top; omega, ⟨_, .inr rfl, by rw [hlen]; exact hB3⟩, ?_⟩, ?_, hmv2.back hm1.size⟩
  · rw [hlen, bytesV_append, ← strCells_bytesV]
    exact hown2.mod hm3 (fun k hk e => by have := (hrows2 k hk).1; omega)
  · exact ((hm1.mono (S' := BldS g A) (fun i hi => .inl (.inl hi))).trans hm2 (fun i hi => .inl (.inr hi))).trans hm3 (fun i hi => .inl (.inl hi))

theorem freeze_mod (w : World) (g n : Nat) {S : Nat → Prop} (h : S g) : Mod S w (w.freeze ⟨g, 0, none⟩ n) := by
  unfold World.freeze
  split
  · exact Mod.refl _ _
  · refine ⟨rfl, rfl, rfl, by simp, fun k hk hn => ?_⟩
    simp only [Array.getElem?_modify]
    rw [if_neg (fun (e : g = k) => hn (e ▸ h))]

theorem string_fn (base g t : Nat) (rest : List Value) (A : Option Addr) (c : Nat) (out : List Nat) (w : World) (hb : Bld w base g t rest A c out) (h8 : ∀ x ∈ out, x < 256) (hs : out.length ≤ 140737488355328) :
    Fn Tryz.prog 47 [.pointer (some ⟨g, 0, none⟩)] w (fun v w' => v = .string (strOf out) ∧ Mod (rowS A) w w') := by
  obtain ⟨pa, hpa, hB⟩ := hb.blk
  refine fn_of_exec (c := c47) gx_ok Tryz.func47 rfl rfl rfl ?_
  have hlen : (bytesV out).length = out.length := bytesV_length out
  refine draw_plan gx_ok (Ext w) 10 [(true, 0), (true, 1), (true, 2), (true, 3), (true, 5), (true, 6), (true, 7), (true, 8), (true, 9), (false, 4)] (by kernel_rfl) (Ext.drew w) ?_
  refine qload (v := .slice A out.length c) (fun w' hw' => by rw [(hB.ext hw').cell]; rfl) ?_
  refine qload (v := .slice A out.length c) (fun w' hw' => by rw [(hB.ext hw').cell]; rfl) ?_
  have fin0 : out.length = 0 → Value.string ByteArray.empty = Value.string (strOf out) := fun h0 => by
    have : out = [] := List.eq_nil_of_length_eq_zero h0
    subst this; rfl
  by_cases h0 : out.length = 0
  · have key : ∃ p w1, (Builtin.unsafeSliceData_ #[74] 140 #[.slice A out.length c]).run Tryz.prog w.drew = .ok (.pointer p) w1 ∧ Ext w w1 := by
      rcases hb.own.row.2 with ⟨hv, _⟩ | ⟨g', cap, cur, hv, hb', hg', _⟩
      · simp only [Value.slice.injEq] at hv
        obtain ⟨rfl, _, rfl⟩ := hv
        exact ⟨none, w.drew, Lib.run_unsafeSliceData_nil _ _ _ _ _, Ext.drew w⟩
      · simp only [Value.slice.injEq] at hv
        obtain ⟨rfl, _, rfl⟩ := hv
        by_cases hc0 : c = 0
        · subst hc0
          have hsh : w.drew.shape? g' = some (5, cur.size) := by
            unfold World.shape?; rw [show w.drew.heap[g']? = _ from hg']
          exact ⟨_, _, Lib.run_unsafeSliceData_zero (P := Tryz.prog) w.drew _ _ 5 Tryz.underlying140 ⟨g', 0, none⟩ _ _ hsh, (Ext.drew w).trans (Ext.alloc _ _)⟩
        · exact ⟨_, w.drew, Lib.run_unsafeSliceData_row (P := Tryz.prog) w.drew _ _ ⟨g', 0, none⟩ _ _ hc0, Ext.drew w⟩
    obtain ⟨p, w1, hrun, hE1⟩ := key
    refine at_run (w' := w1) (v := .pointer p) (fun a hf => ?_) ⟨hE1, ?_⟩
    · have e1 := hf.ev (show Env.ev _ (.tmp 6) = some (.slice A out.length c) from rfl)
      simp only [execOp, resolve, invoke, builtin]
      simp [gxP, e1, hrun]
    refine at_run (w' := w1) (v := .string ByteArray.empty) (fun a hf => ?_) ?_
    · have e1 := hf.ev (show Env.ev _ (.tmp 7) = some (.pointer p) from rfl)
      have e2 := hf.ev (show Env.ev _ (.tmp 12) = some (.int .i64 out.length) from rfl)
      have := Lib.run_unsafeString_none (P := Tryz.prog) w1 140 3 9 p
      rw [h0] at e2
      simp only [execOp, resolve, invoke, builtin]
      simp [gxP, e1, e2]
      rw [this]; rfl
    exact ⟨fin0 h0, Mod.of_ext _ hE1⟩
  · obtain ⟨g', sp, rfl, hb', hB', hl'⟩ := hb.own.blk (by omega)
    have hle := hb.own.sl.le
    refine at_run (w' := w.drew) (v := .pointer (some ⟨g', 0, none⟩)) (fun a hf => ?_) ⟨Ext.drew w, ?_⟩
    · have e1 := hf.ev (show Env.ev _ (.tmp 6) = some (.slice (some ⟨g', 0, none⟩) out.length c) from rfl)
      have := Lib.run_unsafeSliceData_row (P := Tryz.prog) w.drew #[74] 140 ⟨g', 0, none⟩ out.length c (by omega)
      simp only [execOp, resolve, invoke, builtin]
      simp [gxP, e1, this]
    refine at_run (w' := w.drew.freeze ⟨g', 0, none⟩ out.length) (v := .string (strOf out)) (fun a hf => ?_) ?_
    · have e1 := hf.ev (show Env.ev _ (.tmp 7) = some (.pointer (some ⟨g', 0, none⟩)) from rfl)
      have e2 := hf.ev (show Env.ev _ (.tmp 12) = some (.int .i64 out.length) from rfl)
      have hsh : w.drew.shape? g' = some (5, (bytesV out ++ sp).length) := (hB'.ext (Ext.drew w)).shape
      have hl2 : (out.map UInt8.ofNat).length = out.length := by simp
      have := Lib.run_unsafeString_row (P := Tryz.prog) w.drew 140 3 9 5 Tryz.underlying140 (by kernel_rfl) g' _ hsh (out.map UInt8.ofNat) (by intro e; apply h0; rw [← hl2, e]; rfl) (by simp [bytesV_length]) (by rw [hl2]; omega) (fun j x hj => by
        rw [(hB'.ext (Ext.drew w)).cell]
        simp only [List.getElem?_map, Option.map_eq_some_iff] at hj
        obtain ⟨y, hy, rfl⟩ := hj
        have hjl : j < out.length := (List.getElem?_eq_some_iff.1 hy).1
        rw [List.getElem?_append_left (by rw [hlen]; exact hjl), bytesV_get' hy]
        have := h8 y (List.mem_of_getElem? hy)
        simp [Nat.mod_eq_of_lt this])
      rw [hl2] at this
      simp only [execOp, resolve, invoke, builtin]
      simp [gxP, e1, e2]
      rw [this]; rfl
    exact ⟨rfl, (Mod.of_ext (rowS _) (Ext.drew w)).trans (freeze_mod w.drew g' out.length (S := rowS (some ⟨g', 0, none⟩)) ⟨_, rfl, rfl⟩) (fun i hi => .inl hi)⟩
end
end Go.Proofs.YtedopgkbajhanaaGreatDoor

namespace Go.Proofs.YtedopgkbajhanaaGreatDoor
section
section
open Go Go.RowKit

/-- A node of a formula. -/
structure Fz where
  o : Int
  v : Int
  a : Int
  b : Int
deriving DecidableEq
def Fz.cells (x : Fz) : List Value := [.int .i64 x.o, .int .i64 x.v, .int .i64 x.a, .int .i64 x.b]
theorem fz_len (x : Fz) : x.cells.length = 4 := rfl

def isDig (b : Nat) : Bool := decide (48 ≤ b) && decide (b ≤ 57)
def isLet (b : Nat) : Bool := b == 95 || (decide (97 ≤ b) && decide (b ≤ 122)) || (decide (65 ≤ b) && decide (b ≤ 90))
def isId (b : Nat) : Bool := isLet b || isDig b
/-- The length of the identifier at the beginning. -/
def idLen : List Nat → Nat
  | [] => 0
  | b :: l => if isDig b then 0 else ((b :: l).takeWhile isId).length
def trimB (l : List Nat) : List Nat := l.dropWhile fun b => b == 32 || b == 9

/-- A parser's state: what is still to come, the nodes so far, whether a condition was unknown. -/
structure Ps where
  r : List Nat
  f : List Fz
  u : Bool
/-- Spaces, and then a symbol. -/
def skipP (sym : List Nat) (p : Ps) : Bool × Ps := if sym.isPrefixOf (trimB p.r) then (true, { p with r := (trimB p.r).drop sym.length }) else (false, { p with r := trimB p.r })
def putP (x : Fz) (p : Ps) : Nat × Ps := (p.f.length, { p with f := p.f ++ [x] })

def loopP (sym : List Nat) (op : Int) (opd : Ps → Option (Nat × Ps)) : Nat → Nat → Ps → Option (Nat × Ps)
  | 0, _, _ => none
  | m + 1, a, p => match skipP sym p with
    | (true, p1) => match opd p1 with
      | none => none
      | some (b, p2) => loopP sym op opd m p2.f.length { p2 with f := p2.f ++ [⟨op, 0, a, b⟩] }
    | (false, p1) => some (a, p1)
def chainP (sym : List Nat) (op : Int) (opd : Ps → Option (Nat × Ps)) (p : Ps) : Option (Nat × Ps) := match opd p with
  | none => none
  | some (a, p1) => loopP sym op opd (p1.r.length + 1) a p1
/-- A factor; ix: the conditions' numbers. -/
def facP (ix : List Nat → Option Nat) : Nat → Ps → Option (Nat × Ps)
  | 0, _ => none
  | n + 1, p => match skipP [33] p with
    | (true, p1) => match facP ix n p1 with
      | none => none
      | some (a, p2) => some (putP ⟨3, 0, a, 0⟩ p2)
    | (false, p1) => match skipP [40] p1 with
      | (true, p2) => match chainP [124, 124] 5 (chainP [38, 38] 4 (facP ix n)) p2 with
        | none => none
        | some (a, p3) => match skipP [41] p3 with
          | (true, p4) => some (a, p4)
          | (false, _) => none
      | (false, p2) => if idLen p2.r = 0 then none else
          let word := p2.r.take (idLen p2.r)
          let p3 : Ps := { p2 with r := p2.r.drop (idLen p2.r) }
          if word = [116, 114, 117, 101] then some (putP ⟨1, 0, 0, 0⟩ p3) else if word = [102, 97, 108, 115, 101] then some (putP ⟨0, 0, 0, 0⟩ p3) else
            some (putP ⟨2, ((ix word).getD 0 : Nat), 0, 0⟩ { p3 with u := p3.u || (ix word).isNone })
def wholeP (ix : List Nat → Option Nat) (n : Nat) (p : Ps) : Option (Nat × Ps) := chainP [124, 124] 5 (chainP [38, 38] 4 (facP ix n)) p
end

section
open Go Go.RowKit

theorem strOf_extract (l : List Nat) (a b : Nat) : (strOf l).extract a b = strOf ((l.take b).drop a) := by
  apply ByteArray.ext
  apply Array.ext'
  simp [strOf, List.drop_take]
theorem strOf_eq {l m : List Nat} (hl : ∀ x ∈ l, x < 256) (hm : ∀ x ∈ m, x < 256) : decide (strOf l = strOf m) = decide (l = m) := by
  by_cases h : l = m
  · subst h; simp
  · rw [decide_eq_false h, decide_eq_false (fun e => h (strOf_inj hl hm e))]
theorem B8.drop {l : List Nat} (h : ∀ x ∈ l, x < 256) (k : Nat) : ∀ x ∈ l.drop k, x < 256 := fun x hx => h x (List.mem_of_mem_drop hx)
theorem B8.take {l : List Nat} (h : ∀ x ∈ l, x < 256) (k : Nat) : ∀ x ∈ l.take k, x < 256 := fun x hx => h x (List.mem_of_mem_take hx)
theorem pre_take (p l : List Nat) : p.isPrefixOf l = decide (p.length ≤ l.length ∧ l.take p.length = p) := by
  rw [Bool.eq_iff_iff, List.isPrefixOf_iff_prefix, decide_eq_true_eq]
  constructor
  · rintro ⟨t, rfl⟩
    exact ⟨by simp, by simp⟩
  · rintro ⟨h1, h2⟩
    refine ⟨l.drop p.length, ?_⟩
    have := List.take_append_drop p.length l
    rw [h2] at this
    exact this

theorem hasprefix_fn (l p : List Nat) (w : World) (hl : ∀ x ∈ l, x < 256) (hp : ∀ x ∈ p, x < 256) :
    Fn Tryz.prog 168 [.string (strOf l), .string (strOf p)] w (fun v w' => v = .bool (p.isPrefixOf l) ∧ w = w') := by
  refine fn_of_exec (c := c168) gx_ok Tryz.func168 rfl rfl rfl ?_
  refine wif_d (fun h1 => ?_) (fun h1 => ?_)
  · rw [strOf_size, strOf_size] at h1
    refine need ⟨by omega, by omega, by rw [strOf_size, strOf_size]; omega⟩ ?_
    refine ⟨?_, rfl⟩
    rw [pre_take]
    congr 1
    refine decide_eq_decide.2 ?_
    simp only [Int.toNat_natCast, Int.toNat_zero]
    rw [strOf_extract, List.drop_zero, strOf_size]
    exact ⟨fun h => ⟨by omega, strOf_inj (B8.take hl _) hp h⟩, fun h => by rw [h.2]⟩
  · rw [strOf_size, strOf_size] at h1
    exact ⟨by rw [pre_take, decide_eq_false (fun h => h1 (by omega))], rfl⟩

/-- What CutPrefix hands back. -/
def cutV (l p : List Nat) : Value := if p.isPrefixOf l then .tuple #[.string (strOf (l.drop p.length)), .bool true] else .tuple #[.string (strOf l), .bool false]
theorem cutprefix1_fn (l p : List Nat) (w : World) (hl : ∀ x ∈ l, x < 256) (hp : ∀ x ∈ p, x < 256) :
    Fn Tryz.prog 144 [.string (strOf l), .string (strOf p)] w (fun v w' => v = cutV l p ∧ w = w') := by
  refine fn_of_exec (c := c144) gx_ok Tryz.func144 rfl rfl rfl ?_
  refine call (hasprefix_fn l p w hl hp) ?_
  rintro v w1 ⟨rfl, rfl⟩
  unfold cutV
  cases hpre : p.isPrefixOf l with
  | false =>
    refine wif_t rfl ?_
    exact ⟨rfl, rfl⟩
  | true =>
    refine wif_f rfl ?_
    have hle : p.length ≤ l.length := by rw [pre_take] at hpre; exact (of_decide_eq_true hpre).1
    refine need ⟨by omega, by rw [strOf_size, strOf_size]; omega, by omega⟩ ?_
    refine ⟨?_, rfl⟩
    simp only [Int.toNat_natCast, strOf_size]
    rw [strOf_extract, List.take_of_length_le (Nat.le_refl _)]
    rfl
theorem cutprefix_fn (l p : List Nat) (w : World) (hl : ∀ x ∈ l, x < 256) (hp : ∀ x ∈ p, x < 256) :
    Fn Tryz.prog 112 [.string (strOf l), .string (strOf p)] w (fun v w' => v = cutV l p ∧ w = w') := by
  refine fn_of_exec (c := c112) gx_ok Tryz.func112 rfl rfl rfl ?_
  refine call (cutprefix1_fn l p w hl hp) ?_
  rintro v w1 ⟨rfl, rfl⟩
  unfold cutV
  split
  · exact ⟨rfl, rfl⟩
  · exact ⟨rfl, rfl⟩

/-! ### Leading blanks -/
/-- The set of the bytes 32 and 9. -/
def asV (k : Nat) : List Value := (List.range 256).map fun j => .bool (decide (0 < k ∧ j = 32) || decide (1 < k ∧ j = 9))
theorem asV_len (k : Nat) : (asV k).length = 256 := by simp [asV]
theorem asV_get {k j : Nat} (h : j < 256) : (asV k)[j]? = some (.bool (decide (0 < k ∧ j = 32) || decide (1 < k ∧ j = 9))) := by
  unfold asV; rw [List.getElem?_map, List.getElem?_range h]; rfl
theorem asV_scalar (k : Nat) : ∀ u ∈ asV k, scalar u = true := fun u hu => by
  unfold asV at hu
  simp only [List.mem_map] at hu
  obtain ⟨j, _, rfl⟩ := hu
  rfl
theorem asV_next {k x : Nat} (hk : k < 2) (hx : [32, 9][k]? = some x) : (asV k).set x (.bool true) = asV (k + 1) := by
  apply List.ext_getElem?
  intro j
  by_cases hj : j < 256
  · rw [List.getElem?_set, asV_get hj, asV_get hj, asV_len]
    have hk2 : k = 0 ∨ k = 1 := by omega
    rcases hk2 with rfl | rfl
    · simp at hx
      subst hx
      split
      · rename_i e; subst e; simp
      · rename_i e
        have : ¬ j = 32 := fun h => e h.symm
        simp [this]
    · simp at hx
      subst hx
      split
      · rename_i e; subst e; simp
      · rename_i e
        have : ¬ j = 9 := fun h => e h.symm
        simp [this]
  · rw [List.getElem?_eq_none (by rw [List.length_set, asV_len]; omega), List.getElem?_eq_none (by rw [asV_len]; omega)]

set_option maxRecDepth 20000 in
theorem asciiset_fn (w : World) : Fn Tryz.prog 141 [.string (strOf [32, 9])] w (fun v w' => v = .tuple #[.agg (asV 2).toArray, .bool true] ∧ Ext w w') := by
  refine fn_of_exec (c := c141) gx_ok Tryz.func141 rfl rfl rfl ?_
  refine new (fun w1 hE1 hz1 hB1 => ?_)
  have hB1' : Blk w1 w.heap.size 208 (asV 0) := hB1
  clear hB1
  refine loop gx_ok [4] (fun k : Nat => [.int .i64 k]) (fun k w' => k ≤ 2 ∧ Ext w w' ∧ Blk w' w.heap.size 208 (asV k)) (fun k _ => 2 - k) 0 rfl ⟨by omega, hE1, hB1'⟩ ?_
  rintro k w2 ⟨hk, hE2, hB2⟩
  refine wif_d (fun h1 => ?_) (fun h1 => ?_)
  · have hk2 : k < 2 := by
      have : ((strOf [32, 9]).size : Int) = 2 := rfl
      omega
    refine sindex' (s := strOf [32, 9]) (by show k < 2; exact hk2) (fun x hx hx8 => ?_)
    have hx' : [32, 9][k]? = some x := by rw [bytesOf_strOf (by decide)] at hx; exact hx
    have hxl : x < 128 := by
      have : k = 0 ∨ k = 1 := by omega
      rcases this with rfl | rfl
      · simp at hx'; omega
      · simp at hx'; omega
    refine wif_df (by omega) ?_
    refine index_i (j := x) rfl (by omega) ?_
    refine store_mod hB2 (by rw [asV_len]; omega) (fun w3 hm3 hB3 => ?_)
    rw [asV_next hk2 hx'] at hB3
    refine norm_i64_to ((k + 1 : Nat) : Int) (by omega) (by omega) ?_
    exact ⟨k + 1, rfl, ⟨by omega, hm3.ext hE2 (fun i hi => by omega), hB3⟩, by show 2 - (k + 1) < 2 - k; omega⟩
  · have hk2 : k = 2 := by
      have : ((strOf [32, 9]).size : Int) = 2 := rfl
      omega
    subst hk2
    refine loadN_blk0 hB2 (asV_len 2) ?_
    refine storeN_blk0 hB2 rfl (asV_scalar 2) (fun w3 hg3 _ hB3 => ?_)
    refine loadN_blk0 hB3 (asV_len 2) ?_
    exact ⟨rfl, hE2.own hg3 (Nat.le_refl _)⟩

theorem ascontains_fn (g x : Nat) (w : World) (hB : Blk w g 208 (asV 2)) (hx : x < 256) :
    Fn Tryz.prog 165 [.pointer (some ⟨g, 0, none⟩), .int .u8 x] w (fun v w' => v = .bool (x == 32 || x == 9) ∧ w = w') := by
  refine fn_of_exec (c := c165) gx_ok Tryz.func165 rfl rfl rfl ?_
  refine index_i (j := x) rfl (by omega) ?_
  refine load_blk hB (asV_get hx) ?_
  refine ⟨?_, rfl⟩
  have e : ∀ y : Nat, (x == y) = decide (x = y) := fun y => rfl
  simp [e]

theorem trimascii_fn (g : Nat) (l : List Nat) (w : World) (hB : Blk w g 208 (asV 2)) (hl : ∀ x ∈ l, x < 256) (_ : l.length ≤ 9223372036854775807) :
    Fn Tryz.prog 142 [.string (strOf l), .pointer (some ⟨g, 0, none⟩)] w (fun v w' => v = .string (strOf (trimB l)) ∧ Ext w w') := by
  refine fn_of_exec (c := c142) gx_ok Tryz.func142 rfl rfl rfl ?_
  refine loop gx_ok [0] (fun m : List Nat => [.string (strOf m)]) (fun m w' => Ext w w' ∧ trimB m = trimB l ∧ (∀ x ∈ m, x < 256)) (fun m _ => m.length) l rfl ⟨Ext.refl _, rfl, hl⟩ ?_
  rintro m w1 ⟨hE1, hm, hm8⟩
  refine wif_d (fun h1 => ?_) (fun h1 => ?_)
  · cases m with
    | nil => simp [strOf_size] at h1
    | cons x m =>
      refine sindex' (s := strOf (x :: m)) (by rw [strOf_size]; simp) (fun y hy hy8 => ?_)
      have hyx : y = x := by rw [bytesOf_strOf hm8] at hy; simpa using hy.symm
      subst hyx
      refine call (ascontains_fn g y w1 (hB.ext hE1) hy8) ?_
      rintro v w2 ⟨rfl, rfl⟩
      cases hb : (y == 32 || y == 9) with
      | false =>
        refine wif_t rfl ?_
        refine ⟨?_, hE1⟩
        rw [← hm]
        unfold trimB
        rw [List.dropWhile_cons, hb]
        rfl
      | true =>
        refine wif_f rfl ?_
        refine need ⟨by omega, by omega, by omega⟩ ?_
        refine ⟨m, ?_, ⟨hE1, ?_, fun z hz => hm8 z (by simp [hz])⟩, by simp⟩
        · have e : (strOf (y :: m)).extract (Int.toNat 1) (((strOf (y :: m)).size : Int)).toNat = strOf m := by
            rw [strOf_extract, strOf_size, Int.toNat_natCast, List.take_of_length_le (Nat.le_refl _)]
            rfl
          rw [e]
          rfl
        · rw [← hm]
          unfold trimB
          rw [List.dropWhile_cons, hb]
          rfl
  · cases m with
    | nil => exact ⟨by rw [← hm]; rfl, hE1⟩
    | cons x m => rw [strOf_size] at h1; simp at h1

set_option maxRecDepth 20000 in
theorem trimleft_fn (l : List Nat) (w : World) (hl : ∀ x ∈ l, x < 256) (hlen : l.length ≤ 9223372036854775807) :
    Fn Tryz.prog 111 [.string (strOf l), .string (strOf [32, 9])] w (fun v w' => v = .string (strOf (trimB l)) ∧ Ext w w') := by
  refine fn_of_exec (c := c111) gx_ok Tryz.func111 rfl rfl rfl ?_
  refine wif_d (fun h1 => ?_) (fun h1 => ?_)
  · have : l = [] := strOf_inj hl (by simp) (h1.trans rfl)
    subst this
    exact ⟨rfl, Ext.refl _⟩
  refine wif_df (by decide) ?_
  refine wif_eqf (by decide) ?_
  refine call (asciiset_fn w) ?_
  rintro v w1 ⟨rfl, hE1⟩
  refine new (fun w2 hE2 hz2 hB2 => ?_)
  refine storeN_blk0 hB2 (asV_len 2) (asV_scalar 2) (fun w3 hg3 _ hB3 => ?_)
  have hE13 := newBox hE2 hB2 hg3
  refine wif_t rfl ?_
  refine call (trimascii_fn w1.heap.size l w3 hB3 hl hlen) ?_
  rintro v w4 ⟨rfl, hE4⟩
  exact ⟨rfl, hE1.trans (hE13.trans hE4)⟩
end

section
open Go Go.RowKit

theorem fn_of_calls {P : Program} {f : FuncId} {l : List Value} {w : World} {v : Value} {R : World → Prop} (h : Calls P f l.toArray w fun e w' => e = .returned v ∧ R w') : Fn P f l w (fun u w' => u = v ∧ R w') := by
  unfold Fn
  exact h.mono fun e w' he => by obtain ⟨rfl, h⟩ := he; exact ⟨rfl, h⟩
theorem Ext.of_below {w w' : World} (h : Below w.heap.size w w') : Ext w w' := ⟨h.os, h.tape, h.output, h.size, fun k hk _ => h.block k hk⟩
theorem isId_iff (r : Nat) : isId r = true ↔ (r = 95 ∨ (97 ≤ r ∧ r ≤ 122) ∨ (65 ≤ r ∧ r ≤ 90) ∨ (48 ≤ r ∧ r ≤ 57)) := by
  unfold isId isLet isDig
  simp
  omega
theorem isid_fn (r : Nat) (w : World) : Fn Tryz.prog 138 [.int .i32 r] w (fun v w' => v = .bool (!isId r) ∧ w = w') := by
  have hb : isId r = decide (r = 95 ∨ (97 ≤ r ∧ r ≤ 122) ∨ (65 ≤ r ∧ r ≤ 90) ∨ (48 ≤ r ∧ r ≤ 57)) := by rw [Bool.eq_iff_iff, isId_iff, decide_eq_true_eq]
  rw [hb]
  refine fn_of_exec (c := c138) gx_ok Tryz.func138 rfl rfl rfl ?_
  have hcase : r = 95 ∨ (97 ≤ r ∧ r ≤ 122) ∨ (65 ≤ r ∧ r ≤ 90) ∨ (48 ≤ r ∧ r ≤ 57) ∨ r < 48 ∨ (57 < r ∧ r < 65) ∨ (90 < r ∧ r < 95) ∨ r = 96 ∨ 122 < r := by omega
  rcases hcase with h | h | h | h | h | h | h | h | h <;>
    repeat (first | refine wif_net (by omega) ?_ | refine wif_nef (by omega) ?_ | refine wif_dt (by omega) ?_ | refine wif_df (by omega) ?_ | refine wif_t rfl ?_ | refine wif_f rfl ?_)
  all_goals refine ⟨?_, rfl⟩
  all_goals congr 1
  all_goals first
    | (have hP : (r = 95 ∨ (97 ≤ r ∧ r ≤ 122) ∨ (65 ≤ r ∧ r ≤ 90) ∨ (48 ≤ r ∧ r ≤ 57)) := by omega
       rw [decide_eq_true hP]
       first | rfl | exact decide_eq_false (by omega) | exact decide_eq_true (by omega))
    | (have hP : ¬ (r = 95 ∨ (97 ≤ r ∧ r ≤ 122) ∨ (65 ≤ r ∧ r ≤ 90) ∨ (48 ≤ r ∧ r ≤ 57)) := by omega
       rw [decide_eq_false hP]
       first | rfl | exact decide_eq_true (by omega) | exact decide_eq_false (by omega))

theorem get_bang {s : ByteArray} {pos : Nat} (h : pos < s.size) : s.get! pos = s[pos] := by
  simp [ByteArray.get!, ByteArray.getElem_eq_getElem_data, getElem!_pos s.data pos h]
theorem decode_lo {s : ByteArray} {pos : Nat} (h : pos < s.size) (ha : s[pos].toNat < 128) : Utf8.decode s pos = (s[pos].toNat, 1) := by
  unfold Utf8.decode
  simp only [Nat.add_zero, get_bang h]
  rw [if_pos ha]
theorem decode_hi {s : ByteArray} {pos : Nat} (h : pos < s.size) (ha : ¬ s[pos].toNat < 128) : 128 ≤ (Utf8.decode s pos).1 := by
  unfold Utf8.decode
  simp only [Nat.add_zero, get_bang h]
  rw [if_neg ha]
  have he : 128 ≤ Utf8.runeError := by decide
  split
  · split
    · assumption
    · exact he
  split
  · split
    · rename_i h1
      simp at h1
      exact Nat.le_trans (by decide) h1.1
    · exact he
  split
  · split
    · rename_i h1
      simp at h1
      exact Nat.le_trans (by decide) h1.1
    · exact he
  · exact he

/-- The first byte that belongs to no identifier. -/
theorem idx_id (s : ByteArray) : ∀ (f pos : Nat), s.size ≤ pos + f → pos ≤ s.size →
    Lib.idxFuncFrom (fun r => !isId r) true s f pos = if ((bytesOf s).drop pos).all isId then -1 else ((pos + (((bytesOf s).drop pos).takeWhile isId).length : Nat) : Int)
  | 0, pos, h, hp => by
    rw [List.drop_of_length_le (by rw [bytesOf_length]; omega)]
    rfl
  | f + 1, pos, h, hp => by
    unfold Lib.idxFuncFrom
    by_cases hps : pos < s.size
    · rw [if_pos hps]
      have hg : (bytesOf s).drop pos = s[pos].toNat :: (bytesOf s).drop (pos + 1) := by
        rw [List.drop_eq_getElem_cons (by rw [bytesOf_length]; exact hps)]
        congr 1
        have := bytesOf_get hps
        exact (List.getElem?_eq_some_iff.1 this).2
      rw [hg]
      by_cases ha : s[pos].toNat < 128
      · have hd := decode_lo hps ha
        rw [hd]
        dsimp only
        cases hi : isId s[pos].toNat with
        | true =>
          rw [if_neg (by simp), idx_id s f (pos + 1) (by omega) (by omega)]
          simp only [List.all_cons, hi, Bool.true_and, List.takeWhile_cons, if_true, List.length_cons]
          split
          · rfl
          · congr 1; omega
        | false =>
          rw [if_pos (by simp)]
          simp [hi]
      · have hi : isId s[pos].toNat = false := by
          cases e : isId s[pos].toNat with
          | false => rfl
          | true => have := (isId_iff _).1 e; omega
        have hd : isId (Utf8.decode s pos).1 = false := by
          have h128 := decode_hi hps ha
          cases e : isId (Utf8.decode s pos).1 with
          | false => rfl
          | true => have := (isId_iff _).1 e; omega
        rw [if_pos (by rw [hd]; rfl)]
        simp [hi]
    · rw [if_neg hps, List.drop_of_length_le (by rw [bytesOf_length]; omega)]
      rfl

theorem indexf_fn (l : List Nat) (w : World) (hl : ∀ x ∈ l, x < 256) : Fn Tryz.prog 137 [.string (strOf l), .func (.func 138) #[] #[]] w (fun v w' => v = .int .i64 (if l.all isId then -1 else ((l.takeWhile isId).length : Nat)) ∧ Ext w w') := by
  refine fn_of_exec (c := c137) gx_ok Tryz.func137 rfl rfl rfl ?_
  have hp : Go.Proofs.PredAt Tryz.prog 138 #[] Go.Proofs.encR (fun r => !isId r) w := fun W r _ => by
    have h := isid_fn r W
    unfold Fn at h
    exact h.mono fun e w' he => by
      cases e with
      | returned v => obtain ⟨rfl, rfl⟩ := he; exact ⟨rfl, 0, rfl⟩
      | panicked ch => exact he.elim
      | outgrown => exact he.elim
  have hc := Tryz.strings_indexFunc 138 #[] (Go.Proofs.enters_of Tryz.func138 rfl rfl) (fun r => !isId r) true (strOf l) w hp
  refine call (fn_of_calls hc) ?_
  rintro v w1 ⟨rfl, hb⟩
  refine ⟨?_, Ext.of_below hb⟩
  unfold Lib.idxFunc
  rw [idx_id (strOf l) _ 0 (by omega) (Nat.zero_le _), bytesOf_strOf hl, List.drop_zero, Nat.zero_add]
end
end
end Go.Proofs.YtedopgkbajhanaaGreatDoor

namespace Go.Proofs.YtedopgkbajhanaaGreatDoor
section
open Go Go.RowKit

/-! ### Keys -/
structure KeyQ {α : Type} [DecidableEq α] (P : Program) (ke : Nat) (kv : α → Value) : Prop where
  find : ∀ (a : α) (m : List (α × Value)) (bs : List Nat) (w : World), bs.length = m.length →
    ∃ r, (Instr.findKey ke (kv a) (entsOf kv m bs)).run P w = .ok r w ∧ r.map (·.2) = assoc a m ∧ (∀ j v, r = some (j, v) → ∀ v', entsOf kv (assocSet a v' m) bs = (entsOf kv m bs).modify j (fun e => { e with key := kv a, val := v' }) ∧ ((entsOf kv m bs)[j]?).map (·.key) = some (kv a)) ∧ (r = none → ∀ v', assocSet a v' m = m ++ [(a, v')])
  check : ∀ b a w, (Instr.checkKey b 10000 ke (kv a)).run P w = .ok () w
  bits : ∀ a, Instr.sameBits 10000 (kv a) (kv a) = true

theorem findAsking_ents {α : Type} [DecidableEq α] {P : Program} {ke : Nat} {kv : α → Value} (a : α) (w : World) (heq : ∀ b : α, (Op.equal ke (kv a) (kv b)).run P w = .ok (decide (a = b)) w) : ∀ (m : List (α × Value)) (bs : List Nat) (i : Nat), bs.length = m.length →
    ∃ r, (Instr.findAsking ke (kv a) (entsOf kv m bs) i).run P w = .ok r w ∧ r.map (·.2) = assoc a m ∧ (∀ j v, r = some (j, v) → i ≤ j ∧ ∀ v', entsOf kv (assocSet a v' m) bs = (entsOf kv m bs).modify (j - i) (fun e => { e with key := kv a, val := v' }) ∧ ((entsOf kv m bs)[j - i]?).map (·.key) = some (kv a)) ∧ (r = none → ∀ v', assocSet a v' m = m ++ [(a, v')])
  | [], bs, i, h => ⟨none, by simp [entsOf, Instr.findAsking], rfl, (fun j v h => by cases h), fun _ v' => rfl⟩
  | (b, u) :: m, [], i, h => by simp at h
  | (b, u) :: m, s :: bs, i, h => by
    have e : entsOf kv ((b, u) :: m) (s :: bs) = { key := kv b, val := u, born := s } :: entsOf kv m bs := rfl
    rw [e]
    unfold Instr.findAsking
    simp only [Sem.run_bind, heq, Result.andThen_ok]
    by_cases hab : a = b
    · subst hab
      simp only [decide_true, if_true]
      refine ⟨some (i, u), by simp, by simp [assoc], fun j v hj => ?_, fun h => by cases h⟩
      cases hj
      refine ⟨Nat.le_refl _, fun v' => ?_⟩
      simp [assocSet, entsOf]
    · simp only [hab, decide_false, Bool.false_eq_true, if_false]
      obtain ⟨r, h1, h2, h3, h4⟩ := findAsking_ents a w heq m bs (i + 1) (by simpa using h)
      refine ⟨r, h1, by simp [assoc, hab, h2], fun j v hj => ?_, fun hn v' => by simp [assocSet, hab, h4 hn v']⟩
      obtain ⟨h5, h7⟩ := h3 j v hj
      refine ⟨by omega, fun v' => ?_⟩
      obtain ⟨h8, h9⟩ := h7 v'
      rw [show j - i = (j - (i + 1)) + 1 by omega]
      refine ⟨?_, by simpa using h9⟩
      simp only [assocSet, hab, if_false]
      rw [show entsOf kv ((b, u) :: assocSet a v' m) (s :: bs) = { key := kv b, val := u, born := s } :: entsOf kv (assocSet a v' m) bs from rfl, h8]
      simp

theorem KeyQ.asking {α : Type} [DecidableEq α] {P : Program} {ke : Nat} {kv : α → Value} {fs : Array Field} (hu : P.underlying ke = some (.struct fs))
    (heq : ∀ (a b : α) (w : World), (Op.equal ke (kv a) (kv b)).run P w = .ok (decide (a = b)) w) (hc : ∀ b a w, (Instr.checkKey b 10000 ke (kv a)).run P w = .ok () w) (hb : ∀ a, Instr.sameBits 10000 (kv a) (kv a) = true) : KeyQ P ke kv := by
  refine ⟨fun a m bs w hl => ?_, hc, hb⟩
  have key := findAsking_ents (P := P) (ke := ke) (kv := kv) a w (fun b => heq a b w) m bs 0 hl
  obtain ⟨r, h1, h2, h3, h4⟩ := key
  refine ⟨r, ?_, h2, fun j v hj v' => by simpa using (h3 j v hj).2 v', h4⟩
  unfold Instr.findKey
  simp only [Sem.run_bind, run_underlying hu, Result.andThen_ok]
  cases m with
  | nil =>
    simp only [entsOf, List.zip_nil_left, List.map_nil, Instr.findNow, Sem.run_pure]
    simp [entsOf, Instr.findAsking] at h1
    rw [h1]
  | cons p m =>
    cases bs with
    | nil => simp at hl
    | cons s bs =>
      have e : entsOf kv (p :: m) (s :: bs) = { key := kv p.1, val := p.2, born := s } :: entsOf kv m bs := rfl
      rw [e] at h1 ⊢
      have hn : Instr.findNow (.struct fs) (kv a) ({ key := kv p.1, val := p.2, born := s } :: entsOf kv m bs) 0 = none := by
        simp [Instr.findNow, Instr.sameNow]
      rw [hn]
      exact h1

/-- A map in memory; stamps are not shown. -/
structure MapQ {α : Type} (kv : α → Value) (w : World) (r : Nat) (m : List (α × Value)) : Prop where
  ex : ∃ bs ck, bs.length = m.length ∧ bs.Nodup ∧ (∀ b ∈ bs, b < ck) ∧ w.heap[r]? = some (.map (entsOf kv m bs).toArray ck)
theorem MapQ.lt {α : Type} {kv : α → Value} {w : World} {r : Nat} {m : List (α × Value)} (h : MapQ kv w r m) : r < w.heap.size := by
  obtain ⟨bs, ck, hl, _, _, hb⟩ := h.ex
  exact (Array.getElem?_eq_some_iff.1 hb).1
theorem MapQ.ext {α : Type} {kv : α → Value} {w w' : World} {r : Nat} {m : List (α × Value)} (h : MapQ kv w r m) (k : Ext w w') : MapQ kv w' r m := by
  obtain ⟨bs, ck, hl, h1, h2, hb⟩ := h.ex
  exact ⟨bs, ck, hl, h1, h2, (k.block r (Array.getElem?_eq_some_iff.1 hb).1 (by simp)).trans hb⟩
theorem MapQ.mod {α : Type} {kv : α → Value} {S : Nat → Prop} {w w' : World} {r : Nat} {m : List (α × Value)} (h : MapQ kv w r m) (k : Mod S w w') (hn : ¬ S r) : MapQ kv w' r m := by
  obtain ⟨bs, ck, hl, h1, h2, hb⟩ := h.ex
  exact ⟨bs, ck, hl, h1, h2, (k.block r (Array.getElem?_eq_some_iff.1 hb).1 hn).trans hb⟩

theorem at_makeMapQ {α : Type} {c : Cx} (_ : c.g.Ok) {o : Oper} {S : Env} {w : World} {K : Env → World → Prop} {Q : Post} {t : Nat} (kv : α → Value) (ho : o.op = .makeMap t none)
    (k : ∀ w1, Ext w w1 → w1.heap.size = w.heap.size + 1 → MapQ kv w1 w.heap.size [] → putK c S o.dst (.v (.map (some w.heap.size))) (fun S => K S w1)) : AtOp c o S w K Q := by
  refine at_run (w' := w.alloc (.map #[] 0)) (fun a hf => ?_) (k _ (Ext.alloc w _) (by simp) ⟨[], 0, rfl, List.nodup_nil, by simp, heap_alloc_new w _⟩)
  simp [execOp, ho, Instr.makeMap]

section
variable {α : Type} [DecidableEq α] {kv : α → Value} {c : Cx} {o : Oper} {S : Env} {w : World} {K : Env → World → Prop} {Q : Post} {t ke e : Nat} {r re : TyRow} {x y : Operand} {q : Nat} {m : List (α × Value)} {a : α}

theorem run_lookupQ (hg : c.g.Ok) (hr : rowOf c.g.tys t = some r) (hd : r.d = .map ke e) (hre : rowOf c.g.tys e = some re) (hk : KeyQ c.g.P ke kv) (hm : MapQ kv w q m) (ok : Bool) :
    (Instr.lookup t (.map (some q)) (kv a) ok).run c.g.P w = .ok (if ok then .tuple #[(assoc a m).getD re.z, .bool (assoc a m).isSome] else (assoc a m).getD re.z) w := by
  have hr' := (hg.row hr).1
  rw [hd] at hr'
  obtain ⟨_, i, hi, _, _, hiz⟩ := hg.row hre
  obtain ⟨bs, ck, hl, _, _, hb⟩ := hm.ex
  obtain ⟨res, h1, h2, _, _⟩ := hk.find a m bs w hl
  have hgo : (getObj q).run c.g.P w = .ok (.map (entsOf kv m bs).toArray ck) w := by simp [getObj, Sem.run, hb]
  have hz : (zeroValue e).run c.g.P w = .ok re.z w := by simp [zeroValue, typeInfo, hi, hiz]
  simp only [Instr.lookup, Sem.run_bind, run_underlying hr', Result.andThen_ok, hgo, Sem.run_pure, hk.check, h1]
  rw [← h2]
  cases res with
  | none => cases ok <;> simp [hz]
  | some p => cases ok <;> simp

theorem at_lookupQ_ok (hg : c.g.Ok) (ho : o.op = .lookup t x y true) (hr : rowOf c.g.tys t = some r) (hd : r.d = .map ke e) (hre : rowOf c.g.tys e = some re) (hk : KeyQ c.g.P ke kv)
    (hx : S.ev x = some (.map (some q))) (hy : S.ev y = some (kv a)) (hm : MapQ kv w q m)
    (k : putK c S o.dst (.v (.tuple #[(assoc a m).getD re.z, .bool (assoc a m).isSome])) (fun S => K S w)) : AtOp c o S w K Q := by
  refine at_run (w' := w) (fun b hf => ?_) k
  have e1 := hf.ev hx
  have e2 := hf.ev hy
  have := run_lookupQ (w := w) (a := a) hg hr hd hre hk hm true
  simp only [execOp, ho, e1, e2]
  simp only [Sem.run_bind, this, Result.andThen_ok]
  simp

theorem assocSet_len {α : Type} [DecidableEq α] (a : α) (v : Value) : ∀ (m : List (α × Value)), (assoc a m).isSome → (assocSet a v m).length = m.length
  | [], h => by simp [assoc] at h
  | (b, x) :: m, h => by
    simp only [assocSet]
    split
    · simp
    · rename_i hab; simp [assocSet_len a v m (by simpa [assoc, hab] using h)]

theorem at_mapUpdateQ {v : Value} {z : Operand} (hg : c.g.Ok) (ho : o.op = .mapUpdate t x y z) (hdst : o.dst = none) (hr : rowOf c.g.tys t = some r) (hd : r.d = .map ke e) (hk : KeyQ c.g.P ke kv)
    (hx : S.ev x = some (.map (some q))) (hy : S.ev y = some (kv a)) (hz : S.ev z = some v) (hm : MapQ kv w q m)
    (k : ∀ w1, Mod (· = q) w w1 → w1.heap.size = w.heap.size → MapQ kv w1 q (assocSet a v m) → K S w1) : AtOp c o S w K Q := by
  have hr' := (hg.row hr).1
  rw [hd] at hr'
  obtain ⟨bs, ck, hl, hnd, hck, hb⟩ := hm.ex
  have hlt : q < w.heap.size := (Array.getElem?_eq_some_iff.1 hb).1
  obtain ⟨res, h1, h2, h3, h4⟩ := hk.find a m bs w hl
  have hgo : (getObj q).run c.g.P w = .ok (.map (entsOf kv m bs).toArray ck) w := by simp [getObj, Sem.run, hb]
  have hset : ∀ ob, (setObj q ob).run c.g.P w = .ok () { w with heap := w.heap.setIfInBounds q ob } := fun ob => by simp [setObj, Sem.run, hb]
  have main : ∃ ob, (Instr.mapUpdate t (.map (some q)) (kv a) v).run c.g.P w = .ok () { w with heap := w.heap.setIfInBounds q ob } ∧ ∃ bs' ck', bs'.length = (assocSet a v m).length ∧ bs'.Nodup ∧ (∀ b ∈ bs', b < ck') ∧ ob = .map (entsOf kv (assocSet a v m) bs').toArray ck' := by
    cases res with
    | none =>
      refine ⟨_, ?_, bs ++ [ck], ck + 1, ?_, ?_, ?_, rfl⟩
      · simp only [Instr.mapUpdate, Sem.run_bind, run_underlying hr', Result.andThen_ok, hgo, hk.check, h1, hset]
        rw [h4 rfl v]
        congr 4
        simp only [entsOf]
        rw [List.zip_append hl.symm, List.map_append]
        simp
      · rw [h4 rfl v]; simp [hl]
      · rw [List.nodup_append]
        refine ⟨hnd, by simp, fun x hx y hy => ?_⟩
        simp at hy
        have := hck x hx
        omega
      · intro b hb'
        simp only [List.mem_append, List.mem_singleton] at hb'
        rcases hb' with hb' | rfl
        · have := hck b hb'; omega
        · omega
    | some p =>
      obtain ⟨j, u⟩ := p
      obtain ⟨h8, h9⟩ := h3 j u rfl v
      have hkey : (((entsOf kv m bs).toArray[j]?).map (·.key)).getD (kv a) = kv a := by
        rw [show (entsOf kv m bs).toArray[j]? = (entsOf kv m bs)[j]? from by simp, h9]; rfl
      refine ⟨_, ?_, bs, ck, ?_, hnd, hck, rfl⟩
      · simp only [Instr.mapUpdate, Sem.run_bind, run_underlying hr', Result.andThen_ok, hgo, hk.check, h1, hkey, Instr.keyThatStays, hk.bits, if_true, Sem.run_pure, hset]
        rw [h8]
        congr 4
        simp
      · rw [assocSet_len a v m (by rw [← h2]; rfl), hl]
  obtain ⟨ob, hrun, bs', ck', hl', hnd', hck', rfl⟩ := main
  unfold AtOp
  intro b hf
  have e1 := hf.ev hx
  have e2 := hf.ev hy
  have e3 := hf.ev hz
  unfold Oper.wp
  have : (execOp b.eval o).run c.g.P w = .ok .skip { w with heap := w.heap.setIfInBounds q (.map (entsOf kv (assocSet a v m) bs').toArray ck') } := by
    simp only [execOp, ho, e1, e2, e3]
    simp [hrun]
  rw [this]
  refine ⟨S, by rw [hdst]; simpa [Act.put] using hf, k _ ⟨rfl, rfl, rfl, by simp, fun i _ hi => ?_⟩ (by simp) ⟨bs', ck', hl', hnd', hck', ?_⟩⟩
  · simp only [Array.getElem?_setIfInBounds]
    rw [if_neg (fun e => hi e.symm)]
  · simp [hlt]

/-! ### Ranging over a map -/
/-- The iterator r over the map q: the entries L are still to come; cur came last. -/
structure RangeQ {α : Type} (kv : α → Value) (w : World) (r q : Nat) (m L : List (α × Value)) (cur : Option (α × Value)) : Prop where
  ex : ∃ bs ck seen since, bs.length = m.length ∧ bs.Nodup ∧ (∀ b ∈ bs, b < since) ∧ since ≤ ck ∧ w.heap[q]? = some (.map (entsOf kv m bs).toArray ck) ∧ w.heap[r]? = some (.mapIter (some q) since seen ck) ∧
    L = ((m.zip bs).filter fun p => !seen.contains p.2).map (·.1) ∧ (∀ p, cur = some p → ∃ (b : Nat) (s : Array Nat), seen = s.push b ∧ (p, b) ∈ m.zip bs)
theorem RangeQ.mod {α : Type} {kv : α → Value} {S : Nat → Prop} {w w' : World} {r q : Nat} {m L : List (α × Value)} {cur : Option (α × Value)} (h : RangeQ kv w r q m L cur) (k : Mod S w w') (hr : ¬ S r) (hq : ¬ S q) : RangeQ kv w' r q m L cur := by
  obtain ⟨bs, ck, seen, since, h1, h2, h3, h4, h5, h6, h7⟩ := h.ex
  exact ⟨bs, ck, seen, since, h1, h2, h3, h4, (k.block q (Array.getElem?_eq_some_iff.1 h5).1 hq).trans h5, (k.block r (Array.getElem?_eq_some_iff.1 h6).1 hr).trans h6, h7⟩
theorem RangeQ.ext {α : Type} {kv : α → Value} {w w' : World} {r q : Nat} {m L : List (α × Value)} {cur : Option (α × Value)} (h : RangeQ kv w r q m L cur) (k : Ext w w') : RangeQ kv w' r q m L cur :=
  h.mod (Mod.of_ext (fun _ => False) k) (fun h => h) (fun h => h)
theorem RangeQ.lt {α : Type} {kv : α → Value} {w : World} {r q : Nat} {m L : List (α × Value)} {cur : Option (α × Value)} (h : RangeQ kv w r q m L cur) : r < w.heap.size := by
  obtain ⟨bs, ck, seen, since, h1, h2, h3, h4, h5, h6, h7⟩ := h.ex
  exact (Array.getElem?_eq_some_iff.1 h6).1
end

section
variable {α : Type} {kv : α → Value} {c : Cx} {o : Oper} {S : Env} {w : World} {K : Env → World → Prop} {Q : Post} {t ke e : Nat} {r : TyRow} {x : Operand} {q it : Nat} {m L : List (α × Value)} {cur : Option (α × Value)}

end
end
end Go.Proofs.YtedopgkbajhanaaGreatDoor

namespace Go.Proofs.YtedopgkbajhanaaGreatDoor
section
section
open Go Go.RowKit

theorem takeWhile_all {p : Nat → Bool} {l : List Nat} (h : l.all p = true) : l.takeWhile p = l := by
  induction l with
  | nil => rfl
  | cons x l ih =>
    simp only [List.all_cons, Bool.and_eq_true] at h
    rw [List.takeWhile_cons, if_pos h.1, ih h.2]
theorem idLen_cons (b : Nat) (l : List Nat) : idLen (b :: l) = if isDig b then 0 else ((b :: l).takeWhile isId).length := rfl
theorem idLen_le (l : List Nat) : idLen l ≤ l.length := by
  cases l with
  | nil => exact Nat.le_refl _
  | cons b l =>
    rw [idLen_cons]
    split
    · exact Nat.zero_le _
    · exact (List.takeWhile_sublist _).length_le

theorem identifier_fn (l : List Nat) (w : World) (hl : ∀ x ∈ l, x < 256) (hlen : l.length ≤ 9223372036854775807) :
    Fn Tryz.prog 107 [.string (strOf l)] w (fun v w' => v = .int .i64 (idLen l : Nat) ∧ Ext w w') := by
  refine fn_of_exec (c := { c107 with cuts := [2] }) gx_ok Tryz.func107 rfl rfl rfl ?_
  refine call (indexf_fn l w hl) ?_
  rintro v w1 ⟨rfl, hE1⟩
  have hT : (l.takeWhile isId).length ≤ l.length := (List.takeWhile_sublist _).length_le
  refine cutIn [] gx_ok [3] (fun n : Nat => [.int .i64 n]) (fun n w' => w1 = w' ∧ n = (l.takeWhile isId).length) ?_ ?_
  · cases ha : l.all isId with
    | true =>
      rw [if_pos rfl]
      refine wif_dt (by omega) ?_
      exact ⟨(strOf l).size, rfl, rfl, by rw [strOf_size, takeWhile_all ha]⟩
    | false =>
      rw [if_neg (by simp)]
      refine wif_df (by omega) ?_
      exact ⟨(l.takeWhile isId).length, rfl, rfl, rfl⟩
  rintro n _ ⟨rfl, hn⟩
  cases l with
  | nil =>
    have : n = 0 := by simpa using hn
    subst this
    refine wif_df (by omega) ?_
    exact ⟨rfl, hE1⟩
  | cons b l =>
    have hb8 := hl b (by simp)
    have hS : (strOf (b :: l)).size = l.length + 1 := by rw [strOf_size]; rfl
    by_cases hd : isDig b = true
    · have hid : isId b = true := by unfold isId; rw [hd, Bool.or_true]
      have hdb : 48 ≤ b ∧ b ≤ 57 := by unfold isDig at hd; simpa using hd
      have hn0 : 0 < n := by rw [hn, List.takeWhile_cons, if_pos hid]; simp
      refine wif_dt (by omega) ?_
      refine sindex' (s := strOf (b :: l)) (j := 0) (by rw [hS]; omega) (fun x hx hx8 => ?_)
      have hxb : x = b := by rw [bytesOf_strOf hl] at hx; simpa using hx.symm
      subst hxb
      refine wif_dt (by omega) ?_
      refine sindex' (s := strOf (x :: l)) (j := 0) (by rw [hS]; omega) (fun y hy hy8 => ?_)
      have hyb : y = x := by rw [bytesOf_strOf hl] at hy; simpa using hy.symm
      subst hyb
      refine wif_dt (by omega) ?_
      exact ⟨by rw [idLen_cons, if_pos hd]; rfl, hE1⟩
    · have hid : idLen (b :: l) = n := by rw [idLen_cons, if_neg hd, hn]
      rw [hid]
      by_cases hn0 : 0 < n
      · have hdb : ¬ (48 ≤ b ∧ b ≤ 57) := fun h => hd (by unfold isDig; simpa using h)
        refine wif_dt (by omega) ?_
        refine sindex' (s := strOf (b :: l)) (j := 0) (by rw [hS]; omega) (fun x hx hx8 => ?_)
        have hxb : x = b := by rw [bytesOf_strOf hl] at hx; simpa using hx.symm
        subst hxb
        refine wif_d (fun h1 => ?_) (fun h1 => ?_)
        · refine sindex' (s := strOf (x :: l)) (j := 0) (by rw [hS]; omega) (fun y hy hy8 => ?_)
          have hyb : y = x := by rw [bytesOf_strOf hl] at hy; simpa using hy.symm
          subst hyb
          refine wif_df (by omega) ?_
          exact ⟨rfl, hE1⟩
        · exact ⟨rfl, hE1⟩
      · refine wif_df (by omega) ?_
        exact ⟨rfl, hE1⟩

/-! ### Names -/
/-- A list of strings in memory. -/
def strsV (l : List (List Nat)) : List Value := l.map fun s => .string (strOf s)
theorem strsV_get {l : List (List Nat)} {j : Nat} {s : List Nat} (h : l[j]? = some s) : (strsV l)[j]? = some (.string (strOf s)) := by simp [strsV, h]
theorem strsV_length (l : List (List Nat)) : (strsV l).length = l.length := by simp [strsV]

def trueL : List Nat := [116, 114, 117, 101]
def falseL : List Nat := [102, 97, 108, 115, 101]
/-- A name. -/
def nameOk (s : List Nat) : Bool := decide (s ≠ [] ∧ idLen s = s.length ∧ s ≠ trueL ∧ s ≠ falseL)
/-- The map of the names so far. -/
def nameM : List (List Nat) → Nat → List (ByteArray × Value) → List (ByteArray × Value)
  | [], _, m => m
  | s :: l, i, m => nameM l (i + 1) (assocSet (strOf s) (.int .i64 (i : Nat)) m)
theorem nameM_app : ∀ (l : List (List Nat)) (s : List Nat) (i : Nat) (m : List (ByteArray × Value)), nameM (l ++ [s]) i m = assocSet (strOf s) (.int .i64 ((i + l.length : Nat) : Int)) (nameM l i m)
  | [], s, i, m => rfl
  | t :: l, s, i, m => by
    simp only [List.cons_append, nameM]
    rw [nameM_app l s (i + 1)]
    congr 3
    simp only [List.length_cons]
    omega
end

section
open Go Go.RowKit

theorem at_maplen {α : Type} {kv : α → Value} {c : Cx} (hg : c.g.Ok) {o : Oper} {S : Env} {w : World} {K : Env → World → Prop} {Q : Post} {t q ke e : Nat} {x : Operand} {m : List (α × Value)} {r : TyRow}
    (ho : o.op = .call ⟨.builtin .len, #[x], #[t]⟩) (hr : rowOf c.g.tys t = some r) (hd : r.d = .map ke e) (hx : S.ev x = some (.map (some q))) (hm : MapAt kv w q m)
    (k : putK c S o.dst (.v (.int .i64 m.length)) (fun S => K S w)) : AtOp c o S w K Q := by
  have hr' := (hg.row hr).1
  rw [hd] at hr'
  obtain ⟨bs, ck, hl, hb⟩ := hm.ex
  refine at_run (w' := w) (v := .int .i64 m.length) (fun a hf => ?_) k
  have e1 := hf.ev hx
  have hgo : (getObj q).run c.g.P w = .ok (.map (entsOf kv m bs).toArray ck) w := by simp [getObj, Sem.run, hb]
  have hle : (entsOf kv m bs).length = m.length := by simp [entsOf, hl]
  simp only [execOp, ho, resolve, invoke]
  simp [builtin, e1, Builtin.len_, run_underlying hr', hgo, goInt, hle]

abbrev strK : ByteArray → Value := fun s => .string s

/-- Is this list of names valid? -/
def numsOk (names : List (List Nat)) : Bool := decide (names.all nameOk = true ∧ (nameM names 0 []).length = names.length ∧ names.length ≤ 64)

theorem all_take {names : List (List Nat)} {j : Nat} {s : List Nat} (h : (names.take j).all nameOk = true) (hj : names[j]? = some s) (hs : nameOk s = true) : (names.take (j + 1)).all nameOk = true := by
  rw [List.take_add_one, hj]; simp [List.all_append, h, hs]
theorem not_all {names : List (List Nat)} {j : Nat} {s : List Nat} (hj : names[j]? = some s) (hs : nameOk s ≠ true) : numsOk names = false := by
  unfold numsOk
  refine decide_eq_false (fun h => hs ?_)
  exact List.all_eq_true.1 h.1 s (List.mem_of_getElem? hj)
theorem nameM_take {names : List (List Nat)} {j : Nat} {s : List Nat} (hj : names[j]? = some s) : nameM (names.take (j + 1)) 0 [] = assocSet (strOf s) (.int .i64 (j : Nat)) (nameM (names.take j) 0 []) := by
  have hlt : j < names.length := (List.getElem?_eq_some_iff.1 hj).1
  rw [List.take_add_one, hj]
  show nameM (names.take j ++ [s]) 0 [] = _
  rw [nameM_app, List.length_take, Nat.min_eq_left (by omega), Nat.zero_add]
def NamesOk (names : List (List Nat)) : Prop := ∀ s ∈ names, (∀ x ∈ s, x < 256) ∧ s.length ≤ 9223372036854775807

theorem numbers_fn (names : List (List Nat)) (A : Option Addr) (n c : Nat) (w : World) (h : Sl w 1 A n c (strsV names)) (hb : NamesOk names) :
    Fn Tryz.prog 68 [.slice A n c] w (fun v w' => ∃ v1, v = .tuple #[v1, .bool (numsOk names)] ∧ Ext w w' ∧ (numsOk names = true → ∃ r, v1 = .map (some r) ∧ w.heap.size ≤ r ∧ MapAt strK w' r (nameM names 0 []))) := by
  have hn : names.length = n := by have := h.len; rw [strsV_length] at this; omega
  have hn9 : n ≤ 9223372036854775807 := by have := h.le; have := h.cap; simp only [maxLen] at this; omega
  refine fn_of_exec (c := { c68 with cuts := [] }) gx_ok Tryz.func68 rfl rfl rfl ?_
  refine at_makeMap gx_ok strK rfl ?_
  intro w1 hE1 hz1 hm1
  refine loop gx_ok [10] (fun s : Nat => [.int .i64 s]) (fun s w' => Ext w w' ∧ s ≤ n ∧ (names.take s).all nameOk = true ∧ MapAt strK w' w.heap.size (nameM (names.take s) 0 [])) (fun s _ => n - s) 0 rfl ⟨hE1, Nat.zero_le _, rfl, hm1⟩ ?_
  rintro s w3 ⟨hE3, hsn, hall, hm3⟩
  refine wif_d (fun h3 => ?_) (fun h3 => ?_)
  · have hgs : names[s]? = some names[s] := List.getElem?_eq_getElem (by omega)
    generalize names[s] = t at hgs
    obtain ⟨ht8, htl⟩ := hb t (List.mem_of_getElem? hgs)
    refine index_sl (h.ext hE3) (by omega) (fun ad u hA hu hcell => ?_)
    rw [strsV_get hgs] at hu
    cases hu
    refine load hcell ?_
    have hE3' := hE3
    have bad : nameOk t ≠ true → ∀ w', Ext w w' → ∃ v1, (.tuple #[.map none, .bool false] : Value) = .tuple #[v1, .bool (numsOk names)] ∧ Ext w w' ∧ (numsOk names = true → ∃ r, v1 = .map (some r) ∧ w.heap.size ≤ r ∧ MapAt strK w' r (nameM names 0 [])) := fun hb w' hE => by
      refine ⟨.map none, ?_, hE, fun h => ?_⟩
      · rw [not_all hgs hb]
      · rw [not_all hgs hb] at h; cases h
    have e0 : ((strOf t = (⟨#[]⟩ : ByteArray)) ↔ t = []) := ⟨fun h => strOf_inj ht8 (by simp) h, fun h => by rw [h]; rfl⟩
    have e1 : ((strOf t = (⟨#[116, 114, 117, 101]⟩ : ByteArray)) ↔ t = trueL) := ⟨fun h => strOf_inj ht8 (by decide) h, fun h => by rw [h]; rfl⟩
    have e2 : ((strOf t = (⟨#[102, 97, 108, 115, 101]⟩ : ByteArray)) ↔ t = falseL) := ⟨fun h => strOf_inj ht8 (by decide) h, fun h => by rw [h]; rfl⟩
    by_cases h4 : t = []
    · refine wif_dt (e0.2 h4) ?_
      exact bad (by unfold nameOk; simp [h4]) _ hE3
    refine wif_df (fun h => h4 (e0.1 h)) ?_
    refine call (identifier_fn t w3 ht8 htl) ?_
    rintro v w4 ⟨rfl, hE4⟩
    have hs4 : ((strOf t).size : Int) = (t.length : Nat) := by rw [strOf_size]
    by_cases h5 : ¬ idLen t = t.length
    · refine wif_net (fun h => h5 (by omega)) ?_
      exact bad (by unfold nameOk; simp [h5]) _ (hE3.trans hE4)
    replace h5 := Decidable.not_not.1 h5
    refine wif_nef (by omega) ?_
    by_cases h6 : t = trueL
    · refine wif_dt (e1.2 h6) ?_
      exact bad (by unfold nameOk; simp [h6]) _ (hE3.trans hE4)
    refine wif_df (fun h => h6 (e1.1 h)) ?_
    by_cases h7 : t = falseL
    · refine wif_dt (e2.2 h7) ?_
      exact bad (by unfold nameOk; simp [h7]) _ (hE3.trans hE4)
    refine wif_df (fun h => h7 (e2.1 h)) ?_
    have hok : nameOk t = true := by unfold nameOk; simp [h4, h5, h6, h7]
    refine at_mapUpdate (kv := strK) (a := strOf t) gx_ok rfl rfl rfl rfl rfl KeyV.str rfl rfl rfl (hm3.ext hE4) (fun w5 hg5 _ hm5 => ?_)
    refine norm_i64_to ((s + 1 : Nat) : Int) (by omega) (by omega) ?_
    refine ⟨s + 1, rfl, ⟨(hE3.trans hE4).own hg5 (Nat.le_refl _), by omega, all_take hall hgs hok, by rw [nameM_take hgs]; exact hm5⟩, by show n - (s + 1) < n - s; omega⟩
  · have : s = n := by omega
    subst this
    have ht : names.take s = names := List.take_of_length_le (by omega)
    rw [ht] at hall hm3
    refine at_maplen (kv := strK) gx_ok rfl rfl rfl rfl hm3 ?_
    refine wif_eq (fun h4 => ?_) (fun h4 => ?_)
    · refine ⟨.map (some w.heap.size), ?_, hE3, fun _ => ⟨_, rfl, Nat.le_refl _, hm3⟩⟩
      have : decide ((names.length : Int) ≤ 64) = numsOk names := by unfold numsOk; exact decide_eq_decide.2 ⟨fun h => ⟨hall, by omega, by omega⟩, fun h => by omega⟩
      rw [← this, hn]
    · refine ⟨.map (some w.heap.size), ?_, hE3, fun _ => ⟨_, rfl, Nat.le_refl _, hm3⟩⟩
      have : numsOk names = false := by unfold numsOk; exact decide_eq_false (fun h => by omega)
      rw [this]
end
end
end Go.Proofs.YtedopgkbajhanaaGreatDoor

namespace Go.Proofs.YtedopgkbajhanaaGreatDoor
section
section
open Go Go.RowKit

theorem qloadN {C : World → Prop} {p : Addr} {n : Nat} {vs : List Value} {K : List Value → Prop} (hl : vs.length = n) (h : ∀ w, C w → ∀ j v, vs[j]? = some v → w.cell? (p.add j) = some v) (k : K vs) : QLoadN C p n K := by unfold QLoadN; exact ⟨vs, hl, h, k⟩

/-- Nodes in memory. -/
def fzV (f : List Fz) : List Value := f.flatMap Fz.cells
theorem fzV_snoc (f : List Fz) (x : Fz) : fzV (f ++ [x]) = fzV f ++ x.cells := by simp [fzV]

/-- The reader at r reads as p; its nodes lie at A, in memory from base on. -/
structure Rd (w : World) (base r : Nat) (A : Option Addr) (c : Nat) (mp : Value) (p : Ps) : Prop where
  blk : Blk w r 123 [mp, .string (strOf p.r), .slice A p.f.length c, .bool p.u]
  own : Own w base 205 4 A p.f.length c (fzV p.f)
  lt : r < base
  top : base ≤ w.heap.size
  b8 : ∀ x ∈ p.r, x < 256
  lim : p.f.length + p.r.length ≤ 1000000000000
theorem Rd.ext {w w' : World} {base r : Nat} {A : Option Addr} {c : Nat} {mp : Value} {p : Ps} (h : Rd w base r A c mp p) (k : Ext w w') : Rd w' base r A c mp p :=
  ⟨h.blk.ext k, h.own.ext k, h.lt, Nat.le_trans h.top k.size, h.b8, h.lim⟩
/-- What the parser writes. -/
def RdS (r : Nat) (A : Option Addr) : Nat → Prop := fun k => k = r ∨ rowS A k
/-- The reader moved on. -/
def RdTo (w : World) (base r : Nat) (A : Option Addr) (mp : Value) (p : Ps) (w' : World) : Prop := ∃ A' c', Rd w' base r A' c' mp p ∧ Mod (RdS r A) w w' ∧ Moved w A A'
theorem RdTo.refl {w : World} {base r : Nat} {A : Option Addr} {c : Nat} {mp : Value} {p : Ps} (h : Rd w base r A c mp p) : RdTo w base r A mp p w := ⟨A, c, h, Mod.refl _ _, Moved.refl _ _⟩
theorem RdTo.step {w w1 w2 : World} {base r : Nat} {A A1 : Option Addr} {mp : Value} {p : Ps} (h : RdTo w1 base r A1 mp p w2) (hm : Mod (RdS r A) w w1) (hv : Moved w A A1) : RdTo w base r A mp p w2 := by
  obtain ⟨A2, c2, h2, hm2, hv2⟩ := h
  refine ⟨A2, c2, h2, hm.trans hm2 (fun i hi => ?_), hv.trans hv2 hm.size⟩
  rcases hi with rfl | hi
  · exact .inl (.inl rfl)
  · rcases hv.rows i hi with h | h
    · exact .inl (.inr h)
    · exact .inr h
theorem Rd.nrow {w : World} {base r : Nat} {A : Option Addr} {c : Nat} {mp : Value} {p : Ps} (h : Rd w base r A c mp p) : ¬ rowS A r := fun hr => by
  have := (h.own.rows r hr).1
  have := h.lt
  omega

theorem trimB_len (l : List Nat) : (trimB l).length ≤ l.length := (List.dropWhile_suffix _).sublist.length_le
theorem trimB_b8 {l : List Nat} (h : ∀ x ∈ l, x < 256) : ∀ x ∈ trimB l, x < 256 := fun x hx => h x ((List.dropWhile_suffix _).subset hx)
theorem skipP_eq (sym : List Nat) (p : Ps) : skipP sym p = (sym.isPrefixOf (trimB p.r), { p with r := if sym.isPrefixOf (trimB p.r) then (trimB p.r).drop sym.length else trimB p.r }) := by
  unfold skipP; cases sym.isPrefixOf (trimB p.r) <;> rfl

theorem skip_fn (base r : Nat) (A : Option Addr) (c : Nat) (mp : Value) (p : Ps) (sym : List Nat) (w : World) (h : Rd w base r A c mp p) (hs : ∀ x ∈ sym, x < 256) :
    Fn Tryz.prog 71 [.pointer (some ⟨r, 0, none⟩), .string (strOf sym)] w (fun v w' => v = .bool (skipP sym p).1 ∧ Rd w' base r A c mp (skipP sym p).2 ∧ Mod (· = r) w w') := by
  have hl := h.lim
  have htl := trimB_len p.r
  have ht8 := trimB_b8 h.b8
  refine fn_of_exec (c := c71) gx_ok Tryz.func71 rfl rfl rfl ?_
  refine load_blk h.blk rfl ?_
  refine call (trimleft_fn p.r w h.b8 (by omega)) ?_
  rintro v w1 ⟨rfl, hE1⟩
  refine store_mod (h.blk.ext hE1) (by simp) (fun w2 hm2 hB2 => ?_)
  refine load_blk hB2 rfl ?_
  refine call (cutprefix_fn (trimB p.r) sym w2 ht8 hs) ?_
  rintro v w3 ⟨rfl, rfl⟩
  have hM : ∀ w3, Mod (· = r) w2 w3 → Mod (· = r) w w3 := fun w3 hm3 => ((Mod.of_ext (· = r) hE1).trans hm2 (fun i hi => .inl hi)).trans hm3 (fun i hi => .inl hi)
  rw [skipP_eq]
  unfold cutV
  cases hp : sym.isPrefixOf (trimB p.r) with
  | true =>
    refine store_mod hB2 (by simp) (fun w3 hm3 hB3 => ?_)
    have hmm := hM w3 hm3
    have hlen : ((trimB p.r).drop sym.length).length ≤ p.r.length := by rw [List.length_drop]; omega
    exact ⟨rfl, ⟨hB3, h.own.mod hmm (fun i hi e => by subst e; exact h.nrow hi), h.lt, Nat.le_trans h.top hmm.size, fun x hx => ht8 x (List.mem_of_mem_drop hx), by show p.f.length + ((trimB p.r).drop sym.length).length ≤ _; omega⟩, hmm⟩
  | false =>
    refine store_mod hB2 (by simp) (fun w3 hm3 hB3 => ?_)
    have hmm := hM w3 hm3
    exact ⟨rfl, ⟨hB3, h.own.mod hmm (fun i hi e => by subst e; exact h.nrow hi), h.lt, Nat.le_trans h.top hmm.size, ht8, by show p.f.length + (trimB p.r).length ≤ _; omega⟩, hmm⟩

theorem put_fn (base r : Nat) (A : Option Addr) (c : Nat) (mp : Value) (p : Ps) (x : Fz) (w : World) (h : Rd w base r A c mp p) (hl : p.f.length + p.r.length + 1 ≤ 1000000000000) :
    Fn Tryz.prog 139 [.pointer (some ⟨r, 0, none⟩), .agg x.cells.toArray] w (fun v w' => v = .int .i64 (p.f.length : Nat) ∧ RdTo w base r A mp (putP x p).2 w') := by
  refine fn_of_exec (c := c139) gx_ok Tryz.func139 rfl rfl rfl ?_
  refine new (fun w1 hE1 hz1 hB1 => ?_)
  have h1 := h.ext hE1
  have hrows := h.own.rows
  have hC0 : Mod (rowS A) w1 w1.drew := Mod.of_ext _ (Ext.drew w1)
  refine draw_plan gx_ok (Mod (rowS A) w1) 8 [(true, 0), (true, 1), (true, 2), (true, 3), (true, 4), (true, 5), (false, 6), (false, 7)] (by kernel_rfl) hC0 ?_
  refine qload (v := .slice A p.f.length c) (fun w' hw' => by rw [(h1.blk.mod hw' h.nrow).cell]; rfl) ?_
  have hn1 : ¬ rowS A w.heap.size := fun hr => by have := (hrows _ hr).2; omega
  refine qloadN (vs := x.cells) rfl (fun w' hw' j v hj => by rw [(hB1.mod hw' hn1).cell]; exact hj) ?_
  refine at_buildN gx_ok [x.cells] rfl rfl rfl rfl rfl ⟨rfl, rfl, ⟨⟩⟩ rfl (fun cs h => by simp only [List.mem_singleton] at h; subst h; rfl) rfl (by decide) (by decide) ?_
  intro w2 hE2 hz2 hB2
  have hE12 := (Ext.drew w1).trans hE2
  have h2 := h1.ext hE12
  refine ⟨Mod.of_ext _ hE12, ?_⟩
  have hs2 : Sl w2 4 (some ⟨w1.drew.heap.size, 0, none⟩) 1 1 x.cells := Sl.own (sz := 4) (n := 1) hB2 (Nat.le_refl _) (by decide) (by simp [Fz.cells])
  refine at_app gx_ok rfl rfl rfl rfl rfl (by decide) rfl rfl ⟨_, rfl⟩ rfl rfl h2.own hs2 (by intro u hu; simp [Fz.cells] at hu; rcases hu with rfl | rfl | rfl | rfl <;> rfl) (by unfold maxLen; omega) (by show _ * 32 ≤ _; omega) h2.top ?_
  intro A' c' w3 hm3 hown3 hmv3
  have hM13 : Mod (rowS A) w1 w3 := (Mod.of_ext (rowS A) hE12).trans hm3 (fun i hi => .inl hi)
  refine ⟨hM13, ?_⟩
  have hB3 := h1.blk.mod hM13 h.nrow
  refine store_mod hB3 (by simp) (fun w4 hm4 hB4 => ?_)
  refine load_blk hB4 rfl ?_
  have hz := hE12.size
  have hrows3 : ∀ k, rowS A' k → base ≤ k := fun k hk => (hown3.rows k hk).1
  have hM4 : Mod (RdS r A) w w4 := ((Mod.of_ext (RdS r A) hE1).trans hM13 (fun i hi => .inl (.inr hi))).trans hm4 (fun i hi => .inl (.inl hi))
  refine norm_i64_to ((p.f.length : Nat) : Int) (by omega) (by omega) ?_
  refine ⟨rfl, A', c', ⟨?_, ?_, h.lt, Nat.le_trans h.top hM4.size, h.b8, ?_⟩, hM4, hmv3.back (Nat.le_trans hE1.size hz)⟩
  · have e : (putP x p).2.f.length = p.f.length + 1 := by simp [putP]
    rw [e]; exact hB4
  · have e : (putP x p).2.f.length = p.f.length + 1 := by simp [putP]
    rw [e, show fzV (putP x p).2.f = fzV p.f ++ x.cells from fzV_snoc _ _]
    exact hown3.mod hm4 (fun k hk e => by have := hrows3 k hk; have := h.lt; omega)
  · have e : (putP x p).2.f.length = p.f.length + 1 := by simp [putP]
    rw [e]; show p.f.length + 1 + p.r.length ≤ _; omega
end

section
open Go Go.RowKit

theorem at_panic {c : Cx} {o : Oper} {S : Env} {w : World} {K : Env → World → Prop} {Q : Post} {t : Nat} {v : Value} {x : Operand} (ho : o.op = .panic x) (hx : S.ev x = some (.iface t v))
    (k : Q (.panic [{ v := .iface t v, recovered := false }]) S w) : AtOp c o S w K Q := by
  unfold AtOp
  intro a hf
  have e1 := hf.ev hx
  unfold Oper.wp
  have : (execOp a.eval o).run c.g.P w = .halt (.panic (.iface t v)) w := by
    simp only [execOp, ho, e1]
    simp [Instr.panic, goPanic]
  rw [this]
  exact ⟨S, hf, k⟩

/-- What a wrong expression ends with. -/
def synPan : List PanicEntry := [{ v := .iface 30 (.int .i64 31), recovered := false }]
def PanTo (w : World) (r : Nat) (A : Option Addr) (ch : List PanicEntry) (w' : World) : Prop := ch = synPan ∧ Mod (RdS r A) w w'
theorem RdS.trans {w w1 w2 : World} {r : Nat} {A A1 : Option Addr} (hm : Mod (RdS r A) w w1) (hv : Moved w A A1) (h : Mod (RdS r A1) w1 w2) : Mod (RdS r A) w w2 :=
  hm.trans h (fun i hi => by
    rcases hi with rfl | hi
    · exact .inl (.inl rfl)
    · rcases hv.rows i hi with h | h
      · exact .inl (.inr h)
      · exact .inr h)
theorem PanTo.step {w w1 w2 : World} {r : Nat} {A A1 : Option Addr} {ch : List PanicEntry} (h : PanTo w1 r A1 ch w2) (hm : Mod (RdS r A) w w1) (hv : Moved w A A1) : PanTo w r A ch w2 := ⟨h.1, RdS.trans hm hv h.2⟩

/-- An operand takes something, and makes no more nodes than it takes bytes. -/
def Lim (opd : Ps → Option (Nat × Ps)) : Prop := ∀ p a p', opd p = some (a, p') → p'.f.length + p'.r.length ≤ p.f.length + p.r.length ∧ p'.r.length < p.r.length

theorem skip_len (sym : List Nat) (p p1 : Ps) (b : Bool) (h : skipP sym p = (b, p1)) : p1.f = p.f ∧ p1.u = p.u ∧ p1.r.length ≤ p.r.length ∧ (b = true → p1.r.length + sym.length ≤ p.r.length) := by
  rw [skipP_eq] at h
  have ht := trimB_len p.r
  cases h
  refine ⟨rfl, rfl, ?_, fun hb => ?_⟩
  · show List.length (if _ then _ else _) ≤ _
    split
    · rw [List.length_drop]; omega
    · exact ht
  · show List.length (if _ then _ else _) + _ ≤ _
    rw [if_pos hb, List.length_drop]
    have := (List.isPrefixOf_iff_prefix.1 hb).length_le
    omega

theorem loopP_lim {sym : List Nat} {op : Int} {opd : Ps → Option (Nat × Ps)} (hs : 0 < sym.length) (hl : Lim opd) : ∀ (m a : Nat) (p : Ps) (b : Nat) (p' : Ps), loopP sym op opd m a p = some (b, p') → p'.f.length + p'.r.length ≤ p.f.length + p.r.length ∧ p'.r.length ≤ p.r.length
  | 0, a, p, b, p', h => by cases h
  | m + 1, a, p, b, p', h => by
    unfold loopP at h
    cases hk : skipP sym p with
    | mk t p1 =>
      obtain ⟨h1, h2, h3, h4⟩ := skip_len sym p p1 t hk
      rw [hk] at h
      cases t with
      | false => cases h; rw [h1]; omega
      | true =>
        simp only at h
        cases ho : opd p1 with
        | none => rw [ho] at h; cases h
        | some q =>
          obtain ⟨d, p2⟩ := q
          rw [ho] at h
          simp only at h
          obtain ⟨h5, h6⟩ := hl p1 d p2 ho
          have := loopP_lim hs hl m _ _ b p' h
          simp only [List.length_append, List.length_cons, List.length_nil] at this
          have := h4 rfl
          rw [h1] at h5
          omega
theorem chainP_lim {sym : List Nat} {op : Int} {opd : Ps → Option (Nat × Ps)} (hs : 0 < sym.length) (hl : Lim opd) : Lim (chainP sym op opd) := by
  intro p b p' h
  unfold chainP at h
  cases ho : opd p with
  | none => rw [ho] at h; cases h
  | some q =>
    obtain ⟨a, p1⟩ := q
    rw [ho] at h
    simp only at h
    have h1 := hl p a p1 ho
    have h2 := loopP_lim hs hl _ _ _ b p' h
    omega

/-- What an operand does. -/
structure OpdC (L base r : Nat) (mp : Value) (fid : Nat) (args : List Value) (G : World → Option Addr → Prop) (opd : Ps → Option (Nat × Ps)) : Prop where
  run : ∀ w A c p, Rd w base r A c mp p → G w A → p.r.length < L → FnP Tryz.prog fid args w (fun v w' => ∃ (a : Nat) (p' : Ps), opd p = some (a, p') ∧ v = .int .i64 (a : Nat) ∧ RdTo w base r A mp p' w') (fun ch w' => opd p = none ∧ PanTo w r A ch w')
  stay : ∀ w w' A A', G w A → Mod (RdS r A) w w' → Moved w A A' → G w' A'
  lim : Lim opd

structure Est where
  a : Nat
  p : Ps
  A : Option Addr
  c : Nat

theorem expression_f (L base r : Nat) (A : Option Addr) (c : Nat) (mp : Value) (p : Ps) (sym : List Nat) (op : Int) (G : World → Option Addr → Prop) (opd : Ps → Option (Nat × Ps)) (w : World)
    (h : Rd w base r A c mp p) (hG : G w A) (hs : ∀ x ∈ sym, x < 256) (hs0 : 0 < sym.length) (hL : p.r.length < L) (H : OpdC L base r mp 110 [.pointer (some ⟨r, 0, none⟩)] G opd) :
    FnP Tryz.prog 108 [.pointer (some ⟨r, 0, none⟩), .string (strOf sym), .int .i64 op, .func (.func 110) #[.pointer (some ⟨r, 0, none⟩)] #[]] w
      (fun v w' => ∃ (a : Nat) (p' : Ps), chainP sym op opd p = some (a, p') ∧ v = .int .i64 (a : Nat) ∧ RdTo w base r A mp p' w') (fun ch w' => chainP sym op opd p = none ∧ PanTo w r A ch w') := by
  refine fnP_of_exec (c := { c108 with cuts := [] }) gx_ok Tryz.func108 rfl rfl rfl ?_
  refine callP (H.run w A c p h hG hL) ?_ ?_
  rotate_left
  · rintro ch w1 ⟨ho, hp⟩
    refine ⟨?_, hp⟩
    unfold chainP; rw [ho]
  rintro v w1 ⟨a, p1, ho, rfl, A1, c1, h1, hm1, hv1⟩
  obtain ⟨hl1, hl2⟩ := H.lim p a p1 ho
  have hch : chainP sym op opd p = loopP sym op opd (p1.r.length + 1) a p1 := by unfold chainP; rw [ho]
  refine loop gx_ok [9] (fun s : Est => [.int .i64 s.a]) (fun s w' => Rd w' base r s.A s.c mp s.p ∧ G w' s.A ∧ s.p.r.length < L ∧ Mod (RdS r A) w w' ∧ Moved w A s.A ∧ ∃ m, s.p.r.length < m ∧ loopP sym op opd m s.a s.p = chainP sym op opd p) (fun s _ => s.p.r.length) ⟨a, p1, A1, c1⟩ rfl ⟨h1, H.stay w w1 A A1 hG hm1 hv1, by show p1.r.length < L; omega, hm1, hv1, _, Nat.lt_succ_self _, hch.symm⟩ ?_
  rintro ⟨d, q, A2, c2⟩ w2 ⟨h2, hG2, hL2, hm2, hv2, m, hlm, hmm⟩
  simp only at h2 hG2 hL2 hm2 hv2 hlm hmm
  refine call (skip_fn base r A2 c2 mp q sym w2 h2 hs) ?_
  rintro v w3 ⟨rfl, h3, hm3⟩
  cases m with
  | zero => omega
  | succ m =>
  unfold loopP at hmm
  have hm3' : Mod (RdS r A2) w2 w3 := hm3.mono (fun i hi => .inl (.inl hi))
  have hm03 := RdS.trans hm2 hv2 hm3'
  cases hk : skipP sym q with
  | mk t q1 =>
    obtain ⟨k1, k2, k3, k4⟩ := skip_len sym q q1 t hk
    rw [hk] at h3 hmm
    simp only at h3
    cases t with
    | false =>
      refine wif_f rfl ?_
      exact ⟨d, q1, hmm.symm, rfl, A2, c2, h3, hm03, hv2⟩
    | true =>
      refine wif_t rfl ?_
      simp only at hmm
      have k5 := k4 rfl
      have hG3 := H.stay w2 w3 A2 A2 hG2 hm3' (Moved.refl _ _)
      refine callP (H.run w3 A2 c2 q1 h3 hG3 (by omega)) ?_ ?_
      rotate_left
      · rintro ch w4 ⟨ho2, hp⟩
        rw [ho2] at hmm
        exact ⟨hmm.symm, hp.step hm03 hv2⟩
      rintro v w4 ⟨b, q2, ho2, rfl, A4, c4, h4, hm4, hv4⟩
      obtain ⟨l1, l2⟩ := H.lim q1 b q2 ho2
      rw [ho2] at hmm
      simp only at hmm
      have hlq := h2.lim
      rw [k1] at l1
      have hG4 := H.stay w3 w4 A2 A4 hG3 hm4 hv4
      have hm04 := RdS.trans hm03 hv2 hm4
      have hv04 := hv2.trans hv4 hm03.size
      refine call (put_fn base r A4 c4 mp q2 ⟨op, 0, d, b⟩ w4 h4 (by omega)) ?_
      rintro v w5 ⟨rfl, A5, c5, h5, hm5, hv5⟩
      refine ⟨⟨q2.f.length, (putP ⟨op, 0, d, b⟩ q2).2, A5, c5⟩, rfl, ⟨h5, H.stay w4 w5 A4 A5 hG4 hm5 hv5, ?_, RdS.trans hm04 hv04 hm5, hv04.trans hv5 hm04.size, m, ?_, hmm⟩, ?_⟩
      · show q2.r.length < L; omega
      · show q2.r.length < m; omega
      · show q2.r.length < q.r.length; omega

theorem expression_w (L base r : Nat) (A : Option Addr) (c : Nat) (mp : Value) (p : Ps) (sym : List Nat) (op : Int) (x : Nat) (G : World → Option Addr → Prop) (opd : Ps → Option (Nat × Ps)) (w : World)
    (h : Rd w base r A c mp p) (hG : G w A) (hs : ∀ x ∈ sym, x < 256) (hs0 : 0 < sym.length) (hL : p.r.length < L) (H : OpdC L base r mp 109 [.pointer (some ⟨x, 0, none⟩)] G opd) :
    FnP Tryz.prog 108 [.pointer (some ⟨r, 0, none⟩), .string (strOf sym), .int .i64 op, .func (.func 109) #[] #[.pointer (some ⟨x, 0, none⟩)]] w
      (fun v w' => ∃ (a : Nat) (p' : Ps), chainP sym op opd p = some (a, p') ∧ v = .int .i64 (a : Nat) ∧ RdTo w base r A mp p' w') (fun ch w' => chainP sym op opd p = none ∧ PanTo w r A ch w') := by
  refine fnP_of_exec (c := { c108 with cuts := [] }) gx_ok Tryz.func108 rfl rfl rfl ?_
  refine callP (H.run w A c p h hG hL) ?_ ?_
  rotate_left
  · rintro ch w1 ⟨ho, hp⟩
    refine ⟨?_, hp⟩
    unfold chainP; rw [ho]
  rintro v w1 ⟨a, p1, ho, rfl, A1, c1, h1, hm1, hv1⟩
  obtain ⟨hl1, hl2⟩ := H.lim p a p1 ho
  have hch : chainP sym op opd p = loopP sym op opd (p1.r.length + 1) a p1 := by unfold chainP; rw [ho]
  refine loop gx_ok [9] (fun s : Est => [.int .i64 s.a]) (fun s w' => Rd w' base r s.A s.c mp s.p ∧ G w' s.A ∧ s.p.r.length < L ∧ Mod (RdS r A) w w' ∧ Moved w A s.A ∧ ∃ m, s.p.r.length < m ∧ loopP sym op opd m s.a s.p = chainP sym op opd p) (fun s _ => s.p.r.length) ⟨a, p1, A1, c1⟩ rfl ⟨h1, H.stay w w1 A A1 hG hm1 hv1, by show p1.r.length < L; omega, hm1, hv1, _, Nat.lt_succ_self _, hch.symm⟩ ?_
  rintro ⟨d, q, A2, c2⟩ w2 ⟨h2, hG2, hL2, hm2, hv2, m, hlm, hmm⟩
  simp only at h2 hG2 hL2 hm2 hv2 hlm hmm
  refine call (skip_fn base r A2 c2 mp q sym w2 h2 hs) ?_
  rintro v w3 ⟨rfl, h3, hm3⟩
  cases m with
  | zero => omega
  | succ m =>
  unfold loopP at hmm
  have hm3' : Mod (RdS r A2) w2 w3 := hm3.mono (fun i hi => .inl (.inl hi))
  have hm03 := RdS.trans hm2 hv2 hm3'
  cases hk : skipP sym q with
  | mk t q1 =>
    obtain ⟨k1, k2, k3, k4⟩ := skip_len sym q q1 t hk
    rw [hk] at h3 hmm
    simp only at h3
    cases t with
    | false =>
      refine wif_f rfl ?_
      exact ⟨d, q1, hmm.symm, rfl, A2, c2, h3, hm03, hv2⟩
    | true =>
      refine wif_t rfl ?_
      simp only at hmm
      have k5 := k4 rfl
      have hG3 := H.stay w2 w3 A2 A2 hG2 hm3' (Moved.refl _ _)
      refine callP (H.run w3 A2 c2 q1 h3 hG3 (by omega)) ?_ ?_
      rotate_left
      · rintro ch w4 ⟨ho2, hp⟩
        rw [ho2] at hmm
        exact ⟨hmm.symm, hp.step hm03 hv2⟩
      rintro v w4 ⟨b, q2, ho2, rfl, A4, c4, h4, hm4, hv4⟩
      obtain ⟨l1, l2⟩ := H.lim q1 b q2 ho2
      rw [ho2] at hmm
      simp only at hmm
      have hlq := h2.lim
      rw [k1] at l1
      have hG4 := H.stay w3 w4 A2 A4 hG3 hm4 hv4
      have hm04 := RdS.trans hm03 hv2 hm4
      have hv04 := hv2.trans hv4 hm03.size
      refine call (put_fn base r A4 c4 mp q2 ⟨op, 0, d, b⟩ w4 h4 (by omega)) ?_
      rintro v w5 ⟨rfl, A5, c5, h5, hm5, hv5⟩
      refine ⟨⟨q2.f.length, (putP ⟨op, 0, d, b⟩ q2).2, A5, c5⟩, rfl, ⟨h5, H.stay w4 w5 A4 A5 hG4 hm5 hv5, ?_, RdS.trans hm04 hv04 hm5, hv04.trans hv5 hm04.size, m, ?_, hmm⟩, ?_⟩
      · show q2.r.length < L; omega
      · show q2.r.length < m; omega
      · show q2.r.length < q.r.length; omega
end

section
open Go Go.RowKit

theorem need_to {p : Prop} {v v' : Value} {K : Value → Prop} (hp : p) (h : v = v') (k : K v') : Need p v K := by unfold Need; exact ⟨hp, by rw [h]; exact k⟩
theorem MapAt.mod {α : Type} {kv : α → Value} {S : Nat → Prop} {w w' : World} {r : Nat} {m : List (α × Value)} (h : MapAt kv w r m) (k : Mod S w w') (hn : ¬ S r) : MapAt kv w' r m := by
  obtain ⟨bs, ck, hl, hb⟩ := h.ex
  exact ⟨bs, ck, hl, (k.block r (Array.getElem?_eq_some_iff.1 hb).1 hn).trans hb⟩
theorem at_lookup_ok' {α : Type} [DecidableEq α] {kv : α → Value} {c : Cx} {o : Oper} {S : Env} {w : World} {K : Env → World → Prop} {Q : Post} {t ke e : Nat} {r rk re : TyRow} {x y : Operand} {q : Nat} {m : List (α × Value)} {a : α} {v : Value} {b : Bool} (hg : c.g.Ok)
    (ho : o.op = .lookup t x y true) (hr : rowOf c.g.tys t = some r) (hd : r.d = .map ke e) (hrk : rowOf c.g.tys ke = some rk) (hre : rowOf c.g.tys e = some re) (hk : KeyV rk.d kv)
    (hx : S.ev x = some (.map (some q))) (hy : S.ev y = some (kv a)) (hm : MapAt kv w q m) (hv : (assoc a m).getD re.z = v) (hb : (assoc a m).isSome = b) (k : putK c S o.dst (.v (.tuple #[v, .bool b])) (fun S => K S w)) : AtOp c o S w K Q := by
  subst hv; subst hb
  exact at_lookup_ok hg ho hr hd hrk hre hk hx hy hm k

section
variable (ix : List Nat → Option Nat) (n : Nat)
theorem facP_not {p p1 : Ps} (h : skipP [33] p = (true, p1)) : facP ix (n + 1) p = match facP ix n p1 with
    | none => none
    | some (a, p2) => some (putP ⟨3, 0, a, 0⟩ p2) := by rw [facP, h] <;> rfl
theorem facP_par {p p1 p2 : Ps} (h : skipP [33] p = (false, p1)) (h2 : skipP [40] p1 = (true, p2)) : facP ix (n + 1) p = match wholeP ix n p2 with
    | none => none
    | some (a, p3) => match skipP [41] p3 with
      | (true, p4) => some (a, p4)
      | (false, _) => none := by rw [facP, h]; simp only; rw [h2]; rfl
theorem facP_id {p p1 p2 : Ps} (h : skipP [33] p = (false, p1)) (h2 : skipP [40] p1 = (false, p2)) : facP ix (n + 1) p = if idLen p2.r = 0 then none else
      if p2.r.take (idLen p2.r) = trueL then some (putP ⟨1, 0, 0, 0⟩ { p2 with r := p2.r.drop (idLen p2.r) }) else if p2.r.take (idLen p2.r) = falseL then some (putP ⟨0, 0, 0, 0⟩ { p2 with r := p2.r.drop (idLen p2.r) }) else
        some (putP ⟨2, ((ix (p2.r.take (idLen p2.r))).getD 0 : Nat), 0, 0⟩ { p2 with r := p2.r.drop (idLen p2.r), u := p2.u || (ix (p2.r.take (idLen p2.r))).isNone }) := by
  rw [facP, h]; simp only; rw [h2]; rfl
end

theorem facP_lim (ix : List Nat → Option Nat) : ∀ n, Lim (facP ix n)
  | 0 => fun p a p' h => by cases h
  | n + 1 => fun p a p' h => by
    have ih := facP_lim ix n
    cases hk : skipP [33] p with
    | mk t p1 =>
      obtain ⟨k1, _, k3, k4⟩ := skip_len _ p p1 t hk
      cases t with
      | true =>
        rw [facP_not ix n hk] at h
        cases ho : facP ix n p1 with
        | none => rw [ho] at h; cases h
        | some q =>
          obtain ⟨d, p2⟩ := q
          rw [ho] at h
          cases h
          have := ih p1 d p2 ho
          have := k4 rfl
          rw [k1] at *
          simp only [List.length_append, List.length_cons, List.length_nil] at *
          omega
      | false =>
        cases hk2 : skipP [40] p1 with
        | mk t2 p2 =>
          obtain ⟨j1, _, j3, j4⟩ := skip_len _ p1 p2 t2 hk2
          cases t2 with
          | true =>
            rw [facP_par ix n hk hk2] at h
            cases ho : wholeP ix n p2 with
            | none => rw [ho] at h; cases h
            | some q =>
              obtain ⟨d, p3⟩ := q
              rw [ho] at h
              simp only at h
              have hw : Lim (wholeP ix n) := chainP_lim (by decide) (chainP_lim (by decide) ih)
              have := hw p2 d p3 ho
              cases hk3 : skipP [41] p3 with
              | mk t3 p4 =>
                obtain ⟨i1, _, i3, i4⟩ := skip_len _ p3 p4 t3 hk3
                rw [hk3] at h
                cases t3 with
                | false => cases h
                | true =>
                  cases h
                  have := j4 rfl
                  have := i4 rfl
                  rw [i1]
                  rw [j1, k1] at *
                  omega
          | false =>
            rw [facP_id ix n hk hk2] at h
            split at h
            · cases h
            rename_i hn
            have hle := idLen_le p2.r
            have key : (p2.r.drop (idLen p2.r)).length + 1 ≤ p2.r.length := by rw [List.length_drop]; omega
            rw [j1, k1] at *
            split at h
            · cases h; simp only [List.length_append, List.length_cons, List.length_nil]; rw [j1, k1]; omega
            split at h
            · cases h; simp only [List.length_append, List.length_cons, List.length_nil]; rw [j1, k1]; omega
            · cases h; simp only [List.length_append, List.length_cons, List.length_nil]; rw [j1, k1]; omega

/-- The names' map lies at q, apart from what the parser writes. -/
def GM (r q : Nat) (m : List (ByteArray × Value)) (w : World) (A : Option Addr) : Prop := MapAt strK w q m ∧ q ≠ r ∧ ¬ rowS A q
theorem GM.stay {r q : Nat} {m : List (ByteArray × Value)} {w w' : World} {A A' : Option Addr} (h : GM r q m w A) (hm : Mod (RdS r A) w w') (hv : Moved w A A') : GM r q m w' A' :=
  ⟨h.1.mod hm (fun e => e.elim h.2.1 h.2.2), h.2.1, fun hr => (hv.rows q hr).elim h.2.2 (fun hle => by have := h.1.lt; omega)⟩
/-- And the box that holds the reader. -/
def GB (r q x : Nat) (m : List (ByteArray × Value)) (w : World) (A : Option Addr) : Prop := GM r q m w A ∧ Blk w x 121 [.pointer (some ⟨r, 0, none⟩)] ∧ x ≠ r ∧ ¬ rowS A x
theorem GB.stay {r q x : Nat} {m : List (ByteArray × Value)} {w w' : World} {A A' : Option Addr} (h : GB r q x m w A) (hm : Mod (RdS r A) w w') (hv : Moved w A A') : GB r q x m w' A' :=
  ⟨h.1.stay hm hv, h.2.1.mod hm (fun e => e.elim h.2.2.1 h.2.2.2), h.2.2.1, fun hr => (hv.rows x hr).elim h.2.2.2 (fun hle => by have := h.2.1.lt; omega)⟩

theorem conj_opd {L base r q x : Nat} {m : List (ByteArray × Value)} {mp : Value} {opd : Ps → Option (Nat × Ps)} (H : OpdC L base r mp 110 [.pointer (some ⟨r, 0, none⟩)] (GM r q m) opd) :
    OpdC L base r mp 109 [.pointer (some ⟨x, 0, none⟩)] (GB r q x m) (chainP [38, 38] 4 opd) := by
  refine ⟨fun w A c p h hG hL => ?_, fun w w' A A' h hm hv => h.stay hm hv, chainP_lim (by decide) H.lim⟩
  refine fnP_of_exec (c := { c109 with cuts := [] }) gx_ok Tryz.func109 rfl rfl rfl ?_
  refine load_blk0 hG.2.1 rfl ?_
  refine load_blk0 hG.2.1 rfl ?_
  refine callP (expression_f L base r A c mp p [38, 38] 4 (GM r q m) opd w h hG.1 (by decide) (by decide) hL H) ?_ ?_
  · rintro v w1 ⟨a, p', h1, rfl, h2⟩
    exact ⟨a, p', h1, rfl, h2⟩
  · rintro ch w1 h1
    exact h1

theorem whole_fn (L base r : Nat) (A : Option Addr) (c : Nat) (p : Ps) (q : Nat) (m : List (ByteArray × Value)) (mp : Value) (opd : Ps → Option (Nat × Ps)) (w : World) (h : Rd w base r A c mp p) (hG : GM r q m w A) (hL : p.r.length < L)
    (H : OpdC L base r mp 110 [.pointer (some ⟨r, 0, none⟩)] (GM r q m) opd) :
    FnP Tryz.prog 70 [.pointer (some ⟨r, 0, none⟩)] w (fun v w' => ∃ (a : Nat) (p' : Ps), chainP [124, 124] 5 (chainP [38, 38] 4 opd) p = some (a, p') ∧ v = .int .i64 (a : Nat) ∧ RdTo w base r A mp p' w') (fun ch w' => chainP [124, 124] 5 (chainP [38, 38] 4 opd) p = none ∧ PanTo w r A ch w') := by
  refine fnP_of_exec (c := { c70 with cuts := [] }) gx_ok Tryz.func70 rfl rfl rfl ?_
  refine new (fun w1 hE1 hz1 hB1 => ?_)
  refine load_blk0 hB1 rfl ?_
  have hlt := h.lt
  have htop := h.top
  have hM1 : Mod (RdS r A) w w1 := Mod.of_ext _ hE1
  have hn : ¬ rowS A w.heap.size := fun hr => by have := (h.own.rows _ hr).2; omega
  refine callP (expression_w L base r A c mp p [124, 124] 5 w.heap.size (GB r q w.heap.size m) (chainP [38, 38] 4 opd) w1 (h.ext hE1) ⟨hG.stay hM1 (Moved.refl _ _), hB1, by omega, hn⟩ (by decide) (by decide) hL (conj_opd H)) ?_ ?_
  · rintro v w2 ⟨a, p', h1, rfl, h2⟩
    exact ⟨a, p', h1, rfl, h2.step hM1 (Moved.refl _ _)⟩
  · rintro ch w2 ⟨h1, h2⟩
    exact ⟨h1, h2.step hM1 (Moved.refl _ _)⟩
end

section
open Go Go.RowKit

/-- The map tells the conditions' numbers. -/
def IxOk (ix : List Nat → Option Nat) (m : List (ByteArray × Value)) : Prop := ∀ l : List Nat, (∀ x ∈ l, x < 256) → assoc (strOf l) m = (ix l).map (fun v : Nat => Value.int .i64 v)

theorem factor_opd (ix : List Nat → Option Nat) (base r q : Nat) (m : List (ByteArray × Value)) (hix : IxOk ix m) : ∀ n, OpdC n base r (.map (some q)) 110 [.pointer (some ⟨r, 0, none⟩)] (GM r q m) (facP ix n)
  | 0 => ⟨fun w A c p _ _ h => absurd h (by omega), fun w w' A A' h hm hv => h.stay hm hv, facP_lim ix 0⟩
  | n + 1 => by
    have ih := factor_opd ix base r q m hix n
    refine ⟨fun w A c p h hG hL => ?_, fun w w' A A' h hm hv => h.stay hm hv, facP_lim ix (n + 1)⟩
    refine fnP_of_exec (c := { c110 with cuts := [] }) gx_ok Tryz.func110 rfl rfl rfl ?_
    refine call (skip_fn base r A c _ p [33] w h (by decide)) ?_
    rintro v w1 ⟨rfl, h1, hm1⟩
    have hm1' : Mod (RdS r A) w w1 := hm1.mono (fun i hi => .inl (.inl hi))
    have hG1 := hG.stay hm1' (Moved.refl _ _)
    cases hk : skipP [33] p with
    | mk t p1 =>
      obtain ⟨k1, _, k3, k4⟩ := skip_len _ p p1 t hk
      rw [hk] at h1
      simp only at h1
      cases t with
      | true =>
        refine wif_t rfl ?_
        have hl := k4 rfl
        simp only [List.length_cons, List.length_nil] at hl
        have hfac := facP_not ix n hk
        refine callP (ih.run w1 A c p1 h1 hG1 (by omega)) ?_ ?_
        rotate_left
        · rintro ch w2 ⟨ho, hp⟩
          rw [ho] at hfac
          exact ⟨hfac, hp.step hm1' (Moved.refl _ _)⟩
        rintro v w2 ⟨a, p2, ho, rfl, A2, c2, h2, hm2, hv2⟩
        rw [ho] at hfac
        have hl2 := (ih.lim p1 a p2 ho).1
        have hl0 := h.lim
        rw [k1] at hl2
        refine call (put_fn base r A2 c2 _ p2 ⟨3, 0, a, 0⟩ w2 h2 (by omega)) ?_
        rintro v w3 ⟨rfl, h3⟩
        exact ⟨p2.f.length, _, hfac, rfl, (h3.step hm2 hv2).step hm1' (Moved.refl _ _)⟩
      | false =>
        refine wif_f rfl ?_
        refine call (skip_fn base r A c _ p1 [40] w1 h1 (by decide)) ?_
        rintro v w2 ⟨rfl, h2, hm2⟩
        have hm2' : Mod (RdS r A) w1 w2 := hm2.mono (fun i hi => .inl (.inl hi))
        have hm02 := RdS.trans hm1' (Moved.refl _ _) hm2'
        have hG2 := hG1.stay hm2' (Moved.refl _ _)
        cases hk2 : skipP [40] p1 with
        | mk t2 p2 =>
          obtain ⟨j1, _, j3, j4⟩ := skip_len _ p1 p2 t2 hk2
          rw [hk2] at h2
          simp only at h2
          cases t2 with
          | true =>
            refine wif_t rfl ?_
            have hl := j4 rfl
            simp only [List.length_cons, List.length_nil] at hl
            have hfac := facP_par ix n hk hk2
            refine callP (whole_fn n base r A c p2 q m _ (facP ix n) w2 h2 hG2 (by omega) ih) ?_ ?_
            rotate_left
            · rintro ch w3 ⟨ho, hp⟩
              rw [show wholeP ix n p2 = none from ho] at hfac
              exact ⟨hfac, hp.step hm02 (Moved.refl _ _)⟩
            rintro v w3 ⟨a, p3, ho, rfl, A3, c3, h3, hm3, hv3⟩
            rw [show wholeP ix n p2 = some (a, p3) from ho] at hfac
            have hm03 := RdS.trans hm02 (Moved.refl _ _) hm3
            have hv03 := hv3.back hm02.size
            simp only at hfac
            refine call (skip_fn base r A3 c3 _ p3 [41] w3 h3 (by decide)) ?_
            rintro v w4 ⟨rfl, h4, hm4⟩
            have hm4' : Mod (RdS r A3) w3 w4 := hm4.mono (fun i hi => .inl (.inl hi))
            have hm04 := RdS.trans hm03 hv03 hm4'
            cases hk3 : skipP [41] p3 with
            | mk t3 p4 =>
              rw [hk3] at h4 hfac
              simp only at h4
              cases t3 with
              | true =>
                refine wif_f rfl ?_
                exact ⟨a, p4, hfac, rfl, A3, c3, h4, hm04, hv03⟩
              | false =>
                refine wif_t rfl ?_
                exact at_panic rfl rfl ⟨hfac, rfl, hm04⟩
          | false =>
            refine wif_f rfl ?_
            have hfac := facP_id ix n hk hk2
            have hlp := h2.lim
            have h8 := h2.b8
            have hM : ∀ w', Ext w2 w' → Mod (RdS r A) w w' := fun w' hE => RdS.trans hm02 (Moved.refl _ _) (Mod.of_ext _ hE)
            refine load_blk h2.blk rfl ?_
            refine call (identifier_fn p2.r w2 h8 (by omega)) ?_
            rintro v w3 ⟨rfl, hE3⟩
            have h3 := h2.ext hE3
            have hG3 := hG2.stay (Mod.of_ext _ hE3) (Moved.refl _ _)
            have hm03 := hM w3 hE3
            have hle := idLen_le p2.r
            by_cases hn : idLen p2.r = 0
            · refine wif_eqt (by omega) ?_
              rw [if_pos hn] at hfac
              exact at_panic rfl rfl ⟨hfac, rfl, hm03⟩
            refine wif_eqf (by omega) ?_
            rw [if_neg hn] at hfac
            generalize hd : idLen p2.r = d at *
            refine load_blk h3.blk rfl ?_
            refine need_to (v' := .string (strOf (p2.r.take d))) ⟨by omega, by omega, by rw [strOf_size]; omega⟩ ?_ ?_
            · simp only [Int.toNat_natCast, Int.toNat_zero, strOf_extract, List.drop_zero]
            refine load_blk h3.blk rfl ?_
            refine need_to (v' := .string (strOf (p2.r.drop d))) ⟨by omega, by rw [strOf_size]; omega, by omega⟩ ?_ ?_
            · simp only [Int.toNat_natCast, strOf_extract, strOf_size, List.take_length]
            refine store_mod h3.blk (by simp) (fun w4 hm4 hB4 => ?_)
            have hm4' : Mod (RdS r A) w3 w4 := hm4.mono (fun i hi => .inl (.inl hi))
            have hm04 := RdS.trans hm03 (Moved.refl _ _) hm4'
            have hG4 := hG3.stay hm4' (Moved.refl _ _)
            have hdl : (p2.r.drop d).length + d = p2.r.length := by rw [List.length_drop]; omega
            have h4 : Rd w4 base r A c (.map (some q)) { p2 with r := p2.r.drop d } := ⟨hB4, h3.own.mod hm4 (fun i hi e => by subst e; exact h3.nrow hi), h3.lt, Nat.le_trans h3.top hm4.size, B8.drop h8 d, by show p2.f.length + (p2.r.drop d).length ≤ _; omega⟩
            have hw8 := B8.take h8 d
            generalize hwd : p2.r.take d = word at *
            have e1 : ((strOf word = (⟨#[116, 114, 117, 101]⟩ : ByteArray)) ↔ word = trueL) := ⟨fun h => strOf_inj hw8 (by decide) h, fun h => by rw [h]; rfl⟩
            have e2 : ((strOf word = (⟨#[102, 97, 108, 115, 101]⟩ : ByteArray)) ↔ word = falseL) := ⟨fun h => strOf_inj hw8 (by decide) h, fun h => by rw [h]; rfl⟩
            by_cases h6 : word = trueL
            · rw [if_pos h6] at hfac
              refine wif_dt (e1.2 h6) ?_
              refine call (put_fn base r A c _ _ ⟨1, 0, 0, 0⟩ w4 h4 (by show p2.f.length + (p2.r.drop d).length + 1 ≤ _; omega)) ?_
              rintro v w5 ⟨rfl, h5⟩
              exact ⟨_, _, hfac, rfl, h5.step hm04 (Moved.refl _ _)⟩
            rw [if_neg h6] at hfac
            refine wif_df (fun h => h6 (e1.1 h)) ?_
            by_cases h7 : word = falseL
            · rw [if_pos h7] at hfac
              refine wif_dt (e2.2 h7) ?_
              refine call (put_fn base r A c _ _ ⟨0, 0, 0, 0⟩ w4 h4 (by show p2.f.length + (p2.r.drop d).length + 1 ≤ _; omega)) ?_
              rintro v w5 ⟨rfl, h5⟩
              exact ⟨_, _, hfac, rfl, h5.step hm04 (Moved.refl _ _)⟩
            rw [if_neg h7] at hfac
            refine wif_df (fun h => h7 (e2.1 h)) ?_
            refine load_blk0 h4.blk rfl ?_
            have hlook := hix word hw8
            refine at_lookup_ok' (kv := strK) (a := strOf word) (v := .int .i64 ((ix word).getD 0 : Nat)) (b := (ix word).isSome) gx_ok rfl rfl rfl rfl rfl KeyV.str rfl rfl hG4.1 (by rw [hlook]; cases ix word <;> rfl) (by rw [hlook]; cases ix word <;> rfl) ?_
            refine load_blk h4.blk rfl ?_
            have fin : ∀ w5 u, Mod (· = r) w4 w5 → Blk w5 r 123 [.map (some q), .string (strOf (p2.r.drop d)), .slice A p2.f.length c, .bool u] → u = (p2.u || (ix word).isNone) → Rd w5 base r A c (.map (some q)) { p2 with r := p2.r.drop d, u := p2.u || (ix word).isNone } ∧ Mod (RdS r A) w w5 := fun w5 u hm5 hB5 hu => by
              subst hu
              exact ⟨⟨hB5, h4.own.mod hm5 (fun i hi e => by subst e; exact h4.nrow hi), h4.lt, Nat.le_trans h4.top hm5.size, h4.b8, h4.lim⟩, RdS.trans hm04 (Moved.refl _ _) (hm5.mono (fun i hi => .inl (.inl hi)))⟩
            refine wif (fun hu => ?_) (fun hu => ?_)
            · refine store_mod h4.blk (by simp) (fun w5 hm5 hB5 => ?_)
              obtain ⟨h5, hm05⟩ := fin w5 true hm5 hB5 (by rw [show p2.u = true from hu]; rfl)
              refine call (put_fn base r A c _ _ ⟨2, ((ix word).getD 0 : Nat), 0, 0⟩ w5 h5 (by show p2.f.length + (p2.r.drop d).length + 1 ≤ _; omega)) ?_
              rintro v w6 ⟨rfl, h6⟩
              exact ⟨_, _, hfac, rfl, h6.step hm05 (Moved.refl _ _)⟩
            · refine store_mod h4.blk (by simp) (fun w5 hm5 hB5 => ?_)
              obtain ⟨h5, hm05⟩ := fin w5 (!(ix word).isSome) hm5 hB5 (by rw [show p2.u = false from hu]; cases ix word <;> rfl)
              refine call (put_fn base r A c _ _ ⟨2, ((ix word).getD 0 : Nat), 0, 0⟩ w5 h5 (by show p2.f.length + (p2.r.drop d).length + 1 ≤ _; omega)) ?_
              rintro v w6 ⟨rfl, h6⟩
              exact ⟨_, _, hfac, rfl, h6.step hm05 (Moved.refl _ _)⟩
end

section
open Go Go.RowKit

abbrev GPost := Exit → Act → World → Prop
def runs (P : Program) : List Code → GPost → Act → World → Prop
  | [], G, a, w => G .normal a w
  | y :: ys, G, a, w => y.wp P (fun e a w => match e with
    | .normal => runs P ys G a w
    | e => G e a w) a w
/-- From here on, whatever is deferred. -/
@[irreducible] def AtG (c : Cx) (l : List Code) (S : Env) (w : World) (G : GPost) : Prop := ∀ a, Fits c.N S a → runs c.g.P l G a w
@[irreducible] def OutG (c : Cx) (S : Env) (w : World) (e : Exit) (G : GPost) : Prop := ∀ a, Fits c.N S a → G e a w

section
variable {c : Cx} {S : Env} {w : World} {G : GPost}

theorem atG_seq {x y : Code} {l : List Code} (h : AtG c (x :: y :: l) S w G) : AtG c (.seq x y :: l) S w G := by
  unfold AtG at *
  intro a hf
  have h1 := h a hf
  unfold runs at h1
  unfold runs
  refine wp_seq (wp_mono h1 (fun e a w hq => ?_))
  cases e <;> first | exact hq | (unfold runs at hq; exact hq)
theorem atG_exec (hg : c.g.Ok) {x : Code} {l : List Code} (h : exec c x S w (fun e S w => match e with
    | .normal => AtG c l S w G
    | e => OutG c S w e G)) : AtG c (x :: l) S w G := by
  unfold AtG
  intro a hf
  unfold runs
  refine wp_mono (exec_sound hg x S w _ a h hf) (fun e a w ⟨S', hf', hq⟩ => ?_)
  cases e with
  | normal => simp only at hq; unfold AtG at hq; exact hq a hf'
  | exit i => simp only at hq; unfold OutG at hq; exact hq a hf'
  | goto i => simp only at hq; unfold OutG at hq; exact hq a hf'
  | ret => simp only at hq; unfold OutG at hq; exact hq a hf'
  | panic i => simp only at hq; unfold OutG at hq; exact hq a hf'
  | outgrown => simp only at hq; unfold OutG at hq; exact hq a hf'
/-- A region whose last operation defers a call. -/
theorem atG_defer (hg : c.g.Ok) {id : Nat} {ops : Array Oper} {l : List Code} {o : Oper} {f : Operand} {xs : Array Operand} {ts : Array TypeId} (hops : ops.toList = ops.toList.dropLast ++ [o]) (ho : o.op = .defer ⟨.value f, xs, ts⟩) (hgd : o.guard = none) (hdst : o.dst = none)
    (h : execL { c with named := 1000000 } ops.toList ops.toList.dropLast S w (fun S w => ∃ fv cap first asx, S.ev f = some (.func fv first cap) ∧ evL S xs.toList = some asx ∧ AtG { c with N := ⟨c.N.n, ⟨.fn fv cap, first ++ asx.toArray⟩ :: c.N.ds⟩ } l S w G) (fun e S w => OutG c S w e G)) : AtG c (.region id ops false :: l) S w G := by
  unfold AtG
  intro a hf
  unfold runs
  refine wp_region_list ?_
  have h1 := execL_sound (c := { c with named := 1000000 }) hg ops.toList ops.toList.dropLast S w a h hf
  have key : ∀ (Q : GPost) (m1 m2 : List Oper) (a : Act) (w : World), wpList c.g.P ops (fun e a w => match e with
      | .normal => wpList c.g.P ops Q m2 a w
      | e => Q e a w) m1 a w → wpList c.g.P ops Q (m1 ++ m2) a w := by
    intro Q m1
    induction m1 with
    | nil => intro m2 a w h; exact h
    | cons o1 m1 ih =>
      intro m2 a w h
      rw [List.cons_append]
      unfold wpList at h ⊢
      split
      · rename_i hw
        rw [if_pos hw] at h
        rcases h with h | ⟨h1, a0, w0, h2⟩
        · refine .inl ?_
          have h2 := Oper.wp_mono (K' := wpList c.g.P ops Q (m1 ++ m2)) (fun a w => ih m2 a w) h
          unfold Oper.wp at h2 ⊢
          generalize (execOp a.eval o1).run c.g.P w = r at *
          cases r with
          | ok n w' => cases n <;> simp only [Oper.upon] at h2 ⊢ <;> exact h2
          | halt x w' => cases x <;> simp only [Oper.upon] at h2 ⊢ <;> exact h2
        · exact .inr ⟨h1, a0, w0, h2⟩
      · rename_i hw
        rw [if_neg hw] at h
        exact ih m2 _ _ h
  rw [hops]
  refine key _ ops.toList.dropLast [o] a w ?_
  have e0 : ops.toList.toArray = ops := by simp
  rw [e0] at h1
  refine wpList_mono' (fun e a w hq => ?_) h1
  cases e with
  | normal =>
    obtain ⟨S', hf', fv, cap, first, asx, hfv, has, hq⟩ := hq
    show wpList _ _ _ [o] _ _
    unfold wpList
    rw [if_pos (by simp [Region.wanted, hgd])]
    refine .inl ?_
    have hev := hf'.ev hfv
    have hxs : (xs.map a.eval) = asx.toArray := by
      apply Array.ext'
      rw [Array.toList_map]
      exact evL_spec (ρ := a.eval) (fun x v h => hf'.ev h) _ _ has
    unfold Oper.wp
    have hrun : (execOp a.eval o).run c.g.P w = .ok (.defer ⟨.fn fv cap, first ++ asx.toArray⟩) w := by
      simp only [execOp, ho, resolve, hev, hxs]
      simp [Deferred.ofValue]
    rw [hrun, Oper.upon_defer]
    unfold wpList
    unfold AtG at hq
    refine hq _ ⟨?_, ?_, ?_⟩
    · rw [hdst]; exact hf'.size
    · rw [hdst]; show _ :: a.defers = _; rw [hf'.defers]
    · rw [hdst]; exact hf'.has
  | exit i => obtain ⟨S', hf', hq⟩ := hq; unfold OutG at hq; exact hq a hf'
  | goto i => obtain ⟨S', hf', hq⟩ := hq; unfold OutG at hq; exact hq a hf'
  | ret => obtain ⟨S', hf', hq⟩ := hq; unfold OutG at hq; exact hq a hf'
  | panic i => obtain ⟨S', hf', hq⟩ := hq; unfold OutG at hq; exact hq a hf'
  | outgrown => obtain ⟨S', hf', hq⟩ := hq; unfold OutG at hq; exact hq a hf'
end

/-- How a function that defers is to end. -/
def EndR (R : Value → World → Prop) : Ending → World → Prop
  | .returned v, w => R v w
  | _, _ => False

theorem fn_of_G {c : Cx} (hg : c.g.Ok) {f : FuncId} {fn : Func} {x : Code} {args : List Value} {w : World} {R : Value → World → Prop} (hf : c.g.P.funcs[f]? = some fn) (hb : fn.body = some x) (hN : ⟨fn.ntmps, []⟩ = c.N)
    (hl : Nat.ble args.length c.N.n = true) (h : envK [0, 1, 2, 3, 4, 5, 6, 7, 8, 9, 10, 11, 12, 13, 14, 15] args [] (fun S => AtG c [x] S w (bodyPostD c.g.P fn (EndR R)))) : Fn c.g.P f args w R := by
  unfold Fn
  have _ := hg
  obtain ⟨S, hS, hx⟩ := envK_spec _ args [] 0 args (fun j t ht => by
    match j, ht with
    | 0, ht | 1, ht | 2, ht | 3, ht | 4, ht | 5, ht | 6, ht | 7, ht | 8, ht | 9, ht | 10, ht | 11, ht | 12, ht | 13, ht | 14, ht | 15, ht => simp at ht; omega
    | j + 16, ht => simp at ht) (by simp) (fun k x hk => by simp [Env.ent] at hk) h
  have hn : fn.ntmps = c.N.n := congrArg Slots.n hN
  have hfit := fits_args (N := c.N.n) args (Nat.le_of_ble_eq_true hl) S hS
  rw [← hn, hN] at hfit
  unfold AtG at hx
  have h1 := hx _ hfit
  refine (calls_of_wp_defers hf hb (R := EndR R) ?_).mono (fun e w' he => by cases e <;> exact he)
  unfold runs at h1
  refine wp_mono h1 (fun e a w hq => ?_)
  cases e <;> first | exact hq | (unfold runs at hq; exact hq)

section
variable {c : Cx} {S : Env} {w : World}
/-- The end, with nothing deferred. -/
theorem out0 (hg : c.g.Ok) {fn : Func} {R : Value → World → Prop} {e : Exit} (hN : c.N.ds = []) (he : e = .ret ∨ e = .normal) (h : retK c S w R fn.results.toList []) : OutG c S w e (bodyPostD c.g.P fn (EndR R)) := by
  unfold OutG
  intro a hf
  obtain ⟨v, h1, h2⟩ := run_results hg hf h
  have hd : a.defers = [] := by rw [hf.defers, hN]
  rcases he with rfl | rfl <;>
  · unfold bodyPostD
    simp only
    rw [hd]
    exact ⟨v, h1, h2⟩
/-- Behind the one call that is deferred. -/
theorem leave1 (hg : c.g.Ok) {fn : Func} {R : Value → World → Prop} {u : FrameMode} {a : Act} {F : FuncId} {asx cap : Array Value} (hN : c.N.ds = [⟨.fn (.func F) cap, asx⟩]) (hF : memN F c.g.fns = true) (hu : u ≠ .run) (hf : Fits c.N S a) {args : Array Value} (hA : asx ++ cap = args)
    (h : CallsD c.g.P F args u w (fun e u' w' => ∃ v, e = .returned v ∧ settle u' = .returning ∧ retK c S w' R fn.results.toList [])) : Leaves c.g.P fn a.tmps (EndR R) a.defers u w := by
  subst hA
  rw [hf.defers, hN]
  refine leaves_cons (f := F) (args := asx ++ cap) hu ?_ ?_
  · have hc := hg.fns F (memN_spec hF)
    simp only [invoke]
    rw [run_callFunc hc]
  · refine h.mono (fun e u' w' he => ?_)
    obtain ⟨v, rfl, hs, hk⟩ := he
    simp only
    rw [hs]
    obtain ⟨v, h1, h2⟩ := run_results hg hf hk
    exact ⟨v, h1, h2⟩
theorem out1 (hg : c.g.Ok) {fn : Func} {R : Value → World → Prop} {e : Exit} {F : FuncId} {asx cap : Array Value} (hN : c.N.ds = [⟨.fn (.func F) cap, asx⟩]) (hF : memN F c.g.fns = true) (he : e = .ret ∨ e = .normal) {args : Array Value} (hA : asx ++ cap = args)
    (h : CallsD c.g.P F args .returning w (fun e u' w' => ∃ v, e = .returned v ∧ settle u' = .returning ∧ retK c S w' R fn.results.toList [])) : OutG c S w e (bodyPostD c.g.P fn (EndR R)) := by
  unfold OutG
  intro a hf
  have := leave1 hg hN hF (by simp) hf hA h
  rcases he with rfl | rfl <;> exact this
theorem out1p (hg : c.g.Ok) {fn : Func} {R : Value → World → Prop} {ch : List PanicEntry} {F : FuncId} {asx cap : Array Value} (hN : c.N.ds = [⟨.fn (.func F) cap, asx⟩]) (hF : memN F c.g.fns = true) {args : Array Value} (hA : asx ++ cap = args)
    (h : CallsD c.g.P F args (.panicking ch) w (fun e u' w' => ∃ v, e = .returned v ∧ settle u' = .returning ∧ retK c S w' R fn.results.toList [])) : OutG c S w (.panic ch) (bodyPostD c.g.P fn (EndR R)) := by
  unfold OutG
  intro a hf
  exact leave1 hg hN hF (by simp) hf hA h
end

end

section
open Go Go.RowKit

theorem at_assert_ok {c : Cx} (hg : c.g.Ok) {o : Oper} {S : Env} {w : World} {K : Env → World → Prop} {Q : Post} {x : Operand} {tx t : Nat} {k : IntKind} {v : Value} {r : TyRow} (ho : o.op = .typeAssert x tx t true) (hr : rowOf c.g.tys t = some r) (hd : r.d = .int k) (hx : S.ev x = some (.iface t v))
    (kk : putK c S o.dst (.v (.tuple #[v, .bool true])) (fun S => K S w)) : AtOp c o S w K Q := by
  have hr' := (hg.row hr).1
  rw [hd] at hr'
  refine at_run (w' := w) (v := .tuple #[v, .bool true]) (fun a hf => ?_) kk
  have e1 := hf.ev hx
  simp only [execOp, ho, e1]
  simp [Instr.typeAssert, run_underlying hr']

theorem equal_nil {P : Program} {t : TypeId} {ms : Array (String × TypeId)} {w : World} (hu : P.underlying t = some (.interface ms)) (n : Nat) : (Op.equalIn (n + 1) t .nilIface .nilIface).run P w = .ok true w := by simp [Op.equalIn, run_underlying hu]

theorem wpOpsS_rec {P : Program} {o1 o2 : Oper} {Q : Exit → Act → List Frame → World → Prop} {a : Act} {cs cs' : List Frame} {w : World} {d1 d2 : Nat} {v : Value} (h1 : o1.op = .call ⟨.builtin .recover, #[], #[]⟩) (h1d : o1.dst = some d1) (h1g : o1.guard = none) (h2 : o2.op = .assign (.tmp d1)) (h2d : o2.dst = some d2) (h2g : o2.guard = none)
    (hsz : d1 < a.tmps.size) (hrec : recoverD cs = some (v, cs') ∨ (recoverD cs = none ∧ v = .nilIface ∧ cs' = cs)) (h : Q .normal ((a.put (some d1) v).put (some d2) v) cs' w) : wpOpsS P #[o1, o2] Q (List.range 2) a cs w := by
  have e1 : ∀ ρ, (execOp ρ o1).run P w = .ok .recover w := fun ρ => by
    simp only [execOp, h1, resolve, invoke, builtin]
    simp
  have e2 : (execOp (a.put (some d1) v).eval o2).run P w = .ok (.value v) w := by
    simp only [execOp, h2]
    simp [Act.eval, Act.put, hsz]
  show wpOpsS P #[o1, o2] Q [0, 1] a cs w
  have key : wpOpsS P #[o1, o2] Q [1] (a.put (some d1) v) cs' w := by
    unfold wpOpsS
    simp only [List.getElem?_toArray, List.getElem?_cons_succ, List.getElem?_cons_zero]
    rw [if_pos (by simp [Region.wanted, h2g]), e2]
    simp only [Oper.upon, h2d]
    unfold wpOpsS
    exact h
  unfold wpOpsS
  simp only [List.getElem?_toArray, List.getElem?_cons_zero]
  rw [if_pos (by simp [Region.wanted, h1g]), e1]
  rcases hrec with hr | ⟨hr, rfl, rfl⟩
  · simp only [hr, h1d]; exact key
  · simp only [hr, h1d]; exact key

/-- The end of a function that recovers: the rest of it, walked by the engine. -/
theorem wpS_rest {c : Cx} (hg : c.g.Ok) {x : Code} {fn : Func} {c₀ : Frame} {cs : List Frame} {R : Ending → FrameMode → World → Prop} {S : Env} {a : Act} {w : World} {u' : FrameMode} (hN : c.N.ds = []) (hf : Fits c.N S a)
    (h : exec c x S w (Fin c fn.results.toList (fun v w' => R (.returned v) u' w'))) : x.wpS c.g.P (bodyPostS c.g.P fn c₀ cs R) a ({ c₀ with mode := u' } :: cs) w := by
  refine wpS_of_wp (wp_mono (exec_sound hg x S w _ a h hf) (fun e a' w' hq => ?_))
  obtain ⟨S', hf', hq⟩ := hq
  have hd' : a'.defers = [] := by rw [hf'.defers, hN]
  cases e with
  | normal => obtain ⟨v, h1, h2⟩ := run_results hg hf' hq; exact ⟨hd', u', rfl, v, h1, h2⟩
  | ret => obtain ⟨v, h1, h2⟩ := run_results hg hf' hq; exact ⟨hd', u', rfl, v, h1, h2⟩
  | exit i => exact hq.elim
  | goto l => exact hq.elim
  | panic ch => exact hq.elim
  | outgrown => exact hq.elim

/-- The two results' variables, behind a panic. -/
def RecOk (f e : Nat) (k : Int) (w w' : World) : Prop := Blk w' f 77 [.slice none 0 0] ∧ Blk w' e 30 [.int .i64 k] ∧ Mod (fun i => i = f ∨ i = e) w w'

theorem rec_fn (f e : Nat) (k : Int) (w : World) (v1 v2 : Value) (hne : f ≠ e) (hf : Blk w f 77 [v1]) (he : Blk w e 30 [v2]) :
    CallsD Tryz.prog 69 #[.pointer (some ⟨f, 0, none⟩), .pointer (some ⟨e, 0, none⟩)] (.panicking [{ v := .iface 30 (.int .i64 k), recovered := false }]) w
      (fun en u' w' => ∃ v, en = .returned v ∧ settle u' = .returning ∧ RecOk f e k w w') := by
  refine callsD_of_wpS Tryz.func69 rfl fun c₀ cs hu => ?_
  have hfit := fits_args (N := c69.N.n) [.pointer (some ⟨f, 0, none⟩), .pointer (some ⟨e, 0, none⟩)] (Nat.le_of_ble_eq_true rfl) [(0, .v (.pointer (some ⟨f, 0, none⟩))), (1, .v (.pointer (some ⟨e, 0, none⟩)))] (by
    intro k x hk
    match k, hk with
    | 0, hk => cases hk; rfl
    | 1, hk => cases hk; rfl
    | k + 2, hk => exact nomatch (show (none : Option Ent) = some x from hk))
  have hf5 := hfit.put (d := 5) (by decide) (.v (.iface 30 (.int .i64 k)))
  have hf2 := hf5.put (d := 2) (by decide) (.v (.iface 30 (.int .i64 k)))
  refine wpS_seq (wpS_region ?_)
  refine wpOpsS_rec (cs' := { c₀ with mode := .panicking [{ v := .iface 30 (.int .i64 k), recovered := true }] } :: cs) (v := .iface 30 (.int .i64 k)) rfl rfl rfl rfl rfl rfl (by simp) (.inl (by simp [recoverD, hu])) ?_
  refine wpS_rest (c := c69) gx_ok rfl hf2 ?_
  refine wif_t rfl ?_
  refine at_assert_ok gx_ok rfl rfl rfl rfl ?_
  refine wif_f rfl ?_
  refine store_mod0 hf (by simp) (fun w1 hm1 hB1 => ?_)
  refine store_mod0 (he.mod hm1 (fun h => hne h.symm)) (by simp) (fun w2 hm2 hB2 => ?_)
  exact ⟨_, rfl, rfl, hB1.mod hm2 hne, hB2, (hm1.mono (fun i hi => .inl (.inl hi))).trans hm2 (fun i hi => .inl (.inr hi))⟩

theorem rec_ret_fn (f e : Nat) (w : World) :
    CallsD Tryz.prog 69 #[.pointer (some ⟨f, 0, none⟩), .pointer (some ⟨e, 0, none⟩)] .returning w
      (fun en u' w' => ∃ v, en = .returned v ∧ settle u' = .returning ∧ w = w') := by
  refine callsD_of_wpS Tryz.func69 rfl fun c₀ cs hu => ?_
  have hfit := fits_args (N := c69.N.n) [.pointer (some ⟨f, 0, none⟩), .pointer (some ⟨e, 0, none⟩)] (Nat.le_of_ble_eq_true rfl) [(0, .v (.pointer (some ⟨f, 0, none⟩))), (1, .v (.pointer (some ⟨e, 0, none⟩)))] (by
    intro k x hk
    match k, hk with
    | 0, hk => cases hk; rfl
    | 1, hk => cases hk; rfl
    | k + 2, hk => exact nomatch (show (none : Option Ent) = some x from hk))
  have hf5 := hfit.put (d := 5) (by decide) (.v .nilIface)
  have hf2 := hf5.put (d := 2) (by decide) (.v .nilIface)
  refine wpS_seq (wpS_region ?_)
  refine wpOpsS_rec (cs' := { c₀ with mode := .returning } :: cs) (v := .nilIface) rfl rfl rfl rfl rfl rfl (by simp) (.inr ⟨by simp [recoverD, hu], rfl, by rw [← hu]⟩) ?_
  refine wpS_rest (c := c69) gx_ok rfl hf2 ?_
  refine at_run (w' := w) (v := .bool false) (fun a hf => ?_) ?_
  · have e1 := hf.ev (show Env.ev _ (.tmp 6) = some .nilIface from rfl)
    have hu := Tryz.underlying20
    have e2 : (Op.equal 20 .nilIface .nilIface).run Tryz.prog w = .ok true w := equal_nil hu 9999
    have e3 : binOp .neq 20 .nilIface .nilIface = (do pure (.bool (!(← Op.equal 20 .nilIface .nilIface)))) := rfl
    simp only [execOp, e1, eqGuard]
    simp [Act.eval, e3, show gx.P = Tryz.prog from rfl, e2]
  refine wif_f rfl ?_
  exact ⟨_, rfl, rfl, rfl⟩
end

section
open Go Go.RowKit

/-- The number of a name: the last one that it stands at. -/
def ixR (l : List Nat) : List (List Nat) → Nat → Option Nat → Option Nat
  | [], _, acc => acc
  | s :: names, i, acc => ixR l names (i + 1) (if s = l then some i else acc)
def ixN (names : List (List Nat)) (l : List Nat) : Option Nat := ixR l names 0 none
theorem ixR_ok (l : List Nat) (hl : ∀ x ∈ l, x < 256) : ∀ (names : List (List Nat)) (i : Nat) (acc : Option Nat) (m : List (ByteArray × Value)), NamesOk names → assoc (strOf l) m = acc.map (fun v : Nat => Value.int .i64 v) →
    assoc (strOf l) (nameM names i m) = (ixR l names i acc).map (fun v : Nat => Value.int .i64 v)
  | [], i, acc, m, _, h => h
  | s :: names, i, acc, m, hn, h => by
    simp only [nameM, ixR]
    refine ixR_ok l hl names (i + 1) _ _ (fun t ht => hn t (by simp [ht])) ?_
    rw [assoc_set]
    by_cases hs : s = l
    · subst hs; simp
    · rw [if_neg (fun e => hs (strOf_inj hl (hn s (by simp)).1 e).symm), if_neg hs]; exact h
theorem ixN_ok {names : List (List Nat)} (hn : NamesOk names) : IxOk (ixN names) (nameM names 0 []) := fun l hl => ixR_ok l hl names 0 none [] hn rfl

/-- What Parse answers. -/
def parseP (names : List (List Nat)) (s : List Nat) : List Fz × Int := if numsOk names then
    match wholeP (ixN names) (s.length + 1) ⟨s, [], false⟩ with
    | none => ([], 31)
    | some (_, p) => if trimB p.r ≠ [] then ([], 31) else if p.u then ([], 3) else if 512 < p.f.length then ([], 2) else (p.f, 0)
  else ([], 1)

/-- A formula and an error number. -/
def FzRes (w : World) (r : List Fz × Int) (v : Value) (w' : World) : Prop := ∃ F m cF, v = .tuple #[.slice F m cF, .int .i64 r.2] ∧ Ext w w' ∧ SlS Fz.cells 4 w' F m cF r.1

theorem skip_none (p : Ps) : skipP [] p = (true, { p with r := trimB p.r }) := by rw [skipP_eq]; rfl

theorem parse_fn (names : List (List Nat)) (A : Option Addr) (n c : Nat) (s : List Nat) (w : World) (h : Sl w 1 A n c (strsV names)) (hb : NamesOk names) (hs : ∀ x ∈ s, x < 256) (hl : s.length ≤ 1000000000000) :
    Fn Tryz.prog 43 [.slice A n c, .string (strOf s)] w (FzRes w (parseP names s)) := by
  refine fn_of_G (c := { c43 with cuts := [] }) gx_ok Tryz.func43 rfl rfl rfl ?_
  refine atG_seq (atG_exec gx_ok ?_)
  refine new (fun w1 hE1 hz1 hB1 => ?_)
  refine new (fun w2 hE2 hz2 hB2 => ?_)
  have hE02 := hE1.trans hE2
  refine atG_seq (atG_exec gx_ok ?_)
  refine call (numbers_fn names A n c w2 (h.ext hE02) hb) ?_
  rintro v w3 ⟨v1, rfl, hE3, hmap⟩
  have hE03 := hE02.trans hE3
  have hBf := (hB1.ext hE2).ext hE3
  have hBe := hB2.ext hE3
  refine atG_seq (atG_exec gx_ok ?_)
  cases hok : numsOk names with
  | false =>
    refine wif_t rfl ?_
    refine store_mod0 hBf (by simp [cellsL]) (fun w4 hm4 hB4 => ?_)
    have hne : w1.heap.size ≠ w.heap.size := by omega
    refine store_mod0 (hBe.mod hm4 hne) (by simp [cellsL]) (fun w5 hm5 hB5 => ?_)
    refine out0 gx_ok rfl (.inl rfl) ?_
    refine load_blk0 (hB4.mod hm5 hne.symm) rfl ?_
    refine load_blk0 hB5 rfl ?_
    have hE5 := hm5.ext (hm4.ext hE03 (fun i hi => by omega)) (fun i hi => by omega)
    refine ⟨none, 0, 0, ?_, hE5, ?_⟩
    · unfold parseP; rw [hok]; rfl
    · unfold parseP; rw [hok]; exact SlS.nil _
  | true =>
    refine wif_f rfl ?_
    obtain ⟨q, rfl, hq, hmq⟩ := hmap hok
    refine atG_seq (atG_defer gx_ok rfl rfl rfl rfl ⟨_, _, _, _, rfl, rfl, ?_⟩)
    refine atG_seq (atG_exec gx_ok ?_)
    refine new (fun w4 hE4 hz4 hB4 => ?_)
    have hE04 := hE03.trans hE4
    have hz3 := hE3.size
    have hR : Rd w4 w4.heap.size w3.heap.size none 0 (.map (some q)) ⟨s, [], false⟩ := ⟨hB4, Own.nil _ _ _ _, by omega, Nat.le_refl _, hs, by simpa using hl⟩
    have hG : GM w3.heap.size q (nameM names 0 []) w4 none := ⟨hmq.ext hE4, by have := hmq.lt; omega, fun ⟨_, e, _⟩ => by cases e⟩
    have hne : w.heap.size ≠ w1.heap.size := by omega
    have hnr : ∀ i, i < w3.heap.size → ¬ RdS w3.heap.size none i := fun i hi e => by
      rcases e with rfl | ⟨_, e, _⟩
      · omega
      · cases e
    have keep : ∀ w', Mod (RdS w3.heap.size none) w4 w' → Ext w w' ∧ Blk w' w.heap.size 77 [.slice none 0 0] ∧ Blk w' w1.heap.size 30 [.int .i64 0] := fun w' hm => by
      refine ⟨hm.ext hE04 (fun i hi => ?_), (hBf.ext hE4).mod hm (hnr _ (by omega)), (hBe.ext hE4).mod hm (hnr _ (by omega))⟩
      rcases hi with rfl | ⟨_, e, _⟩
      · omega
      · cases e
    have pan : ∀ k w' w'', Ext w w' → RecOk w.heap.size w1.heap.size k w' w'' → parseP names s = ([], k) → FzRes w (parseP names s) (.tuple #[.slice none 0 0, .int .i64 k]) w'' := fun k w' w'' hE hR hp => by
      rw [hp]
      refine ⟨none, 0, 0, rfl, hR.2.2.ext hE (fun i hi => by rcases hi with rfl | rfl <;> omega), SlS.nil _⟩
    have hpp : parseP names s = match wholeP (ixN names) (s.length + 1) ⟨s, [], false⟩ with
      | none => ([], 31)
      | some (_, p) => if trimB p.r ≠ [] then ([], 31) else if p.u then ([], 3) else if 512 < p.f.length then ([], 2) else (p.f, 0) := by unfold parseP; rw [if_pos hok]
    refine atG_seq (atG_exec gx_ok ?_)
    refine callP (whole_fn (s.length + 1) _ _ none 0 _ q _ _ _ w4 hR hG (Nat.lt_succ_self _) (factor_opd (ixN names) _ _ q _ (ixN_ok hb) (s.length + 1))) ?_ ?_
    rotate_left
    · rintro ch w5 ⟨ho, rfl, hm5⟩
      obtain ⟨hE5, hf5, he5⟩ := keep w5 hm5
      refine out1p gx_ok rfl rfl (args := #[.pointer (some ⟨w.heap.size, 0, none⟩), .pointer (some ⟨w1.heap.size, 0, none⟩)]) (by simp) ((rec_fn _ _ 31 w5 _ _ hne hf5 he5).mono ?_)
      rintro e u' w6 ⟨v, rfl, hs6, hR6⟩
      refine ⟨v, rfl, hs6, ?_⟩
      refine load_blk0 hR6.1 rfl ?_
      refine load_blk0 hR6.2.1 rfl ?_
      exact pan 31 w5 w6 hE5 hR6 (by rw [hpp]; unfold wholeP; rw [ho])
    rintro v w5 ⟨a, p, ho, rfl, A5, c5, h5, hm5, hv5⟩
    refine atG_seq (atG_exec gx_ok ?_)
    refine call (skip_fn _ _ A5 c5 _ p [] w5 h5 (by simp)) ?_
    rintro v w6 ⟨rfl, h6, hm6⟩
    rw [skip_none] at h6
    simp only at h6
    have hm06 : Mod (RdS w3.heap.size none) w4 w6 := hm5.trans hm6 (fun i hi => .inl (.inl hi))
    obtain ⟨hE6, hf6, he6⟩ := keep w6 hm06
    have hpq : parseP names s = if trimB p.r ≠ [] then ([], 31) else if p.u then ([], 3) else if 512 < p.f.length then ([], 2) else (p.f, 0) := by rw [hpp]; unfold wholeP; rw [ho]
    have e0 : ((strOf (trimB p.r) = (⟨#[]⟩ : ByteArray)) ↔ trimB p.r = []) := ⟨fun h => strOf_inj h6.b8 (by simp) h, fun h => by rw [h]; rfl⟩
    refine atG_seq (atG_exec gx_ok ?_)
    refine load_blk h6.blk rfl ?_
    by_cases ht : ¬ trimB p.r = []
    · refine wif_t (by rw [decide_eq_false (fun h => ht (e0.1 h))]; rfl) ?_
      refine at_panic rfl rfl ?_
      refine out1p gx_ok rfl rfl (args := #[.pointer (some ⟨w.heap.size, 0, none⟩), .pointer (some ⟨w1.heap.size, 0, none⟩)]) (by simp) ((rec_fn _ _ 31 w6 _ _ hne hf6 he6).mono ?_)
      rintro e u' w7 ⟨v, rfl, hs7, hR7⟩
      refine ⟨v, rfl, hs7, ?_⟩
      refine load_blk0 hR7.1 rfl ?_
      refine load_blk0 hR7.2.1 rfl ?_
      exact pan 31 w6 w7 hE6 hR7 (by rw [hpq, if_pos ht])
    replace ht := Decidable.not_not.1 ht
    refine wif_f (by rw [decide_eq_true (e0.2 ht)]; rfl) ?_
    rw [if_neg (fun h => h ht)] at hpq
    refine load_blk h6.blk rfl ?_
    refine wif (fun hu => ?_) (fun hu => ?_)
    · refine at_panic rfl rfl ?_
      refine out1p gx_ok rfl rfl (args := #[.pointer (some ⟨w.heap.size, 0, none⟩), .pointer (some ⟨w1.heap.size, 0, none⟩)]) (by simp) ((rec_fn _ _ 3 w6 _ _ hne hf6 he6).mono ?_)
      rintro e u' w7 ⟨v, rfl, hs7, hR7⟩
      refine ⟨v, rfl, hs7, ?_⟩
      refine load_blk0 hR7.1 rfl ?_
      refine load_blk0 hR7.2.1 rfl ?_
      exact pan 3 w6 w7 hE6 hR7 (by rw [hpq, if_pos hu])
    rw [if_neg (by rw [show p.u = false from hu]; decide)] at hpq
    refine load_blk h6.blk rfl ?_
    refine wif_d (fun hl => ?_) (fun hl => ?_)
    · refine at_panic rfl rfl ?_
      refine out1p gx_ok rfl rfl (args := #[.pointer (some ⟨w.heap.size, 0, none⟩), .pointer (some ⟨w1.heap.size, 0, none⟩)]) (by simp) ((rec_fn _ _ 2 w6 _ _ hne hf6 he6).mono ?_)
      rintro e u' w7 ⟨v, rfl, hs7, hR7⟩
      refine ⟨v, rfl, hs7, ?_⟩
      refine load_blk0 hR7.1 rfl ?_
      refine load_blk0 hR7.2.1 rfl ?_
      exact pan 2 w6 w7 hE6 hR7 (by rw [hpq, if_pos (show 512 < p.f.length by simp only at hl; omega)])
    have hl' : ¬ 512 < p.f.length := fun h => hl (by simp only; omega)
    rw [if_neg hl'] at hpq
    refine atG_seq (atG_exec gx_ok ?_)
    refine load_blk h6.blk rfl ?_
    refine store_mod0 hf6 (by simp) (fun w7 hm7 hB7 => ?_)
    refine store_mod0 (he6.mod hm7 hne.symm) (by simp) (fun w8 hm8 hB8 => ?_)
    refine atG_exec gx_ok ?_
    refine out1 gx_ok rfl rfl (.inl rfl) (args := #[.pointer (some ⟨w.heap.size, 0, none⟩), .pointer (some ⟨w1.heap.size, 0, none⟩)]) (by simp) ((rec_ret_fn _ _ w8).mono ?_)
    rintro e u' _ ⟨v, rfl, hs9, rfl⟩
    refine ⟨v, rfl, hs9, ?_⟩
    refine load_blk0 (hB7.mod hm8 hne) rfl ?_
    refine load_blk0 hB8 rfl ?_
    rw [hpq]
    have hM : Mod (fun i => i = w.heap.size ∨ i = w1.heap.size) w6 w8 := (hm7.mono (fun i hi => .inl (.inl hi))).trans hm8 (fun i hi => .inl (.inr hi))
    refine ⟨A5, p.f.length, c5, rfl, hM.ext hE6 (fun i hi => by rcases hi with rfl | rfl <;> omega), ?_, rfl⟩
    have hrow : ∀ i, rowS A5 i → w4.heap.size ≤ i := fun i hi => (h6.own.rows i hi).1
    exact (h6.own.mod hM (fun i hi e => by have := hrow i hi; rcases e with rfl | rfl <;> omega)).sl
end
end
end Go.Proofs.YtedopgkbajhanaaGreatDoor

namespace Go.Proofs.YtedopgkbajhanaaGreatDoor
section
section
open Go Go.RowKit

def fAr (o : Int) : Int := if o = 0 ∨ o = 1 ∨ o = 2 then 0 else if o = 3 then 1 else if o = 4 ∨ o = 5 then 2 else -1
theorem fAr_cases (o : Int) : ((o = 0 ∨ o = 1 ∨ o = 2) ∧ fAr o = 0) ∨ (o = 3 ∧ fAr o = 1) ∨ ((o = 4 ∨ o = 5) ∧ fAr o = 2) ∨ (fAr o = -1 ∧ o ≠ 0 ∧ o ≠ 1 ∧ o ≠ 2 ∧ o ≠ 3 ∧ o ≠ 4 ∧ o ≠ 5) := by
  unfold fAr
  split
  · left; omega
  · split
    · right; left; omega
    · split
      · right; right; left; omega
      · right; right; right; omega
/-- Is this node well-formed at place i? -/
def fzP (x : Fz) (i : Nat) : Prop := 0 ≤ fAr x.o ∧ (if x.o = 2 then 0 ≤ x.v ∧ x.v < 64 else x.v = 0) ∧ (if 0 < fAr x.o then 0 ≤ x.a ∧ x.a < i else x.a = 0) ∧ (if 1 < fAr x.o then 0 ≤ x.b ∧ x.b < i else x.b = 0)
instance (x : Fz) (i : Nat) : Decidable (fzP x i) := by unfold fzP; infer_instance
/-- The same node, without what its operator does not use. -/
def plainOf (x : Fz) : Fz := ⟨x.o, if x.o = 2 then x.v else 0, if 0 < fAr x.o then x.a else 0, if 1 < fAr x.o then x.b else 0⟩

theorem eq4 (a b c d a' b' c' d' : Int) : (a == a' && (b == b' && (c == c' && (d == d' && true)))) = decide (a = a' ∧ b = b' ∧ c = c' ∧ d = d') := by
  rw [Bool.eq_iff_iff]
  simp only [Bool.and_eq_true, beq_iff_eq, decide_eq_true_eq, and_true]
theorem plain_eq (x : Fz) : (x.o = (plainOf x).o ∧ x.v = (plainOf x).v ∧ x.a = (plainOf x).a ∧ x.b = (plainOf x).b) ↔ ((x.o ≠ 2 → x.v = 0) ∧ (fAr x.o ≤ 0 → x.a = 0) ∧ (fAr x.o ≤ 1 → x.b = 0)) := by
  unfold plainOf
  simp only
  constructor
  · rintro ⟨_, h1, h2, h3⟩
    split at h1 <;> split at h2 <;> split at h3 <;> omega
  · rintro ⟨h1, h2, h3⟩
    refine ⟨trivial, ?_, ?_, ?_⟩ <;> split <;> omega

theorem arity_fn (x : Fz) (i : Nat) (w : World) : Fn Tryz.prog 172 [.agg x.cells.toArray, .int .i64 i] w (fun v w' => v = .int .i64 (if fzP x i then fAr x.o else -1) ∧ Ext w w') := by
  refine fn_of_exec (c := { c172 with cuts := [3] }) gx_ok Tryz.func172 rfl rfl rfl ?_
  refine new (fun w1 hE1 hz1 hB1 => ?_)
  refine load_blk0 hB1 rfl ?_
  refine new (fun w2 hE2 hz2 hB2 => ?_)
  refine storeN_blk0 hB2 rfl (sc rfl) (fun w3 hg3 _ hB3 => ?_)
  have hm3 : Mod (· = w1.heap.size) w2 w3 := Mod.of_grown hg3 rfl
  replace hB3 : Blk w3 w1.heap.size 205 [.int .i64 x.o, .int .i64 0, .int .i64 0, .int .i64 0] := hB3
  have hX3 := (hB1.ext hE2).mod hm3 (by omega)
  have hE3 : Ext w w3 := hm3.ext (hE1.trans hE2) (fun i hi => by omega)
  refine cutIn [] gx_ok [6] (fun k : Int => [.int .i64 k]) (fun k w' => Ext w w' ∧ Blk w' w.heap.size 205 x.cells ∧ Blk w' w1.heap.size 205 (plainOf x).cells ∧ k = fAr x.o ∧ 0 ≤ fAr x.o ∧ (x.o = 2 → 0 ≤ x.v ∧ x.v < 64)) ?_ ?_
  · refine load_blk0 hX3 rfl ?_
    refine wif_eq (fun h => ?_) (fun h => ?_)
    · refine ⟨_, rfl, hE3, hX3, ?_, ?_, ?_, ?_⟩
      · rw [show (plainOf x).cells = [.int .i64 x.o, .int .i64 0, .int .i64 0, .int .i64 0] from by simp [plainOf, Fz.cells, h, fAr]]; exact hB3
      · rw [h]; rfl
      · rw [h]; decide
      · intro h2; omega
    refine wif_eq (fun h1 => ?_) (fun h1 => ?_)
    · refine ⟨_, rfl, hE3, hX3, ?_, ?_, ?_, ?_⟩
      · rw [show (plainOf x).cells = [.int .i64 x.o, .int .i64 0, .int .i64 0, .int .i64 0] from by simp [plainOf, Fz.cells, h1, fAr]]; exact hB3
      · rw [h1]; rfl
      · rw [h1]; decide
      · intro h2; omega
    refine wif_eq (fun h2 => ?_) (fun h2 => ?_)
    · refine load_blk hX3 rfl ?_
      refine store_mod hB3 (by simp) (fun w4 hm4 hB4 => ?_)
      have hX4 := hX3.mod hm4 (by omega)
      have hE4 := hm4.ext hE3 (fun i hi => by omega)
      refine load_blk hX4 rfl ?_
      refine wif_d (fun h3 => ?_) (fun h3 => ?_)
      · exact ⟨by rw [if_neg (fun hf => by have := hf.2.1; rw [if_pos h2] at this; omega)], hE4⟩
      refine load_blk hX4 rfl ?_
      refine wif_d (fun h4 => ?_) (fun h4 => ?_)
      · exact ⟨by rw [if_neg (fun hf => by have := hf.2.1; rw [if_pos h2] at this; omega)], hE4⟩
      refine ⟨_, rfl, hE4, hX4, ?_, ?_, ?_, ?_⟩
      · rw [show (plainOf x).cells = [.int .i64 x.o, .int .i64 x.v, .int .i64 0, .int .i64 0] from by simp [plainOf, Fz.cells, h2, fAr]]; exact hB4
      · rw [h2]; rfl
      · rw [h2]; decide
      · intro _; omega
    refine wif_eq (fun h3 => ?_) (fun h3 => ?_)
    · refine load_blk hX3 rfl ?_
      refine store_mod hB3 (by simp) (fun w4 hm4 hB4 => ?_)
      have hX4 := hX3.mod hm4 (by omega)
      have hE4 := hm4.ext hE3 (fun i hi => by omega)
      refine ⟨_, rfl, hE4, hX4, ?_, ?_, ?_, ?_⟩
      · rw [show (plainOf x).cells = [.int .i64 x.o, .int .i64 0, .int .i64 x.a, .int .i64 0] from by simp [plainOf, Fz.cells, h3, fAr]]; exact hB4
      · rw [h3]; rfl
      · rw [h3]; decide
      · intro _; omega
    have two : (x.o = 4 ∨ x.o = 5) → ∀ w4, Mod (· = w1.heap.size) w3 w4 → Blk w4 w1.heap.size 205 [.int .i64 x.o, .int .i64 0, .int .i64 x.a, .int .i64 x.b] → Ext w w4 ∧ Blk w4 w.heap.size 205 x.cells ∧ Blk w4 w1.heap.size 205 (plainOf x).cells ∧ (2 : Int) = fAr x.o ∧ 0 ≤ fAr x.o ∧ (x.o = 2 → 0 ≤ x.v ∧ x.v < 64) := fun ho w4 hm4 hB4 => by
      have e : fAr x.o = 2 := by rcases ho with h | h <;> rw [h] <;> rfl
      refine ⟨hm4.ext hE3 (fun i hi => by omega), hX3.mod hm4 (by omega), ?_, e.symm, by omega, by omega⟩
      rw [show (plainOf x).cells = [.int .i64 x.o, .int .i64 0, .int .i64 x.a, .int .i64 x.b] from by simp [plainOf, Fz.cells, h2, e]]
      exact hB4
    refine wif_eq (fun h4 => ?_) (fun h4 => ?_)
    · refine load_blk hX3 rfl ?_
      refine store_mod hB3 (by simp) (fun w4 hm4 hB4 => ?_)
      have hX4 := hX3.mod hm4 (by omega)
      refine load_blk hX4 rfl ?_
      refine store_mod hB4 (by simp) (fun w5 hm5 hB5 => ?_)
      exact ⟨_, rfl, two (.inl h4) w5 (hm4.trans hm5 (fun i hi => .inl hi)) hB5⟩
    refine wif_eq (fun h5 => ?_) (fun h5 => ?_)
    · refine load_blk hX3 rfl ?_
      refine store_mod hB3 (by simp) (fun w4 hm4 hB4 => ?_)
      have hX4 := hX3.mod hm4 (by omega)
      refine load_blk hX4 rfl ?_
      refine store_mod hB4 (by simp) (fun w5 hm5 hB5 => ?_)
      exact ⟨_, rfl, two (.inr h5) w5 (hm4.trans hm5 (fun i hi => .inl hi)) hB5⟩
    · have hm1 : fAr x.o = -1 := by rcases fAr_cases x.o with h | h | h | h <;> omega
      exact ⟨by rw [if_neg (fun hf => by have := hf.1; omega)], hE3⟩
  rintro k w4 ⟨hE4, hX4, hP4, rfl, h0, hv⟩
  have no : ¬ fzP x i → ∀ w', Ext w w' → (Value.int .i64 (-1)) = .int .i64 (if fzP x i then fAr x.o else -1) ∧ Ext w w' := fun h w' hE => ⟨by rw [if_neg h], hE⟩
  have yes : fzP x i → ∀ w', Ext w w' → (Value.int .i64 (fAr x.o)) = .int .i64 (if fzP x i then fAr x.o else -1) ∧ Ext w w' := fun h w' hE => ⟨by rw [if_pos h], hE⟩
  have hcs := fAr_cases x.o
  refine loadN_blk0 hX4 rfl ?_
  refine loadN_blk0 hP4 rfl ?_
  by_cases hp : x.o = (plainOf x).o ∧ x.v = (plainOf x).v ∧ x.a = (plainOf x).a ∧ x.b = (plainOf x).b
  rotate_left
  · refine wif_t (by rw [eq4, decide_eq_false hp]; rfl) ?_
    refine no (fun hf => hp ((plain_eq x).2 ?_)) _ hE4
    obtain ⟨f1, f2, f3, f4⟩ := hf
    split at f2 <;> split at f3 <;> split at f4 <;> omega
  refine wif_f (by rw [eq4, decide_eq_true hp]; rfl) ?_
  have hq := (plain_eq x).1 hp
  have bad : (x.a < 0 ∨ x.b < 0 ∨ (0 < fAr x.o ∧ (i ≤ x.a ∨ i ≤ x.b))) → ¬ fzP x i := fun hb hf => by
    obtain ⟨f1, f2, f3, f4⟩ := hf
    split at f3 <;> split at f4 <;> omega
  refine load_blk hX4 rfl ?_
  refine wif_d (fun h1 => ?_) (fun h1 => ?_)
  · exact no (bad (.inl h1)) _ hE4
  refine load_blk hX4 rfl ?_
  refine wif_d (fun h2 => ?_) (fun h2 => ?_)
  · exact no (bad (.inr (.inl h2))) _ hE4
  refine wif_d (fun h3 => ?_) (fun h3 => ?_)
  · refine load_blk hX4 rfl ?_
    refine load_blk hX4 rfl ?_
    refine norm (m := max x.a x.b) (by rw [Int.max_def]; split <;> split <;> omega) ?_
    refine wif_d (fun h4 => ?_) (fun h4 => ?_)
    · refine no (bad (.inr (.inr ⟨h3, ?_⟩))) _ hE4
      rw [Int.max_def] at h4; split at h4 <;> omega
    · rw [Int.max_def] at h4
      refine yes ⟨h0, ?_, ?_, ?_⟩ _ hE4
      · split
        · rename_i h; exact hv h
        · rename_i h; exact hq.1 h
      · rw [if_pos h3]; split at h4 <;> omega
      · split
        · split at h4 <;> omega
        · exact hq.2.2 (by omega)
  · refine yes ⟨h0, ?_, ?_, ?_⟩ _ hE4
    · split
      · rename_i h; exact hv h
      · rename_i h; exact hq.1 h
    · rw [if_neg h3]; exact hq.2.1 (by omega)
    · rw [if_neg (by omega)]; exact hq.2.2 (by omega)
end

section
open Go Go.RowKit

def boolsV (l : List Bool) : List Value := l.map .bool
theorem boolsV_get {l : List Bool} {j : Nat} {b : Bool} (h : l[j]? = some b) : (boolsV l)[j]? = some (.bool b) := by simp [boolsV, h]
theorem boolsV_length (l : List Bool) : (boolsV l).length = l.length := by simp [boolsV]
theorem boolsV_set (l : List Bool) (i : Nat) (b : Bool) : boolsV (l.set i b) = (boolsV l).set i (.bool b) := by simp [boolsV, List.map_set]
def fKids (x : Fz) : List Nat := if fAr x.o = 2 then [x.a.toNat, x.b.toNat] else if fAr x.o = 1 then [x.a.toNat] else []
def fkids (f : List Fz) : List Nat := f.flatMap fKids
/-- Is this formula valid? -/
def FV (f : List Fz) : Prop := f.length ≤ 512 ∧ 0 < f.length ∧ (∀ i x, f[i]? = some x → fzP x i) ∧ ∀ i, i + 1 < f.length → (fkids f).count i = 1
open Classical in
noncomputable def chkF (f : List Fz) : Int := if FV f then 0 else 30
theorem chkF_ok {f : List Fz} (h : FV f) : chkF f = 0 := if_pos h
theorem chkF_no {f : List Fz} (h : ¬ FV f) : chkF f = 30 := if_neg h
theorem fkids_snoc (d : List Fz) {i : Nat} {x : Fz} (h : d[i]? = some x) : fkids (d.take (i + 1)) = fkids (d.take i) ++ fKids x := by
  simp [fkids, List.take_add_one, h]
theorem fKids_lt {x : Fz} {i : Nat} (h : fzP x i) : ∀ j ∈ fKids x, j < i := by
  intro j hj
  obtain ⟨_, _, h3, h4⟩ := h
  unfold fKids at hj
  split at hj
  · rename_i h2
    rw [if_pos (by omega)] at h3 h4
    simp at hj
    omega
  · split at hj
    · rename_i h2
      rw [if_pos (by omega)] at h3
      simp at hj
      omega
    · simp at hj
theorem fkids_lt {d : List Fz} {i : Nat} (h : ∀ j x, j < i → d[j]? = some x → fzP x j) : ∀ j ∈ fkids (d.take i), j + 1 < i := by
  intro j hj
  simp only [fkids, List.mem_flatMap] at hj
  obtain ⟨x, hx, hk⟩ := hj
  obtain ⟨m, hm, hx'⟩ := List.mem_iff_getElem.1 hx
  have hlen : m < i := by simp at hm; omega
  have hx2 : d[m]? = some x := by
    rw [List.getElem_take] at hx'
    rw [← hx']
    exact List.getElem?_eq_getElem _
  have := fKids_lt (h m x hlen hx2) j hk
  omega

/-- Which of the first n numbers are in the list. -/
def usedL (l : List Nat) (n : Nat) : List Bool := (List.range n).map fun j => decide (j ∈ l)
theorem usedL_get (l : List Nat) (n j : Nat) (hj : j < n) : (usedL l n)[j]? = some (decide (j ∈ l)) := by simp [usedL, hj]
theorem usedL_len (l : List Nat) (n : Nat) : (usedL l n).length = n := by simp [usedL]
theorem usedL_set (l : List Nat) (n k : Nat) : (usedL l n).set k true = usedL (l ++ [k]) n := by
  unfold usedL
  apply List.ext_getElem
  · simp
  · intro i h1 h2
    simp at h1
    simp only [List.getElem_set, List.getElem_map, List.getElem_range, List.mem_append, List.mem_singleton]
    split
    · rename_i h; subst h; simp
    · rename_i h
      have : ¬ i = k := fun e => h e.symm
      simp [this]
theorem usedL_nil (n : Nat) : usedL [] n = List.replicate n false := by
  apply List.ext_getElem
  · simp [usedL]
  · intro i h1 h2; simp [usedL]

theorem nFV_nd {d : List Fz} {s : Nat} {x : Fz} (hx : d[s]? = some x) (h : ¬ fzP x s) : ¬ FV d := fun hv => h (hv.2.2.1 s x hx)
theorem nFV_dup {d : List Fz} {s : Nat} (hnd : ∀ j x, j < s → d[j]? = some x → fzP x j) (hs : s ≤ d.length) (h : ¬ (fkids (d.take s)).Nodup) : ¬ FV d := fun hv => by
  apply h
  rw [List.nodup_iff_count]
  intro a
  by_cases ha : a ∈ fkids (d.take s)
  · have h1 := fkids_lt hnd a ha
    have h2 := hv.2.2.2 a (by omega)
    rw [← h2]
    have hsub : (fkids (d.take s)).Sublist (fkids d) := by
      have : fkids d = fkids (d.take s) ++ fkids (d.drop s) := by
        unfold fkids
        rw [← List.flatMap_append, List.take_append_drop]
      rw [this]
      exact List.sublist_append_left _ _
    exact hsub.count_le a
  · rw [List.count_eq_zero.2 ha]; omega
theorem FV_of {d : List Fz} (h1 : d.length ≤ 512) (h2 : 0 < d.length) (hnd : ∀ j x, j < d.length → d[j]? = some x → fzP x j) (hn : (fkids d).Nodup) (hu : ∀ j, j + 1 < d.length → j ∈ fkids d) : FV d :=
  ⟨h1, h2, fun i x hx => hnd i x (List.getElem?_eq_some_iff.1 hx).1 hx, fun i hi => by
    have h3 := List.nodup_iff_count.1 hn i
    have h4 := List.count_pos_iff.2 (hu i hi)
    omega⟩

theorem new_eq {w : World} {t : TypeId} {cs cs' : List Value} {K : Addr → World → Prop} (h : cs = cs') (k : ∀ w1, Ext w w1 → w1.heap.size = w.heap.size + 1 → Blk w1 w.heap.size t cs' → K ⟨w.heap.size, 0, none⟩ w1) : New w t cs K := by
  subst h; exact new k

abbrev SF (w : World) (A : Option Addr) (n c : Nat) (f : List Fz) : Prop := SlS Fz.cells 4 w A n c f

/-- The operands of a node, as the program lists them. -/
def opds (x : Fz) : List Int := [x.a, x.b].take (fAr x.o).toNat
theorem opds_kids {x : Fz} {i : Nat} (h : fzP x i) : (opds x).length = (fAr x.o).toNat ∧ ∀ j : Nat, ∀ a : Int, (opds x)[j]? = some a → 0 ≤ a ∧ a < i ∧ (fKids x)[j]? = some a.toNat := by
  obtain ⟨h1, _, h3, h4⟩ := h
  unfold opds fKids
  rcases fAr_cases x.o with ⟨_, e⟩ | ⟨_, e⟩ | ⟨_, e⟩ | ⟨e, _⟩
  · rw [e]; simp
  · rw [e] at h3 ⊢
    simp at h3
    simp
    intro j a ha
    cases j with
    | zero => simp at ha; subst ha; simp; omega
    | succ j => simp at ha
  · rw [e] at h3 h4 ⊢
    simp at h3 h4
    simp
    intro j a ha
    match j, ha with
    | 0, ha => simp at ha; subst ha; simp; omega
    | 1, ha => simp at ha; subst ha; simp; omega
    | j + 2, ha => simp at ha
  · rw [e] at h1; omega
theorem fKids_len (x : Fz) (_ : 0 ≤ fAr x.o) : (fKids x).length = (fAr x.o).toNat := by
  unfold fKids
  rcases fAr_cases x.o with ⟨_, e⟩ | ⟨_, e⟩ | ⟨_, e⟩ | ⟨e, _⟩ <;> rw [e] <;> first | rfl | omega
end

section
open Go Go.RowKit

theorem check_fn (A : Option Addr) (n c : Nat) (f : List Fz) (w : World) (h : SF w A n c f) :
    Fn Tryz.prog 147 [.slice A n c] w (fun v w' => v = .int .i64 (chkF f) ∧ Ext w w') := by
  have hlen := h.2
  refine fn_of_exec (c := { c147 with cuts := [4] }) gx_ok Tryz.func147 rfl rfl rfl ?_
  refine wif_eq (fun h1 => ?_) (fun h1 => ?_)
  · exact ⟨by rw [chkF_no (fun hv => by have := hv.2.1; omega)], Ext.refl w⟩
  refine wif_d (fun h2 => ?_) (fun h2 => ?_)
  · exact ⟨by rw [chkF_no (fun hv => by have := hv.1; omega)], Ext.refl w⟩
  refine new_eq (cs' := boolsV (List.replicate 512 false)) (by kernel_rfl) (fun w1 hE1 hz1 hB1 => ?_)
  rw [← usedL_nil] at hB1
  refine cutIn [] gx_ok [] (fun _ : Unit => []) (fun _ w' => Ext w w' ∧ Blk w' w.heap.size 232 (boolsV (usedL (fkids f) 512)) ∧ (∀ j x, j < n → f[j]? = some x → fzP x j) ∧ (fkids f).Nodup) ?_ ?_
  · refine loop gx_ok [20] (fun s : Nat => [.int .i64 s]) (fun s w' => Ext w w' ∧ Blk w' w.heap.size 232 (boolsV (usedL (fkids (f.take s)) 512)) ∧ s ≤ n ∧ (∀ j x, j < s → f[j]? = some x → fzP x j) ∧ (fkids (f.take s)).Nodup) (fun s _ => n - s) 0 rfl ⟨hE1, hB1, Nat.zero_le _, fun j x hj => absurd hj (by omega), by simp [fkids]⟩ ?_
    rintro s w2 ⟨hE2, hU2, hs, hnd, hnn⟩
    refine wif_d (fun h3 => ?_) (fun h3 => ?_)
    · refine index_sls fz_len (h.ext hE2) rfl (by omega) (fun p x hx hc => ?_)
      refine loadN_at (vs := x.cells) rfl hc ?_
      refine new (fun w3 hE3 hz3 hB3 => ?_)
      refine storeN_blk0 hB3 rfl (sc rfl) (fun w4 hg4 hz4 hB4 => ?_)
      have hE24 : Ext w2 w4 := newBox hE3 hB3 hg4
      have hE4 := hE2.trans hE24
      have hU4 := hU2.ext hE24
      refine loadN_blk0 hB4 rfl ?_
      refine call (arity_fn x s w4) ?_
      rintro v w5 ⟨rfl, hE5⟩
      have hB5 := hB4.ext hE5
      have bad : ¬ (fzP x s ∧ (fkids (f.take (s + 1))).Nodup) → chkF f = 30 := fun hno => by
        refine chkF_no ?_
        by_cases hx1 : fzP x s
        · refine nFV_dup (s := s + 1) (fun j y hj hy => ?_) (by omega) (fun h => hno ⟨hx1, h⟩)
          by_cases hjs : j < s
          · exact hnd j y hjs hy
          · have : j = s := by omega
            subst this
            rw [Option.some.inj (hy.symm.trans hx)]; exact hx1
        · exact nFV_nd hx hx1
      by_cases hxp : ¬ fzP x s
      · refine wif_dt (by rw [if_neg hxp]; decide) ?_
        exact ⟨by rw [bad (fun hh => hxp hh.1)], hE4.trans hE5⟩
      replace hxp := Decidable.not_not.1 hxp
      have h0 := hxp.1
      have e5 : (if fzP x s then fAr x.o else -1) = ((fAr x.o).toNat : Int) := by rw [if_pos hxp]; omega
      rw [e5]
      refine wif_df (by omega) ?_
      refine load_blk hB5 rfl ?_
      refine load_blk hB5 rfl ?_
      refine at_build2 gx_ok rfl rfl rfl rfl rfl rfl rfl rfl rfl rfl (fun w6 hE6 hz6 hB6 => ?_)
      have har : (fAr x.o).toNat ≤ 2 := by rcases fAr_cases x.o with h | h | h | h <;> omega
      refine at_slice_h gx_ok rfl rfl rfl rfl rfl rfl har ?_
      have hE56 := hE5.trans hE6
      have hU6 := hU4.ext hE56
      have hE06 := hE4.trans hE56
      obtain ⟨ol, ok⟩ := opds_kids hxp
      have hfl := fKids_len x h0
      have hsl : Sl w6 1 (some ⟨w5.heap.size, 0, none⟩) (fAr x.o).toNat 2 ((opds x).map (Value.int .i64)) := by
        have := Sl.own (sz := 1) (n := (fAr x.o).toNat) (c := 2) hB6 har (by decide) (by simpa using har)
        rw [Nat.mul_one] at this
        simpa [opds, List.map_take] using this
      have hkz : fkids (f.take (s + 1)) = fkids (f.take s) ++ fKids x := fkids_snoc f hx
      refine loop gx_ok [38] (fun t : Nat => [.int .i64 t]) (fun t w' => Mod (· = w.heap.size) w6 w' ∧ Blk w' w.heap.size 232 (boolsV (usedL (fkids (f.take s) ++ (fKids x).take t) 512)) ∧ t ≤ (fAr x.o).toNat ∧ (fkids (f.take s) ++ (fKids x).take t).Nodup) (fun t _ => (fAr x.o).toNat - t) 0 rfl ⟨Mod.refl _ _, by simpa using hU6, Nat.zero_le _, by simpa using hnn⟩ ?_
      rintro t w7 ⟨hm7, hU7, ht, hn7⟩
      have hE7 : Ext w w7 := hm7.ext hE06 (fun i hi => by omega)
      refine wif_d (fun h7 => ?_) (fun h7 => ?_)
      · have htl : t < (opds x).length := by omega
        have hot : (opds x)[t]? = some (opds x)[t] := List.getElem?_eq_getElem htl
        generalize (opds x)[t] = a at hot
        obtain ⟨a0, ai, ak⟩ := ok t a hot
        refine index_sl hsl (by omega) (fun ad u hA hu hcell => ?_)
        simp only [List.getElem?_map, hot, Option.map_some] at hu
        cases hu
        have hcell7 : w7.cell? (ad.add t) = some (.int .i64 a) := World.grownBy.cell (hm7.grown (row := some w.heap.size) (fun i hi => by rw [hi])) hcell (by
          rw [block_add]
          cases hA
          intro e
          have := (Option.some.inj e)
          have := hE4.size
          have := hE5.size
          have := hE1.size
          have := hU2.lt
          simp only at *
          omega)
        refine load hcell7 ?_
        have hal : a.toNat < 512 := by omega
        refine index_i (j := a.toNat) (by omega) hal ?_
        refine load_blk hU7 (boolsV_get (usedL_get _ _ _ hal)) ?_
        have htk : (fKids x).take (t + 1) = (fKids x).take t ++ [a.toNat] := by rw [List.take_add_one, ak]; rfl
        refine wif_d (fun h8 => ?_) (fun h8 => ?_)
        · refine ⟨?_, hE7⟩
          rw [bad]
          rintro ⟨_, hnd2⟩
          rw [hkz] at hnd2
          have hsub : (fkids (f.take s) ++ (fKids x).take (t + 1)).Nodup := hnd2.sublist ((List.Sublist.refl _).append (List.take_sublist _ _))
          rw [htk, ← List.append_assoc, List.nodup_append] at hsub
          exact hsub.2.2 _ h8 _ (by simp) rfl
        · refine index_i (j := a.toNat) (by omega) hal ?_
          refine store_mod hU7 (by rw [boolsV_length, usedL_len]; exact hal) (fun w8 hm8 hB8 => ?_)
          rw [← boolsV_set, usedL_set, List.append_assoc, ← htk] at hB8
          refine norm_i64_to ((t + 1 : Nat) : Int) (by omega) (by omega) ?_
          refine ⟨t + 1, rfl, ⟨hm7.trans hm8 (fun i hi => .inl hi), hB8, by omega, ?_⟩, by show (fAr x.o).toNat - (t + 1) < (fAr x.o).toNat - t; omega⟩
          rw [htk, ← List.append_assoc, List.nodup_append]
          refine ⟨hn7, by simp, fun u hu v hv e => ?_⟩
          simp only [List.mem_singleton] at hv
          subst hv; subst e
          exact h8 hu
      · have e : (fKids x).take t = fKids x := List.take_of_length_le (by omega)
        rw [e, ← hkz] at hU7 hn7
        refine norm_i64_to ((s + 1 : Nat) : Int) (by omega) (by omega) ?_
        refine ⟨s + 1, rfl, ⟨hE7, hU7, by omega, fun j y hj hy => ?_, hn7⟩, by show n - (s + 1) < n - s; omega⟩
        by_cases hjs : j < s
        · exact hnd j y hjs hy
        · have : j = s := by omega
          subst this
          rw [Option.some.inj (hy.symm.trans hx)]; exact hxp
    · have : s = n := by omega
      subst this
      rw [List.take_of_length_le (by omega)] at hU2 hnn
      exact ⟨(), rfl, hE2, hU2, hnd, hnn⟩
  rintro ⟨⟩ w2 ⟨hE2, hU2, hnd, hnn⟩
  refine norm_i64_to ((n - 1 : Nat) : Int) (by omega) (by omega) ?_
  refine at_slice_h gx_ok rfl rfl rfl rfl rfl rfl (by have := h.1.le; omega) ?_
  refine loop gx_ok [55] (fun s : Nat => [.int .i64 s]) (fun s w' => w2 = w' ∧ s ≤ n - 1 ∧ ∀ j, j < s → j ∈ fkids f) (fun s _ => n - s) 0 rfl ⟨rfl, Nat.zero_le _, fun j hj => absurd hj (by omega)⟩ ?_
  rintro s _ ⟨rfl, hs, hu⟩
  refine wif_d (fun h3 => ?_) (fun h3 => ?_)
  · refine index (by omega) ?_
    refine load_blk hU2 (boolsV_get (usedL_get _ _ s (by omega))) ?_
    refine wif_not (wif_d (fun hm => ?_) (fun hm => ?_))
    · refine norm_i64_to ((s + 1 : Nat) : Int) (by omega) (by omega) ?_
      refine ⟨s + 1, rfl, ⟨rfl, by omega, fun j hj => ?_⟩, by show n - (s + 1) < n - s; omega⟩
      by_cases hjs : j < s
      · exact hu j hjs
      · have : j = s := by omega
        rw [this]; exact hm
    · refine ⟨?_, hE2⟩
      rw [chkF_no (fun hv => ?_)]
      have := hv.2.2.2 s (by omega)
      rw [List.count_eq_zero.2 hm] at this
      cases this
  · exact ⟨by rw [chkF_ok (FV_of (by omega) (by omega) (fun j x hj hx => hnd j x (by omega) hx) hnn (fun j hj => hu j (by omega)))], hE2⟩
end
end
end Go.Proofs.YtedopgkbajhanaaGreatDoor

namespace Go.Proofs.YtedopgkbajhanaaGreatDoor
section
section
open Go Go.RowKit

/-- A formula. -/
inductive Fm where
  | c (b : Bool)
  | v (n : Nat)
  | not (a : Fm)
  | and (a b : Fm)
  | or (a b : Fm)
deriving DecidableEq

/-- The nodes show this formula at i. -/
def RepF (f : List Fz) : Fm → Nat → Prop
  | .c b, i => f[i]? = some ⟨if b then 1 else 0, 0, 0, 0⟩
  | .v n, i => f[i]? = some ⟨2, (n : Nat), 0, 0⟩
  | .not a, i => ∃ j : Nat, j < i ∧ f[i]? = some ⟨3, 0, (j : Nat), 0⟩ ∧ RepF f a j
  | .and a b, i => ∃ j k : Nat, j < i ∧ k < i ∧ f[i]? = some ⟨4, 0, (j : Nat), (k : Nat)⟩ ∧ RepF f a j ∧ RepF f b k
  | .or a b, i => ∃ j k : Nat, j < i ∧ k < i ∧ f[i]? = some ⟨5, 0, (j : Nat), (k : Nat)⟩ ∧ RepF f a j ∧ RepF f b k

theorem fz_form {x : Fz} {i : Nat} (h : fzP x i) : (x = ⟨0, 0, 0, 0⟩) ∨ (x = ⟨1, 0, 0, 0⟩) ∨ (∃ n : Nat, n < 64 ∧ x = ⟨2, n, 0, 0⟩) ∨ (∃ j : Nat, j < i ∧ x = ⟨3, 0, j, 0⟩) ∨ (∃ j k : Nat, j < i ∧ k < i ∧ (x = ⟨4, 0, j, k⟩ ∨ x = ⟨5, 0, j, k⟩)) := by
  obtain ⟨o, v, a, b⟩ := x
  obtain ⟨h1, h2, h3, h4⟩ := h
  simp only at h1 h2 h3 h4
  rcases fAr_cases o with ⟨ho, e⟩ | ⟨ho, e⟩ | ⟨ho, e⟩ | ⟨e, _⟩
  · rw [if_neg (by omega)] at h3 h4
    subst h3; subst h4
    rcases ho with rfl | rfl | rfl
    · rw [if_neg (by omega)] at h2; subst h2; exact .inl rfl
    · rw [if_neg (by omega)] at h2; subst h2; exact .inr (.inl rfl)
    · rw [if_pos rfl] at h2
      refine .inr (.inr (.inl ⟨v.toNat, by omega, ?_⟩))
      rw [Int.toNat_of_nonneg h2.1]
  · rw [if_pos (by omega)] at h3
    rw [if_neg (by omega)] at h4 h2
    subst ho; subst h4; subst h2
    refine .inr (.inr (.inr (.inl ⟨a.toNat, by omega, ?_⟩)))
    rw [Int.toNat_of_nonneg h3.1]
  · rw [if_pos (by omega)] at h3 h4
    rw [if_neg (by omega)] at h2
    subst h2
    refine .inr (.inr (.inr (.inr ⟨a.toNat, b.toNat, by omega, by omega, ?_⟩)))
    rw [Int.toNat_of_nonneg h3.1, Int.toNat_of_nonneg h4.1]
    rcases ho with rfl | rfl
    · exact .inl rfl
    · exact .inr rfl
  · omega
theorem rep_of {f : List Fz} (h : ∀ i x, f[i]? = some x → fzP x i) : ∀ i, i < f.length → ∃ t, RepF f t i := by
  intro i
  induction i using Nat.strongRecOn with
  | _ i ih =>
    intro hi
    have hx := List.getElem?_eq_getElem hi
    rcases fz_form (h i _ hx) with e | e | ⟨n, _, e⟩ | ⟨j, hj, e⟩ | ⟨j, k, hj, hk, e⟩
    · exact ⟨.c false, by rw [e] at hx; exact hx⟩
    · exact ⟨.c true, by rw [e] at hx; exact hx⟩
    · exact ⟨.v n, by rw [e] at hx; exact hx⟩
    · obtain ⟨a, ha⟩ := ih j hj (by omega)
      exact ⟨.not a, j, hj, by rw [e] at hx; exact hx, ha⟩
    · obtain ⟨a, ha⟩ := ih j hj (by omega)
      obtain ⟨b, hb⟩ := ih k hk (by omega)
      rcases e with e | e
      · exact ⟨.and a b, j, k, hj, hk, by rw [e] at hx; exact hx, ha, hb⟩
      · exact ⟨.or a b, j, k, hj, hk, by rw [e] at hx; exact hx, ha, hb⟩
theorem RepF.lt {f : List Fz} : ∀ {t : Fm} {i : Nat}, RepF f t i → i < f.length
  | .c _, _, h => (List.getElem?_eq_some_iff.1 h).1
  | .v _, _, h => (List.getElem?_eq_some_iff.1 h).1
  | .not _, _, ⟨_, _, h, _⟩ => (List.getElem?_eq_some_iff.1 h).1
  | .and _ _, _, ⟨_, _, _, _, h, _⟩ => (List.getElem?_eq_some_iff.1 h).1
  | .or _ _, _, ⟨_, _, _, _, h, _⟩ => (List.getElem?_eq_some_iff.1 h).1

def lvlF : Fm → Nat
  | .or _ _ => 0
  | .and _ _ => 1
  | _ => 2
def parF (b : Bool) (s : List Nat) : List Nat := if b then 40 :: s ++ [41] else s
/-- What is printed, without the outer parentheses. -/
def prC (nm : List (List Nat)) : Fm → List Nat
  | .c b => if b then trueL else falseL
  | .v n => nm[n]?.getD []
  | .not a => 33 :: parF (decide (lvlF a < 2)) (prC nm a)
  | .and a b => parF (decide (lvlF a < 1)) (prC nm a) ++ [32, 38, 38, 32] ++ parF (decide (lvlF b < 2)) (prC nm b)
  | .or a b => parF (decide (lvlF a < 0)) (prC nm a) ++ [32, 124, 124, 32] ++ parF (decide (lvlF b < 1)) (prC nm b)
def prF (nm : List (List Nat)) (least : Nat) (t : Fm) : List Nat := parF (decide (lvlF t < least)) (prC nm t)
/-- Every condition has a name. -/
def VarsIn (n : Nat) : Fm → Prop
  | .c _ => True
  | .v k => k < n
  | .not a => VarsIn n a
  | .and a b => VarsIn n a ∧ VarsIn n b
  | .or a b => VarsIn n a ∧ VarsIn n b

end

section
open Go Go.RowKit

theorem liesB0 : LiesB 86 2 := by unfold LiesB; kernel_rfl

/-- Something was written. -/
def Wr (base g : Nat) (W : World) (A1 : Option Addr) (out xs : List Nat) (w' : World) : Prop := ∃ A' c', Bld w' base g 86 [] A' c' (out ++ xs) ∧ Mod (BldS g A1) W w' ∧ Moved W A1 A'
theorem Wr.refl {base g : Nat} {W : World} {A1 : Option Addr} {c : Nat} {out : List Nat} (h : Bld W base g 86 [] A1 c out) : Wr base g W A1 out [] W := ⟨A1, c, by simpa using h, Mod.refl _ _, Moved.refl _ _⟩
theorem Wr.trans {base g : Nat} {W w1 w2 : World} {A1 A' : Option Addr} {out xs ys : List Nat} (hm : Mod (BldS g A1) W w1) (hv : Moved W A1 A') (k : Wr base g w1 A' (out ++ xs) ys w2) : Wr base g W A1 out (xs ++ ys) w2 := by
  obtain ⟨A2, c2, hb2, hm2, hv2⟩ := k
  exact ⟨A2, c2, by rw [← List.append_assoc]; exact hb2, hm.trans hm2 (BldS.moved hv), hv.trans hv2 hm.size⟩
theorem Wr.pre {base g : Nat} {w w2 w' : World} {A : Option Addr} {out xs : List Nat} (h : Wr base g w2 A out xs w') (hE : Ext w w2) : Wr base g w A out xs w' := by
  obtain ⟨A2, c2, hb2, hm2, hv2⟩ := h
  exact ⟨A2, c2, hb2, (Mod.of_ext _ hE).trans hm2 (fun i hi => .inl hi), hv2.back hE.size⟩
theorem BldS.kept {base g : Nat} {w0 W : World} {A : Option Addr} {c : Nat} {out : List Nat} (h : Bld W base g 86 [] A c out) (hg : w0.heap.size ≤ g) : ∀ i, BldS g A i → w0.heap.size ≤ i := fun i hi => by
  have := h.g1
  rcases hi with rfl | hi
  · exact hg
  · have := (h.own.rows i hi).1
    omega

def szF : Fm → Nat
  | .c _ => 1
  | .v _ => 1
  | .not a => szF a + 1
  | .and a b => szF a + szF b + 1
  | .or a b => szF a + szF b + 1

def opF : Fm → Int
  | .c b => if b then 1 else 0
  | .v _ => 2
  | .not _ => 3
  | .and _ _ => 4
  | .or _ _ => 5
theorem RepF.node {f : List Fz} {t : Fm} {i : Nat} (h : RepF f t i) : ∃ x, f[i]? = some x ∧ x.o = opF t := by
  cases t with
  | c b => exact ⟨_, h, rfl⟩
  | v n => exact ⟨_, h, rfl⟩
  | not a => obtain ⟨j, _, h, _⟩ := h; exact ⟨_, h, rfl⟩
  | and a b => obtain ⟨j, k, _, _, h, _⟩ := h; exact ⟨_, h, rfl⟩
  | or a b => obtain ⟨j, k, _, _, h, _⟩ := h; exact ⟨_, h, rfl⟩

end

section
open Go Go.RowKit

theorem cast_inj3 {o v a b o' v' a' b' : Int} (h : (⟨o, v, a, b⟩ : Fz) = ⟨o', v', a', b'⟩) : o = o' ∧ v = v' ∧ a = a' ∧ b = b' := by cases h; exact ⟨rfl, rfl, rfl, rfl⟩
theorem RepF.det {f : List Fz} : ∀ {t t' : Fm} {i : Nat}, RepF f t i → RepF f t' i → t = t' := by
  intro t
  induction t with
  | c b =>
    intro t' i h h'
    obtain ⟨x, hx, ho⟩ := RepF.node h
    obtain ⟨x', hx', ho'⟩ := RepF.node h'
    have e := Option.some.inj (hx.symm.trans hx')
    rw [← e, ho] at ho'
    cases t' with
    | c b' => cases b <;> cases b' <;> first | rfl | (simp [opF] at ho')
    | v n => cases b <;> simp [opF] at ho'
    | not a => cases b <;> simp [opF] at ho'
    | and a c => cases b <;> simp [opF] at ho'
    | or a c => cases b <;> simp [opF] at ho'
  | v n =>
    intro t' i h h'
    obtain ⟨x', hx', ho'⟩ := RepF.node h'
    have e := Option.some.inj (hx'.symm.trans h)
    rw [e] at ho'
    cases t' with
    | c b' => cases b' <;> simp [opF] at ho'
    | v n' =>
      have := cast_inj3 (Option.some.inj (h.symm.trans h'))
      congr 1; omega
    | not a => simp [opF] at ho'
    | and a c => simp [opF] at ho'
    | or a c => simp [opF] at ho'
  | not a iha =>
    intro t' i h h'
    obtain ⟨j, hj, hx, ha⟩ := h
    obtain ⟨x', hx', ho'⟩ := RepF.node h'
    have e := Option.some.inj (hx'.symm.trans hx)
    rw [e] at ho'
    cases t' with
    | c b' => cases b' <;> simp [opF] at ho'
    | v n' => simp [opF] at ho'
    | not a' =>
      obtain ⟨j', hj', hx'', ha'⟩ := h'
      have := cast_inj3 (Option.some.inj (hx.symm.trans hx''))
      have ej : j = j' := by omega
      subst ej
      rw [iha ha ha']
    | and a c => simp [opF] at ho'
    | or a c => simp [opF] at ho'
  | and a b iha ihb =>
    intro t' i h h'
    obtain ⟨j, k, hj, hk, hx, ha, hb⟩ := h
    obtain ⟨x', hx', ho'⟩ := RepF.node h'
    have e := Option.some.inj (hx'.symm.trans hx)
    rw [e] at ho'
    cases t' with
    | c b' => cases b' <;> simp [opF] at ho'
    | v n' => simp [opF] at ho'
    | not a' => simp [opF] at ho'
    | and a' b' =>
      obtain ⟨j', k', hj', hk', hx'', ha', hb'⟩ := h'
      have := cast_inj3 (Option.some.inj (hx.symm.trans hx''))
      have ej : j = j' := by omega
      have ek : k = k' := by omega
      subst ej; subst ek
      rw [iha ha ha', ihb hb hb']
    | or a c => simp [opF] at ho'
  | or a b iha ihb =>
    intro t' i h h'
    obtain ⟨j, k, hj, hk, hx, ha, hb⟩ := h
    obtain ⟨x', hx', ho'⟩ := RepF.node h'
    have e := Option.some.inj (hx'.symm.trans hx)
    rw [e] at ho'
    cases t' with
    | c b' => cases b' <;> simp [opF] at ho'
    | v n' => simp [opF] at ho'
    | not a' => simp [opF] at ho'
    | and a c => simp [opF] at ho'
    | or a' b' =>
      obtain ⟨j', k', hj', hk', hx'', ha', hb'⟩ := h'
      have := cast_inj3 (Option.some.inj (hx.symm.trans hx''))
      have ej : j = j' := by omega
      have ek : k = k' := by omega
      subst ej; subst ek
      rw [iha ha ha', ihb hb hb']

open Classical in
/-- The formula that a list of nodes shows. -/
noncomputable def treeOf (f : List Fz) : Fm := if h : ∃ t, RepF f t (f.length - 1) then h.choose else .c false
theorem treeOf_eq {f : List Fz} {t : Fm} (h : RepF f t (f.length - 1)) : treeOf f = t := by
  have hex : ∃ t, RepF f t (f.length - 1) := ⟨t, h⟩
  unfold treeOf
  rw [dif_pos hex]
  exact RepF.det hex.choose_spec h
def varsOk (n : Nat) (f : List Fz) : Prop := ∀ x ∈ f, x.o = 2 → x.v < n
end
end
end Go.Proofs.YtedopgkbajhanaaGreatDoor

namespace Go.Proofs.YtedopgkbajhanaaGreatDoor
section
section
open Go Go.RowKit

/-- A branch. -/
structure Br where
  v : Int
  l : Int
  h : Int
deriving DecidableEq
def Br.cells (x : Br) : List Value := [.int .i64 x.v, .int .i64 x.l, .int .i64 x.h]
theorem br_len (x : Br) : x.cells.length = 3 := rfl
abbrev SB (w : World) (A : Option Addr) (n c : Nat) (d : List Br) : Prop := SlS Br.cells 3 w A n c d
def dgV (A : Option Addr) (n c : Nat) (r : Int) : Value := .agg #[.slice A n c, .int .i64 r]

/-- The condition of a number. -/
def lvlD (d : List Br) (n : Int) : Int := if n < 2 then 64 else (d[(n - 2).toNat]?.map (·.v)).getD 64

/-- The walk that numbers branches in the order in which it leaves them. -/
def vis (nd : List Br) : Nat → Int → List Br × List Nat → Int × (List Br × List Nat)
  | 0, n, st => (n, st)
  | m + 1, n, st => if n < 2 then (n, st) else
      if 0 < st.2[(n - 2).toNat]?.getD 0 then ((st.2[(n - 2).toNat]?.getD 0 : Nat), st) else
        match nd[(n - 2).toNat]? with
        | none => (n, st)
        | some x =>
          let a := vis nd m x.l st
          let b := vis nd m x.h a.2
          (((b.2.1.length + 2 : Nat) : Int), (b.2.1 ++ [⟨x.v, a.1, b.1⟩], b.2.2.set (n - 2).toNat (b.2.1.length + 2)))
def numberedD (nd : List Br) (r : Int) : List Br × Int := let a := vis nd (r.toNat + 1) r ([], List.replicate nd.length 0); (a.2.1, a.1)

/-- Children come before their branches. -/
def WfB (nd : List Br) : Prop := ∀ (j : Nat) (x : Br), nd[j]? = some x → 0 ≤ x.l ∧ x.l < j + 2 ∧ 0 ≤ x.h ∧ x.h < j + 2
def brOk (nd : List Br) (j : Nat) (b : Br) : Prop := 0 ≤ b.v ∧ b.v ≤ 63 ∧ 0 ≤ b.l ∧ b.l < j + 2 ∧ 0 ≤ b.h ∧ b.h < j + 2 ∧ b.l ≠ b.h ∧ b ∉ nd.take j ∧ b.v < lvlD nd b.l ∧ b.v < lvlD nd b.h
def VD (nd : List Br) (r : Int) : Prop := (∀ (j : Nat) (b : Br), nd[j]? = some b → brOk nd j b) ∧ 0 ≤ r ∧ r < nd.length + 2 ∧ numberedD nd r = (nd, r)
open Classical in
noncomputable def chkD (nd : List Br) (r : Int) : Int := if 4096 < nd.length then 2 else if VD nd r then 0 else 20
theorem chkD_large {nd : List Br} {r : Int} (h : 4096 < nd.length) : chkD nd r = 2 := if_pos h
theorem chkD_ok {nd : List Br} {r : Int} (h : ¬ 4096 < nd.length) (k : VD nd r) : chkD nd r = 0 := (if_neg h).trans (if_pos k)
theorem chkD_no {nd : List Br} {r : Int} (h : ¬ 4096 < nd.length) (k : ¬ VD nd r) : chkD nd r = 20 := (if_neg h).trans (if_neg k)
theorem chkD_zero {nd : List Br} {r : Int} : chkD nd r = 0 ↔ ¬ 4096 < nd.length ∧ VD nd r := by
  constructor
  · intro h
    unfold chkD at h
    split at h
    · cases h
    · split at h
      · exact ⟨by assumption, by assumption⟩
      · cases h
  · exact fun h => chkD_ok h.1 h.2
theorem VD.wf {nd : List Br} {r : Int} (h : VD nd r) : WfB nd := fun j x hx => by
  obtain ⟨_, _, h1, h2, h3, h4, _⟩ := h.1 j x hx
  exact ⟨h1, h2, h3, h4⟩

theorem level_fn (A : Option Addr) (n c : Nat) (r m : Int) (nd : List Br) (w : World) (h : SB w A n c nd) (hm : m < n + 2) :
    Fn Tryz.prog 94 [dgV A n c r, .int .i64 m] w (fun v w' => v = .int .i64 (lvlD nd m) ∧ Ext w w') := by
  have hlen := h.2
  refine fn_of_exec (c := { c94 with cuts := [] }) gx_ok Tryz.func94 rfl rfl rfl ?_
  refine new (fun w1 hE1 hz1 hB1 => ?_)
  refine wif_d (fun h1 => ?_) (fun h1 => ?_)
  · exact ⟨by unfold lvlD; rw [if_pos h1], hE1⟩
  · refine load_blk0 hB1 rfl ?_
    refine norm_i64_to (((m - 2).toNat : Nat) : Int) (by omega) (by have := h.1.le; have := h.1.cap; simp only [maxLen] at this; omega) ?_
    refine index_sls br_len (h.ext hE1) rfl (by omega) (fun p x hx hc => ?_)
    refine load (hc 0 _ rfl) ?_
    exact ⟨by unfold lvlD; rw [if_neg h1, hx]; rfl, hE1⟩

theorem eq3 (a b c a' b' c' : Int) : (a == a' && (b == b' && (c == c' && true))) = decide (a = a' ∧ b = b' ∧ c = c') := by
  rw [Bool.eq_iff_iff]
  simp only [Bool.and_eq_true, beq_iff_eq, decide_eq_true_eq, and_true]
theorem br_eq {x y : Br} : x = y ↔ x.v = y.v ∧ x.l = y.l ∧ x.h = y.h := by
  constructor
  · rintro rfl; exact ⟨rfl, rfl, rfl⟩
  · obtain ⟨a, b, c⟩ := x; obtain ⟨d, e, f⟩ := y
    rintro ⟨rfl, rfl, rfl⟩; rfl

theorem list_ne {α : Type} {l l' : List α} {j : Nat} {x y : α} (hx : l[j]? = some x) (hy : l'[j]? = some y) (h : x ≠ y) : l ≠ l' := fun e => by subst e; exact h (Option.some.inj (hx.symm.trans hy))
theorem list_eq {α : Type} {l l' : List α} {n : Nat} (h1 : l.length = n) (h2 : l'.length = n) (h : ∀ j, j < n → l[j]? = l'[j]?) : l = l' := by
  apply List.ext_getElem?
  intro j
  by_cases hj : j < n
  · exact h j hj
  · rw [List.getElem?_eq_none (by omega), List.getElem?_eq_none (by omega)]

theorem equal_fn (A B : Option Addr) (n c m e : Nat) (l l' : List Br) (w : World) (h : SB w A n c l) (h' : SB w B m e l') :
    Fn Tryz.prog 66 [.slice A n c, .slice B m e] w (fun v w' => v = .bool (decide (l = l')) ∧ Ext w w') := by
  have hl := h.2
  have hl' := h'.2
  refine fn_of_exec (c := { c66 with cuts := [] }) gx_ok Tryz.func66 rfl rfl rfl ?_
  refine wif_ne (fun h1 => ?_) (fun h1 => ?_)
  · exact ⟨by rw [decide_eq_false (fun e => by subst e; omega)], Ext.refl w⟩
  refine loop gx_ok [13] (fun s : Nat => [.int .i64 s]) (fun s w' => Ext w w' ∧ s ≤ n ∧ ∀ j, j < s → l[j]? = l'[j]?) (fun s _ => n - s) 0 rfl ⟨Ext.refl w, Nat.zero_le _, fun j hj => absurd hj (by omega)⟩ ?_
  rintro s w1 ⟨hE1, hs, hall⟩
  refine wif_d (fun h2 => ?_) (fun h2 => ?_)
  · refine draw_plan gx_ok (Ext w1) 9 [(true, 0), (true, 1), (true, 2), (true, 3), (true, 4), (true, 5), (true, 6), (true, 7), (true, 8)] (by kernel_rfl) (Ext.drew w1) ?_
    refine index_sls br_len (h.ext hE1) rfl (by omega) (fun p x hx hc => ?_)
    refine qloadN (vs := x.cells) rfl (fun w' hw' j v hj => hw'.cell (hc j v hj)) ?_
    refine index_sls br_len (h'.ext hE1) rfl (by omega) (fun q y hy hc' => ?_)
    refine qloadN (vs := y.cells) rfl (fun w' hw' j v hj => hw'.cell (hc' j v hj)) ?_
    have hEd := hE1.trans (Ext.drew w1)
    by_cases hxy : x = y
    · refine wif_f (by rw [eq3, decide_eq_true (br_eq.1 hxy)]; rfl) ?_
      refine norm_i64_to ((s + 1 : Nat) : Int) (by omega) (by have := h.1.le; have := h.1.cap; simp only [maxLen] at this; omega) ?_
      refine ⟨s + 1, rfl, ⟨hEd, by omega, fun j hj => ?_⟩, by show n - (s + 1) < n - s; omega⟩
      by_cases hjs : j < s
      · exact hall j hjs
      · have : j = s := by omega
        subst this
        rw [hx, hy, hxy]
    · refine wif_t (by rw [eq3, decide_eq_false (fun e => hxy (br_eq.2 e))]; rfl) ?_
      exact ⟨by rw [decide_eq_false (list_ne hx hy hxy)], hEd⟩
  · exact ⟨by rw [decide_eq_true (list_eq hl (by omega) (fun j hj => hall j (by omega)))], hE1⟩

theorem same_fn (A B : Option Addr) (n c m e : Nat) (l l' : List Br) (r r' : Int) (w : World) (h : SB w A n c l) (h' : SB w B m e l') :
    Fn Tryz.prog 37 [dgV A n c r, dgV B m e r'] w (fun v w' => v = .bool (decide ((l, r) = (l', r'))) ∧ Ext w w') := by
  refine fn_of_exec (c := { c37 with cuts := [] }) gx_ok Tryz.func37 rfl rfl rfl ?_
  refine new (fun w1 hE1 hz1 hB1 => ?_)
  refine new (fun w2 hE2 hz2 hB2 => ?_)
  have hB12 := hB1.ext hE2
  have hE02 := hE1.trans hE2
  refine load_blk hB12 rfl ?_
  refine load_blk hB2 rfl ?_
  refine wif_eq (fun h1 => ?_) (fun h1 => ?_)
  · refine load_blk0 hB12 rfl ?_
    refine load_blk0 hB2 rfl ?_
    refine call (equal_fn A B n c m e l l' w2 (h.ext hE02) (h'.ext hE02)) ?_
    rintro v w3 ⟨rfl, hE3⟩
    refine ⟨?_, hE02.trans hE3⟩
    congr 1
    exact decide_eq_decide.2 ⟨fun e => by rw [e, h1], fun e => by cases e; rfl⟩
  · exact ⟨by rw [decide_eq_false (fun e => h1 (by cases e; rfl))], hE02⟩
end

section
open Go Go.RowKit

theorem at_insert {α : Type} [DecidableEq α] {kv : α → Value} {c : Cx} {o : Oper} {S : Env} {w : World} {K : Env → World → Prop} {Q : Post} {t ke e : Nat} {r rk : TyRow} {x y : Operand} {q : Nat} {m : List (α × Value)} {a : α} {v : Value} {z : Operand} (hg : c.g.Ok)
    (ho : o.op = .insert t x y z) (hdst : o.dst = none) (hr : rowOf c.g.tys t = some r) (hd : r.d = .map ke e) (hrk : rowOf c.g.tys ke = some rk) (hk : KeyV rk.d kv)
    (hx : S.ev x = some (.map (some q))) (hy : S.ev y = some (kv a)) (hz : S.ev z = some v) (hm : MapAt kv w q m)
    (k : ∀ w1, w.grownBy w1 (some q) → w1.heap.size = w.heap.size → MapAt kv w1 q (assocSet a v m) → K S w1) : AtOp c o S w K Q := by
  have h : AtOp c { o with op := .mapUpdate t x y z } S w K Q := at_mapUpdate hg rfl hdst hr hd hrk hk hx hy hz hm k
  unfold AtOp at *
  intro b hf
  have h1 := h b hf
  unfold Oper.wp at *
  have e : (execOp b.eval o).run c.g.P w = (execOp b.eval { o with op := .mapUpdate t x y z }).run c.g.P w := by simp only [execOp, ho]
  rw [e]
  generalize (execOp b.eval { o with op := .mapUpdate t x y z }).run c.g.P w = r at *
  cases r with
  | ok n w' => cases n <;> simp only [Oper.upon] at h1 ⊢ <;> exact h1
  | halt x w' => cases x <;> simp only [Oper.upon] at h1 ⊢ <;> exact h1

theorem count_set {l : List Nat} {j v : Nat} (h : l[j]? = some 0) (hv : 0 < v) : (l.set j v).count 0 + 1 = l.count 0 := by
  induction l generalizing j with
  | nil => simp at h
  | cons x l ih =>
    cases j with
    | zero =>
      simp at h
      subst h
      rw [List.set_cons_zero, List.count_cons_of_ne (by omega), List.count_cons_self]
    | succ j =>
      simp at h
      have := ih h
      rw [List.set_cons_succ, List.count_cons, List.count_cons]
      omega

theorem vis_lt {nd : List Br} {m : Nat} {n : Int} {st : List Br × List Nat} (h : n < 2) : vis nd (m + 1) n st = (n, st) := by rw [vis, if_pos h]
theorem vis_old {nd : List Br} {m : Nat} {n : Int} {st : List Br × List Nat} (h : ¬ n < 2) (k : 0 < st.2[(n - 2).toNat]?.getD 0) : vis nd (m + 1) n st = (((st.2[(n - 2).toNat]?.getD 0 : Nat) : Int), st) := by rw [vis, if_neg h, if_pos k]
theorem vis_new {nd : List Br} {m : Nat} {n : Int} {st : List Br × List Nat} {x : Br} (h : ¬ n < 2) (k : ¬ 0 < st.2[(n - 2).toNat]?.getD 0) (hx : nd[(n - 2).toNat]? = some x) :
    vis nd (m + 1) n st = ((((vis nd m x.h (vis nd m x.l st).2).2.1.length + 2 : Nat) : Int), ((vis nd m x.h (vis nd m x.l st).2).2.1 ++ [⟨x.v, (vis nd m x.l st).1, (vis nd m x.h (vis nd m x.l st).2).1⟩], (vis nd m x.h (vis nd m x.l st).2).2.2.set (n - 2).toNat ((vis nd m x.h (vis nd m x.l st).2).2.1.length + 2))) := by
  rw [vis, if_neg h, if_neg k, hx]

structure VisF (nd : List Br) (n : Int) (st st' : List Br × List Nat) : Prop where
  len : st'.2.length = nd.length
  keep : ∀ k : Nat, n < (k : Int) + 2 → st'.2[k]? = st.2[k]?
  cnt : st'.1.length + st'.2.count 0 ≤ st.1.length + st.2.count 0
  ge : st.1.length ≤ st'.1.length
theorem vis_facts {nd : List Br} (hw : WfB nd) : ∀ (m : Nat) (n : Int) (st : List Br × List Nat), 0 ≤ n → n < m → n < nd.length + 2 → st.2.length = nd.length → VisF nd n st (vis nd m n st).2
  | 0, n, st, h0, hm, _, _ => by omega
  | m + 1, n, st, h0, hm, hn, hl => by
    by_cases h1 : n < 2
    · rw [vis_lt h1]; exact ⟨hl, fun _ _ => rfl, Nat.le_refl _, Nat.le_refl _⟩
    by_cases h2 : 0 < st.2[(n - 2).toNat]?.getD 0
    · rw [vis_old h1 h2]; exact ⟨hl, fun _ _ => rfl, Nat.le_refl _, Nat.le_refl _⟩
    have hj : (n - 2).toNat < nd.length := by omega
    have hx := List.getElem?_eq_getElem hj
    obtain ⟨w1, w2, w3, w4⟩ := hw _ _ hx
    rw [vis_new h1 h2 hx]
    have f1 := vis_facts hw m nd[(n - 2).toNat].l st w1 (by omega) (by omega) hl
    have f2 := vis_facts hw m nd[(n - 2).toNat].h _ w3 (by omega) (by omega) f1.len
    generalize (vis nd m nd[(n - 2).toNat].l st) = a at *
    generalize (vis nd m nd[(n - 2).toNat].h a.2) = b at *
    have hz : st.2[(n - 2).toNat]? = some 0 := by
      have : st.2[(n - 2).toNat]? = some st.2[(n - 2).toNat] := List.getElem?_eq_getElem (by omega)
      rw [this] at h2 ⊢
      simp only [Option.getD_some] at h2
      congr 1; omega
    have hz2 : b.2.2[(n - 2).toNat]? = some 0 := by rw [f2.keep _ (by omega), f1.keep _ (by omega), hz]
    have hc := count_set (v := b.2.1.length + 2) hz2 (by omega)
    have c1 := f1.cnt
    have c2 := f2.cnt
    have g1 := f1.ge
    have g2 := f2.ge
    refine ⟨by rw [List.length_set]; exact f2.len, fun k hk => ?_, ?_, ?_⟩
    · rw [List.getElem?_set_ne (by omega), f2.keep k (by omega), f1.keep k (by omega)]
    · rw [List.length_append]; simp only [List.length_cons, List.length_nil]; omega
    · rw [List.length_append]; omega

abbrev intK : Int → Value := fun n => .int .i64 n
/-- The map tells the numbers that are given so far. -/
def MapOk (num : List Nat) (m : List (Int × Value)) : Prop := ∀ n : Int, 0 ≤ n → assoc n m = if n < 2 then some (.int .i64 n) else if 0 < num[(n - 2).toNat]?.getD 0 then some (.int .i64 (num[(n - 2).toNat]?.getD 0 : Nat)) else none
theorem MapOk.set {num : List Nat} {m : List (Int × Value)} (h : MapOk num m) {n : Int} (h2 : ¬ n < 2) (hl : (n - 2).toNat < num.length) {v : Nat} (hv : 0 < v) : MapOk (num.set (n - 2).toNat v) (assocSet n (.int .i64 (v : Nat)) m) := by
  intro k hk
  rw [assoc_set]
  by_cases e : k = n
  · subst e
    rw [if_pos rfl, if_neg h2, List.getElem?_set_self hl]
    simp only [Option.getD_some]
    rw [if_pos hv]
  · rw [if_neg e, h k hk]
    by_cases hk2 : k < 2
    · rw [if_pos hk2, if_pos hk2]
    · rw [if_neg hk2, if_neg hk2, List.getElem?_set_ne (by omega)]
theorem mapOk_init (n : Nat) : MapOk (List.replicate n 0) (assocSet 1 (.int .i64 1) (assocSet 0 (.int .i64 0) [])) := by
  intro k hk
  rw [assoc_set, assoc_set]
  by_cases h1 : k = 1
  · subst h1; rfl
  · rw [if_neg h1]
    by_cases h0 : k = 0
    · subst h0; rfl
    · rw [if_neg h0, if_neg (by omega), if_neg]
      · rfl
      · cases h : (List.replicate n 0)[(k - 2).toNat]? with
        | none => simp
        | some x =>
          have := List.eq_of_mem_replicate (List.mem_of_getElem? h)
          rw [this]; simp
end

section
open Go Go.RowKit

def brV (l : List Br) : List Value := l.flatMap Br.cells
theorem brV_snoc (l : List Br) (x : Br) : brV (l ++ [x]) = brV l ++ x.cells := by simp [brV]

/-- Where the closure's variables lie. -/
structure VP where
  mb : Nat
  q : Nat
  bb : Nat
  bp : Nat
  fb : Nat
  ob : Nat
def VP.ptr (i : Nat) : Value := .pointer (some ⟨i, 0, none⟩)
def VP.clo (p : VP) : Value := .func (.func 128) #[] #[VP.ptr p.mb, VP.ptr p.bb, VP.ptr p.fb, VP.ptr p.ob]
/-- The variables that stay. -/
structure VK (w : World) (base : Nat) (p : VP) (NA : Option Addr) (nn nc : Nat) (nd : List Br) : Prop where
  mbx : Blk w p.mb 188 [.map (some p.q)]
  bbx : Blk w p.bb 156 [VP.ptr p.bp]
  bpx : ∃ kv, Blk w p.bp 159 [.slice NA nn nc, kv]
  fbx : Blk w p.fb 189 [p.clo]
  nds : SB w NA nn nc nd
  lt : p.q < base ∧ p.ob < base
  ne : p.q ≠ p.ob ∧ p.q ≠ p.mb ∧ p.q ≠ p.bb ∧ p.q ≠ p.bp ∧ p.q ≠ p.fb ∧ p.ob ≠ p.mb ∧ p.ob ≠ p.bb ∧ p.ob ≠ p.bp ∧ p.ob ≠ p.fb
  lt2 : p.mb < base ∧ p.bb < base ∧ p.bp < base ∧ p.fb < base
  row : ∀ ad, NA = some ad → 0 < nn → ad.block < base ∧ ad.block ≠ p.q ∧ ad.block ≠ p.ob
/-- What the closure writes. -/
def VS (p : VP) (A : Option Addr) : Nat → Prop := fun k => k = p.q ∨ k = p.ob ∨ rowS A k
theorem VS.moved {w : World} {p : VP} {A A' : Option Addr} (h : Moved w A A') : ∀ k, VS p A' k → VS p A k ∨ w.heap.size ≤ k := by
  rintro k (rfl | rfl | hk)
  · exact .inl (.inl rfl)
  · exact .inl (.inr (.inl rfl))
  · rcases h.rows k hk with h | h
    · exact .inl (.inr (.inr h))
    · exact .inr h
theorem Mod.cell {S : Nat → Prop} {w w' : World} (k : Mod S w w') {a : Addr} {v : Value} (h : w.cell? a = some v) (hn : ¬ S a.block) : w'.cell? a = some v := by
  have hlt := World.block_lt_of_cell? w a h
  have e := k.block a.block hlt hn
  unfold World.cell? at h ⊢
  rw [e]; exact h
theorem Sl.modS {S : Nat → Prop} {w w' : World} {sz n c : Nat} {A : Option Addr} {cs : List Value} (h : Sl w sz A n c cs) (k : Mod S w w') (hn : 0 < n → ∀ i, rowS A i → ¬ S i) : Sl w' sz A n c cs :=
  ⟨h.len, h.le, h.cap, fun h0 => by
    obtain ⟨ad, rfl, hc⟩ := h.at_ h0
    exact ⟨ad, rfl, fun j u hu => k.cell (hc j u hu) (hn h0 _ ⟨ad, rfl, (block_add ad j).symm⟩)⟩⟩
theorem at_lookup' {α : Type} [DecidableEq α] {kv : α → Value} {c : Cx} {o : Oper} {S : Env} {w : World} {K : Env → World → Prop} {Q : Post} {t ke e : Nat} {r rk re : TyRow} {x y : Operand} {q : Nat} {m : List (α × Value)} {a : α} {v : Value} (hg : c.g.Ok)
    (ho : o.op = .lookup t x y false) (hr : rowOf c.g.tys t = some r) (hd : r.d = .map ke e) (hrk : rowOf c.g.tys ke = some rk) (hre : rowOf c.g.tys e = some re) (hk : KeyV rk.d kv)
    (hx : S.ev x = some (.map (some q))) (hy : S.ev y = some (kv a)) (hm : MapAt kv w q m) (hv : (assoc a m).getD re.z = v) (k : putK c S o.dst (.v v) (fun S => K S w)) : AtOp c o S w K Q := by
  subst hv
  exact at_lookup hg ho hr hd hrk hre hk hx hy hm k

theorem VK.mod {w w' : World} {base : Nat} {p : VP} {NA OA : Option Addr} {nn nc : Nat} {nd : List Br} (h : VK w base p NA nn nc nd) (hr : ∀ i, rowS OA i → base ≤ i) (hm : Mod (VS p OA) w w') : VK w' base p NA nn nc nd := by
  obtain ⟨n1, n2, n3, n4, n5, n6, n7, n8, n9⟩ := h.ne
  obtain ⟨l1, l2, l3, l4⟩ := h.lt2
  have key : ∀ i, i < base → i ≠ p.q → i ≠ p.ob → ¬ VS p OA i := fun i hi hq ho e => by
    rcases e with e | e | e
    · exact hq e
    · exact ho e
    · have := hr i e; omega
  obtain ⟨kv, hbp⟩ := h.bpx
  refine ⟨h.mbx.mod hm (key _ l1 n2.symm n6.symm), h.bbx.mod hm (key _ l2 n3.symm n7.symm), ⟨kv, hbp.mod hm (key _ l3 n4.symm n8.symm)⟩, h.fbx.mod hm (key _ l4 n5.symm n9.symm), ⟨h.nds.1.modS hm ?_, h.nds.2⟩, h.lt, h.ne, h.lt2, h.row⟩
  rintro h0 i ⟨ad, rfl, rfl⟩
  obtain ⟨r1, r2, r3⟩ := h.row ad rfl h0
  exact key _ r1 r2 r3

/-- The state of the walk, in memory. -/
structure VSt (w : World) (base : Nat) (p : VP) (r0 : Int) (OA : Option Addr) (oc : Nat) (st : List Br × List Nat) : Prop where
  own : Own w base 116 3 OA st.1.length oc (brV st.1)
  obx : Blk w p.ob 42 [.slice OA st.1.length oc, .int .i64 r0]
  mp : ∃ mm, MapAt intK w p.q mm ∧ MapOk st.2 mm
  top : base ≤ w.heap.size
theorem VSt.ext {w w' : World} {base : Nat} {p : VP} {r0 : Int} {OA : Option Addr} {oc : Nat} {st : List Br × List Nat} (h : VSt w base p r0 OA oc st) (k : Ext w w') : VSt w' base p r0 OA oc st :=
  ⟨h.own.ext k, h.obx.ext k, let ⟨mm, h1, h2⟩ := h.mp; ⟨mm, h1.ext k, h2⟩, Nat.le_trans h.top k.size⟩
def VTo (w : World) (base : Nat) (p : VP) (r0 : Int) (OA : Option Addr) (st : List Br × List Nat) (w' : World) : Prop := ∃ OA' oc', VSt w' base p r0 OA' oc' st ∧ Mod (VS p OA) w w' ∧ Moved w OA OA'

theorem visit_fn (base : Nat) (p : VP) (r0 : Int) (NA : Option Addr) (nn nc : Nat) (nd : List Br) (hwf : WfB nd) (hnn : nn ≤ 1000000000000) : ∀ (m : Nat) (n : Int) (st : List Br × List Nat) (OA : Option Addr) (oc : Nat) (w : World),
    VK w base p NA nn nc nd → VSt w base p r0 OA oc st → 0 ≤ n → n < m → n < nn + 2 → st.2.length = nn → st.1.length + st.2.count 0 ≤ 1000000000000 →
    Fn Tryz.prog 128 [.int .i64 n, VP.ptr p.mb, VP.ptr p.bb, VP.ptr p.fb, VP.ptr p.ob] w (fun v w' => v = .int .i64 (vis nd m n st).1 ∧ VTo w base p r0 OA (vis nd m n st).2 w')
  | 0, n, st, OA, oc, w, _, _, h0, hm, _, _, _ => by omega
  | m + 1, n, st, OA, oc, w, hK, hS, h0, hm, hn, hl, hc => by
    have ih := visit_fn base p r0 NA nn nc nd hwf hnn m
    have hnl : nd.length = nn := hK.nds.2
    obtain ⟨mm, hmp, hmo⟩ := hS.mp
    have hrows := hS.own.rows
    have hqlt := hmp.lt
    have holt := hS.obx.lt
    refine fn_of_exec (c := { c128 with cuts := [] }) gx_ok Tryz.func128 rfl rfl rfl ?_
    refine load_blk0 hK.mbx rfl ?_
    have hlook := hmo n h0
    by_cases h1 : n < 2
    · rw [if_pos h1] at hlook
      refine at_lookup_ok' (kv := intK) (a := n) (v := .int .i64 n) (b := true) gx_ok rfl rfl rfl rfl rfl (KeyV.int .i64) rfl rfl hmp (by rw [hlook]; rfl) (by rw [hlook]; rfl) ?_
      refine wif_t rfl ?_
      refine ⟨by rw [vis_lt h1], OA, oc, ?_, Mod.refl _ _, Moved.refl _ _⟩
      rw [vis_lt h1]; exact hS
    rw [if_neg h1] at hlook
    by_cases h2 : 0 < st.2[(n - 2).toNat]?.getD 0
    · rw [if_pos h2] at hlook
      refine at_lookup_ok' (kv := intK) (a := n) (v := .int .i64 (st.2[(n - 2).toNat]?.getD 0 : Nat)) (b := true) gx_ok rfl rfl rfl rfl rfl (KeyV.int .i64) rfl rfl hmp (by rw [hlook]; rfl) (by rw [hlook]; rfl) ?_
      refine wif_t rfl ?_
      refine ⟨by rw [vis_old h1 h2], OA, oc, ?_, Mod.refl _ _, Moved.refl _ _⟩
      rw [vis_old h1 h2]; exact hS
    rw [if_neg h2] at hlook
    refine at_lookup_ok' (kv := intK) (a := n) (v := .int .i64 0) (b := false) gx_ok rfl rfl rfl rfl rfl (KeyV.int .i64) rfl rfl hmp (by rw [hlook]; rfl) (by rw [hlook]; rfl) ?_
    refine wif_f rfl ?_
    have hj : (n - 2).toNat < nd.length := by omega
    have hx := List.getElem?_eq_getElem hj
    generalize nd[(n - 2).toNat] = x at hx
    obtain ⟨x1, x2, x3, x4⟩ := hwf _ _ hx
    obtain ⟨kv, hbp⟩ := hK.bpx
    refine load_blk0 hK.bbx rfl ?_
    refine load_blk0 hbp rfl ?_
    refine norm_i64_to (((n - 2).toNat : Nat) : Int) (by omega) (by omega) ?_
    refine index_sls br_len hK.nds rfl (by omega) (fun ad y hy hcl => ?_)
    have hyx : y = x := Option.some.inj (hy.symm.trans hx)
    subst hyx
    refine loadN_at (vs := y.cells) rfl hcl ?_
    refine new (fun w1 hE1 hz1 hB1 => ?_)
    refine storeN_blk0 hB1 rfl (sc rfl) (fun w2 hg2 hz2 hX2 => ?_)
    have hE2 : Ext w w2 := newBox hE1 hB1 hg2
    have hM02 : Mod (VS p OA) w w2 := Mod.of_ext _ hE2
    have hK2 := hK.mod (fun i hi => (hrows i hi).1) hM02
    have hS2 := hS.ext hE2
    have hbn : ¬ VS p OA w.heap.size := fun e => by
      rcases e with e | e | e
      · omega
      · omega
      · have := (hrows _ e).2; omega
    refine load_blk0 hK2.fbx rfl ?_
    refine load_blk hX2 rfl ?_
    have f1 := vis_facts hwf m y.l st x1 (by omega) (by omega) (by omega)
    refine call (ih y.l st OA oc w2 hK2 hS2 x1 (by omega) (by omega) hl hc) ?_
    rintro v w3 ⟨rfl, OA3, oc3, hS3, hM3, hV3⟩
    have hK3 := hK2.mod (fun i hi => (hrows i hi).1) hM3
    have hX3 := hX2.mod hM3 hbn
    have hrows3 := hS3.own.rows
    have hbn3 : ¬ VS p OA3 w.heap.size := fun e => (VS.moved hV3 _ e).elim hbn (fun h => by omega)
    refine load_blk0 hK3.fbx rfl ?_
    refine load_blk hX3 rfl ?_
    have f2 := vis_facts hwf m y.h _ x3 (by omega) (by omega) f1.len
    have c1 := f1.cnt
    have c2 := f2.cnt
    refine call (ih y.h _ OA3 oc3 w3 hK3 hS3 x3 (by omega) (by omega) (by rw [f1.len]; exact hnl) (by omega)) ?_
    rintro v w4 ⟨rfl, OA4, oc4, hS4, hM4, hV4⟩
    have hX4 := hX3.mod hM4 hbn3
    have hrows4 := hS4.own.rows
    have hM24 := hM3.trans hM4 (VS.moved hV3)
    have hV24 := hV3.trans hV4 hM3.size
    have hM04 : Mod (VS p OA) w w4 := hM02.trans hM24 (fun i hi => .inl hi)
    have hV04 := hV24.back hE2.size
    have hK4 := hK3.mod (fun i hi => (hrows3 i hi).1) hM4
    have hnew := vis_new (m := m) h1 h2 hx
    rw [hnew]
    generalize (vis nd m y.l st) = a at *
    generalize (vis nd m y.h a.2) = b at *
    have hnob : ¬ rowS OA4 p.ob := fun e => by have := (hrows4 _ e).1; have := hK.lt.2; omega
    have hnq : ¬ rowS OA4 p.q := fun e => by have := (hrows4 _ e).1; have := hK.lt.1; omega
    refine load_blk0 hS4.obx rfl ?_
    refine load_blk0 hX4 rfl ?_
    refine at_buildN gx_ok [(⟨y.v, a.1, b.1⟩ : Br).cells] rfl rfl rfl rfl rfl ⟨rfl, rfl, ⟨⟩⟩ rfl (fun cs h => by simp only [List.mem_singleton] at h; subst h; rfl) rfl (by decide) (by decide) ?_
    intro w5 hE5 hz5 hB5
    have hS5 := hS4.ext hE5
    have hs5 : Sl w5 3 (some ⟨w4.heap.size, 0, none⟩) 1 1 (⟨y.v, a.1, b.1⟩ : Br).cells := Sl.own (sz := 3) (n := 1) hB5 (Nat.le_refl _) (by decide) (by simp [Br.cells])
    refine at_app gx_ok rfl rfl rfl rfl rfl (by decide) rfl rfl ⟨_, rfl⟩ rfl rfl hS5.own hs5 (by intro u hu; simp [Br.cells] at hu; rcases hu with rfl | rfl | rfl <;> rfl) (by unfold maxLen; omega) (by show _ * 24 ≤ _; omega) hS5.top ?_
    intro OA6 oc6 w6 hM6 hown6 hV6
    refine store_mod0 (hS5.obx.mod hM6 hnob) (by simp) (fun w7 hM7 hB7 => ?_)
    have hM47 : Mod (VS p OA4) w4 w7 := ((Mod.of_ext (VS p OA4) hE5).trans hM6 (fun i hi => .inl (.inr (.inr hi)))).trans hM7 (fun i hi => .inl (.inr (.inl hi)))
    have hK7 := hK4.mod (fun i hi => (hrows4 i hi).1) hM47
    obtain ⟨m4, hmp4, hmo4⟩ := hS4.mp
    have hmp7 : MapAt intK w7 p.q m4 := ((hmp4.ext hE5).mod hM6 hnq).mod hM7 hK.ne.1
    have hlen : b.2.2.length = nd.length := f2.len
    refine load_blk0 hK7.mbx rfl ?_
    refine load_blk0 hB7 rfl ?_
    refine norm_i64_to ((b.2.1.length + 2 : Nat) : Int) (by omega) (by omega) ?_
    refine at_mapUpdate (kv := intK) (a := n) gx_ok rfl rfl rfl rfl rfl (KeyV.int .i64) rfl rfl rfl hmp7 (fun w8 hg8 _ hmp8 => ?_)
    have hM8 : Mod (· = p.q) w7 w8 := Mod.of_grown hg8 rfl
    have hmo8 := hmo4.set h1 (by omega) (v := b.2.1.length + 2) (by omega)
    have hlook8 : assoc n (assocSet n (.int .i64 ((b.2.1.length + 2 : Nat) : Int)) m4) = some (.int .i64 ((b.2.1.length + 2 : Nat) : Int)) := by rw [assoc_set, if_pos rfl]
    have hM48 : Mod (VS p OA4) w4 w8 := hM47.trans hM8 (fun i hi => .inl (.inl hi))
    have hK8 := hK4.mod (fun i hi => (hrows4 i hi).1) hM48
    refine load_blk0 hK8.mbx rfl ?_
    refine at_lookup' (kv := intK) (a := n) (v := .int .i64 ((b.2.1.length + 2 : Nat) : Int)) gx_ok rfl rfl rfl rfl rfl (KeyV.int .i64) rfl rfl hmp8 (by rw [hlook8]; rfl) ?_
    have hrows6 := hown6.rows
    have el : (b.2.1 ++ [(⟨y.v, a.1, b.1⟩ : Br)]).length = b.2.1.length + 1 := by simp
    refine ⟨rfl, OA6, oc6, ⟨?_, ?_, ⟨_, hmp8, hmo8⟩, ?_⟩, hM04.trans hM48 (VS.moved hV04), ?_⟩
    · rw [el, brV_snoc]
      refine (hown6.mod hM7 (fun i hi e => ?_)).mod hM8 (fun i hi e => ?_)
      · have := (hrows6 i hi).1; have := hK.lt.2; omega
      · have := (hrows6 i hi).1; have := hK.lt.1; omega
    · rw [el]
      exact hB7.mod hM8 (fun e => hK.ne.1 e.symm)
    · have := hS4.top; have := hM48.size; omega
    · exact hV04.trans (hV6.back hE5.size) hM04.size
end

section
open Go Go.RowKit

/-- A diagram as a result. -/
def DgRes (w : World) (r : List Br × Int) (v : Value) (w' : World) : Prop := ∃ A n c, v = dgV A n c r.2 ∧ Ext w w' ∧ SB w' A n c r.1 ∧ ∀ i, rowS A i → w.heap.size ≤ i

theorem diagram_fn (bp : Nat) (kv : Value) (NA : Option Addr) (nn nc : Nat) (nd : List Br) (root : Int) (w : World) (hb : Blk w bp 159 [.slice NA nn nc, kv]) (hN : SB w NA nn nc nd) (hwf : WfB nd) (hnn : nn ≤ 1000000000000) (h0 : 0 ≤ root) (hr : root < nn + 2)
    (hrow : ∀ ad, NA = some ad → 0 < nn → ad.block < w.heap.size) :
    Fn Tryz.prog 95 [.pointer (some ⟨bp, 0, none⟩), .int .i64 root] w (DgRes w (numberedD nd root)) := by
  have hnl : nd.length = nn := hN.2
  have hbl := hb.lt
  refine fn_of_exec (c := { c95 with cuts := [] }) gx_ok Tryz.func95 rfl rfl rfl ?_
  refine new (fun w1 hE1 hz1 hB1 => ?_)
  refine new (fun w2 hE2 hz2 hB2 => ?_)
  refine new (fun w3 hE3 hz3 hB3 => ?_)
  refine storeN_blk0 hB3 rfl (sc rfl) (fun w4 hg4 hz4 hB4 => ?_)
  have hM4 : Mod (· = w2.heap.size) w3 w4 := Mod.of_grown hg4 rfl
  refine at_makeMap gx_ok intK rfl ?_
  intro w5 hE5 hz5 hm5
  refine at_insert (kv := intK) (a := 0) gx_ok rfl rfl rfl rfl rfl (KeyV.int .i64) rfl rfl rfl hm5 (fun w6 hg6 hz6 hm6 => ?_)
  refine at_insert (kv := intK) (a := 1) gx_ok rfl rfl rfl rfl rfl (KeyV.int .i64) rfl rfl rfl hm6 (fun w7 hg7 hz7 hm7 => ?_)
  have hM57 : Mod (· = w4.heap.size) w5 w7 := (Mod.of_grown (S := (· = w4.heap.size)) hg6 rfl).trans (Mod.of_grown (S := (· = w4.heap.size)) hg7 rfl) (fun i hi => .inl hi)
  refine new (fun w8 hE8 hz8 hB8 => ?_)
  refine store_mod0 hB8 (by simp [cellsL]) (fun w9 hM9 hB9 => ?_)
  refine new (fun w10 hE10 hz10 hB10 => ?_)
  refine store_mod0 hB10 (by simp [cellsL]) (fun w11 hM11 hB11 => ?_)
  have z9 := hM9.size
  have z11 := hM11.size
  have q1 : Ext w w4 := hM4.ext ((hE1.trans hE2).trans hE3) (fun i hi => by omega)
  have q2 : Ext w4 w7 := hM57.ext hE5 (fun i hi => by omega)
  have q3 : Ext w7 w9 := hM9.ext hE8 (fun i hi => by omega)
  have q4 : Ext w9 w11 := hM11.ext hE10 (fun i hi => by omega)
  have q04 : Ext w w11 := ((q1.trans q2).trans q3).trans q4
  let p : VP := ⟨w7.heap.size, w4.heap.size, w.heap.size, bp, w9.heap.size, w2.heap.size⟩
  have hB1' : Blk w11 w.heap.size 156 [VP.ptr bp] := (((hB1.ext (hE2.trans hE3)).mod hM4 (by omega)).ext q2).ext (q3.trans q4)
  have hB2' : Blk w11 w1.heap.size 42 [.slice none 0 0, .int .i64 0] := (((hB2.ext hE3).mod hM4 (by omega)).ext q2).ext (q3.trans q4)
  have hB4' : Blk w11 w2.heap.size 42 [.slice none 0 0, .int .i64 0] := (hB4.ext q2).ext (q3.trans q4)
  have hB9' : Blk w11 w7.heap.size 188 [.map (some w4.heap.size)] := hB9.ext q4
  have hm7' : MapAt intK w11 w4.heap.size _ := ((hm7.ext hE8).mod hM9 (by omega)).ext q4
  have hK : VK w11 w11.heap.size p NA nn nc nd := by
    refine ⟨hB9', hB1', ⟨kv, hb.ext q04⟩, hB11, hN.ext q04, ⟨?_, ?_⟩, ⟨?_, ?_, ?_, ?_, ?_, ?_, ?_, ?_, ?_⟩, ⟨?_, ?_, ?_, ?_⟩, fun ad e hn => ?_⟩
    all_goals try (show (_ : Nat) ≠ _; simp only [p]; omega)
    all_goals try (show (_ : Nat) < _; simp only [p]; omega)
    have := hrow ad e hn
    refine ⟨by omega, ?_, ?_⟩ <;> (simp only [p]; omega)
  have hS : VSt w11 w11.heap.size p 0 none 0 ([], List.replicate nd.length 0) := ⟨Own.nil _ _ _ _, hB4', ⟨_, hm7', mapOk_init _⟩, Nat.le_refl _⟩
  refine load_blk0 hB11 rfl ?_
  refine call (visit_fn w11.heap.size p 0 NA nn nc nd hwf hnn (root.toNat + 1) root ([], List.replicate nd.length 0) none 0 w11 hK hS h0 (by omega) hr (by simp [hnl]) (by simp; omega)) ?_
  rintro v w12 ⟨rfl, OA, oc, hS12, hM12, hV12⟩
  have hnr : ∀ i, i ≠ w4.heap.size → i ≠ w2.heap.size → ¬ VS p none i := fun i h1 h2 e => by
    rcases e with e | e | ⟨_, e, _⟩
    · exact h1 e
    · exact h2 e
    · cases e
  have hR12 := hB2'.mod hM12 (hnr _ (by omega) (by omega))
  have hrows := hS12.own.rows
  refine store_mod hS12.obx (by simp) (fun w13 hM13 hB13 => ?_)
  have hR13 := hR12.mod hM13 (by show ¬ w1.heap.size = w2.heap.size; omega)
  refine loadN_blk0 hB13 rfl ?_
  refine storeN_blk0 hR13 rfl (sc rfl) (fun w14 hg14 _ hB14 => ?_)
  have hM14 : Mod (· = w1.heap.size) w13 w14 := Mod.of_grown hg14 rfl
  refine loadN_blk0 hB14 rfl ?_
  have hE12 : Ext w w12 := hM12.ext q04 (fun i hi => by
    rcases hi with e | e | ⟨_, e, _⟩
    · simp only [p] at e; omega
    · simp only [p] at e; omega
    · cases e)
  have hE14 : Ext w w14 := hM14.ext (hM13.ext hE12 (fun i hi => by have hi' : i = w2.heap.size := hi; omega)) (fun i hi => by omega)
  refine ⟨OA, _, oc, rfl, hE14, ⟨?_, rfl⟩, fun i hi => Nat.le_trans q04.size (hrows i hi).1⟩
  have : ∀ i, rowS OA i → w11.heap.size ≤ i := fun i hi => (hrows i hi).1
  exact ((hS12.own.mod hM13 (fun i hi e => by have := this i hi; have e' : i = w2.heap.size := e; omega)).mod hM14 (fun i hi e => by have := this i hi; omega)).sl
end

section
open Go Go.RowKit

theorem eqStruct {P : Program} {t : TypeId} {fs : Array Field} {ks : List Nat} {xs ys : Array Value} {b : Bool} {w : World} (hu : P.underlying t = some (.struct fs)) (hh : P.stoodInHeld t = false) (hf : fieldsB P 0 fs.toList ks = true) (h : eqCells ks xs.toList ys.toList = some b) (n : Nat) :
    (Op.equalIn (n + 2) t (.agg xs) (.agg ys)).run P w = .ok b w := by
  have hf2 : P.fieldsOf t = fs := by simp [Program.fieldsOf, hu]
  rw [run_equalIn_struct w (n + 1) t xs ys (by rw [hf2]; exact hu) hh, hf2]
  exact eqCells_fields fs.toList ks 0 _ _ b hf h (fun j => by simp) (fun j => by simp) n w
theorem k3 : kindD (Tryz.prog.underlying 3) < 3 := by rw [Tryz.underlying3]; decide
abbrev brK : Br → Value := fun b => .agg b.cells.toArray
theorem brEq (a b : Br) (n : Nat) (w : World) : (Op.equalIn (n + 2) 116 (brK a) (brK b)).run Tryz.prog w = .ok (decide (a = b)) w := by
  refine eqStruct (ks := [0, 0, 0]) Tryz.underlying116 (by kernel_rfl) (by kernel_rfl) ?_ n
  rw [show eqCells [0, 0, 0] a.cells.toArray.toList b.cells.toArray.toList = some (a.v == b.v && (a.l == b.l && (a.h == b.h && true))) from rfl, eq3]
  congr 1
  exact decide_eq_decide.2 br_eq.symm
theorem brCheck (b : Bool) (a : Br) (n : Nat) (w : World) : (Instr.checkKey b (n + 2) 116 (brK a)).run Tryz.prog w = .ok () w := by
  simp [Instr.checkKey, run_underlying Tryz.underlying116, run_underlying Tryz.underlying3, brK, Br.cells, part_one k3 (cs := #[Value.int IntKind.i64 a.v, Value.int IntKind.i64 a.l, Value.int IntKind.i64 a.h]) (n := 0) rfl, part_one k3 (cs := #[Value.int IntKind.i64 a.v, Value.int IntKind.i64 a.l, Value.int IntKind.i64 a.h]) (n := 1) rfl, part_one k3 (cs := #[Value.int IntKind.i64 a.v, Value.int IntKind.i64 a.l, Value.int IntKind.i64 a.h]) (n := 2) rfl]
theorem brKey : KeyQ Tryz.prog 116 brK :=
  KeyQ.asking Tryz.underlying116 (fun a b w => brEq a b 9998 w) (fun b a w => brCheck b a 9998 w) (fun a => by simp [Br.cells, Instr.sameBits])

theorem at_lookupQ {α : Type} [DecidableEq α] {kv : α → Value} {c : Cx} {o : Oper} {S : Env} {w : World} {K : Env → World → Prop} {Q : Post} {t ke e : Nat} {r re : TyRow} {x y : Operand} {q : Nat} {m : List (α × Value)} {a : α} (hg : c.g.Ok) (ho : o.op = .lookup t x y false) (hr : rowOf c.g.tys t = some r) (hd : r.d = .map ke e) (hre : rowOf c.g.tys e = some re) (hk : KeyQ c.g.P ke kv)
    (hx : S.ev x = some (.map (some q))) (hy : S.ev y = some (kv a)) (hm : MapQ kv w q m) {v : Value} (hv : (assoc a m).getD re.z = v)
    (k : putK c S o.dst (.v v) (fun S => K S w)) : AtOp c o S w K Q := by
  refine at_run (w' := w) (fun b hf => ?_) k
  have e1 := hf.ev hx
  have e2 := hf.ev hy
  have := run_lookupQ (w := w) (a := a) hg hr hd hre hk hm false
  simp only [hv] at this
  simp only [execOp, ho, e1, e2]
  simp only [Sem.run_bind, this, Result.andThen_ok]
  simp

theorem SB.lt {w : World} {A : Option Addr} {n c : Nat} {d : List Br} (h : SB w A n c d) : ∀ ad, A = some ad → 0 < n → ad.block < w.heap.size := by
  intro ad e hn
  obtain ⟨ad', e', hc⟩ := h.1.at_ hn
  cases e.symm.trans e'
  have hl := h.1.len
  cases hcs : d.flatMap Br.cells with
  | nil => rw [hcs] at hl; simp at hl; omega
  | cons u us =>
    rw [hcs] at hc
    have := World.block_lt_of_cell? w _ (hc 0 u rfl)
    rw [block_add] at this
    exact this
end

section
open Go Go.RowKit

theorem check2_fn (A : Option Addr) (n c : Nat) (nd : List Br) (root : Int) (w : World) (h : SB w A n c nd) :
    Fn Tryz.prog 54 [dgV A n c root] w (fun v w' => v = .int .i64 (chkD nd root) ∧ Ext w w') := by
  have hlen := h.2
  refine fn_of_exec (c := { c54 with cuts := [4] }) gx_ok Tryz.func54 rfl rfl rfl ?_
  refine new (fun w1 hE1 hz1 hB1 => ?_)
  refine load_blk0 hB1 rfl ?_
  refine wif_d (fun h1 => ?_) (fun h1 => ?_)
  · exact ⟨by rw [chkD_large (by omega)], hE1⟩
  have hsm : ¬ 4096 < nd.length := by omega
  refine at_makeMapQ gx_ok brK rfl ?_
  intro w2 hE2 hz2 hm2
  have hE02 := hE1.trans hE2
  have hB2 := hB1.ext hE2
  refine cutIn [] gx_ok [] (fun _ : Unit => []) (fun _ w' => Mod (· = w1.heap.size) w2 w' ∧ ∀ (j : Nat) (b : Br), j < n → nd[j]? = some b → brOk nd j b) ?_ ?_
  · refine load_blk0 hB2 rfl ?_
    refine loop gx_ok [15] (fun s : Nat => [.int .i64 s]) (fun s w' => Mod (· = w1.heap.size) w2 w' ∧ s ≤ n ∧ (∀ (j : Nat) (b : Br), j < s → nd[j]? = some b → brOk nd j b) ∧ ∃ m, MapQ brK w' w1.heap.size m ∧ ∀ b, (assoc b m).getD (.bool false) = .bool (decide (b ∈ nd.take s))) (fun s _ => n - s) 0 rfl ⟨Mod.refl _ _, Nat.zero_le _, fun j b hj => absurd hj (by omega), [], hm2, fun b => by simp [assoc]⟩ ?_
    rintro s w3 ⟨hM3, hs, hall, m, hm3, hmem⟩
    have hE3 : Ext w w3 := hM3.ext hE02 (fun i hi => by have := hE1.size; omega)
    have hB3 := hB2.mod hM3 (by omega)
    refine wif_d (fun h2 => ?_) (fun h2 => ?_)
    · refine index_sls br_len (h.ext hE3) rfl (by omega) (fun p x hx hc => ?_)
      refine loadN_at (vs := x.cells) rfl hc ?_
      refine new (fun w4 hE4 hz4 hB4 => ?_)
      refine storeN_blk0 hB4 rfl (sc rfl) (fun w5 hg5 hz5 hX5 => ?_)
      have hE35 : Ext w3 w5 := newBox hE4 hB4 hg5
      have hE5 := hE3.trans hE35
      have hm5 := hm3.ext hE35
      have hB5 := hB3.ext hE35
      have bad : ¬ brOk nd s x → ∀ w', Ext w w' → (Value.int .i64 20 = .int .i64 (chkD nd root)) ∧ Ext w w' := fun hno w' hE => ⟨by rw [chkD_no hsm (fun hv => hno (hv.1 s x hx))], hE⟩
      refine load_blk0 hX5 rfl ?_
      refine wif_d (fun c1 => ?_) (fun c1 => ?_)
      · exact bad (fun hb => by have := hb.1; omega) _ hE5
      refine load_blk0 hX5 rfl ?_
      refine wif_d (fun c2 => ?_) (fun c2 => ?_)
      · exact bad (fun hb => by have := hb.2.1; omega) _ hE5
      refine load_blk hX5 rfl ?_
      refine wif_d (fun c3 => ?_) (fun c3 => ?_)
      · exact bad (fun hb => by have := hb.2.2.1; omega) _ hE5
      refine load_blk hX5 rfl ?_
      refine wif_d (fun c4 => ?_) (fun c4 => ?_)
      · exact bad (fun hb => by have := hb.2.2.2.2.1; omega) _ hE5
      refine load_blk hX5 rfl ?_
      refine norm_i64_to ((s : Int) + 1) rfl (by omega) ?_
      refine wif_d (fun c5 => ?_) (fun c5 => ?_)
      · exact bad (fun hb => by have := hb.2.2.2.1; omega) _ hE5
      refine load_blk hX5 rfl ?_
      refine norm_i64_to ((s : Int) + 1) rfl (by omega) ?_
      refine wif_d (fun c6 => ?_) (fun c6 => ?_)
      · exact bad (fun hb => by have := hb.2.2.2.2.2.1; omega) _ hE5
      refine load_blk hX5 rfl ?_
      refine load_blk hX5 rfl ?_
      refine wif_eq (fun c7 => ?_) (fun c7 => ?_)
      · exact bad (fun hb => hb.2.2.2.2.2.2.1 c7) _ hE5
      refine loadN_blk0 hX5 rfl ?_
      refine at_lookupQ (kv := brK) (a := x) gx_ok rfl rfl rfl rfl brKey rfl rfl hm5 (hmem x) ?_
      refine wif_d (fun c8 => ?_) (fun c8 => ?_)
      · exact bad (fun hb => hb.2.2.2.2.2.2.2.1 c8) _ hE5
      refine draw_plan gx_ok (Ext w5) 16 [(true, 0), (true, 1), (true, 2), (true, 4), (true, 5), (false, 3), (true, 6), (true, 7), (true, 8), (true, 9), (true, 10), (true, 12), (true, 13), (false, 11), (true, 14), (true, 15)] (by kernel_rfl) (Ext.drew w5) ?_
      have qB : ∀ w', Ext w5 w' → ∀ (j : Nat) (v : Value), [Value.slice A n c, .int .i64 root][j]? = some v → w'.cell? ((⟨w.heap.size, 0, none⟩ : Addr).add j) = some v := fun w' hw' j v hj => by rw [(hB5.ext hw').cell]; exact hj
      have qX : ∀ w', Ext w5 w' → ∀ (j : Nat) (v : Value), x.cells[j]? = some v → w'.cell? ((⟨w3.heap.size, 0, none⟩ : Addr).add j) = some v := fun w' hw' j v hj => by rw [(hX5.ext hw').cell]; exact hj
      have qX0 : ∀ w', Ext w5 w' → w'.cell? (⟨w3.heap.size, 0, none⟩ : Addr) = some (.int .i64 x.v) := fun w' hw' => by have := qX w' hw' 0 _ rfl; simpa [Addr.add] using this
      refine qloadN (vs := [.slice A n c, .int .i64 root]) rfl (fun w' hw' j v hj => by have := qB w' hw' j v hj; simpa [Addr.add] using this) ?_
      refine qload (v := .int .i64 x.l) (fun w' hw' => qX w' hw' 1 _ rfl) ?_
      refine qload (v := .int .i64 x.v) (fun w' hw' => qX0 w' hw') ?_
      refine call (level_fn A n c root x.l nd _ (h.ext (hE5.trans (Ext.drew w5))) (by omega)) ?_
      rintro v w6 ⟨rfl, hE6⟩
      have hE56 := (Ext.drew w5).trans hE6
      refine ⟨hE56, ?_⟩
      refine wif_d (fun c9 => ?_) (fun c9 => ?_)
      · exact bad (fun hb => by have := hb.2.2.2.2.2.2.2.2.1; omega) _ (hE5.trans hE56)
      refine qloadN (vs := [.slice A n c, .int .i64 root]) rfl (fun w' hw' j v hj => by have := qB w' hw' j v hj; simpa [Addr.add] using this) ?_
      refine qload (v := .int .i64 x.h) (fun w' hw' => qX w' hw' 2 _ rfl) ?_
      refine qload (v := .int .i64 x.v) (fun w' hw' => qX0 w' hw') ?_
      refine call (level_fn A n c root x.h nd _ (h.ext (hE5.trans hE56)) (by omega)) ?_
      rintro v w7 ⟨rfl, hE7⟩
      have hE57 := hE56.trans hE7
      refine ⟨hE57, ?_⟩
      refine wif_d (fun c10 => ?_) (fun c10 => ?_)
      · exact bad (fun hb => by have := hb.2.2.2.2.2.2.2.2.2; omega) _ (hE5.trans hE57)
      have hok : brOk nd s x := ⟨by omega, by omega, by omega, by omega, by omega, by omega, c7, c8, by omega, by omega⟩
      refine loadN_blk0 (hX5.ext hE57) rfl ?_
      refine at_mapUpdateQ (kv := brK) (a := x) gx_ok rfl rfl rfl rfl brKey rfl rfl rfl (hm5.ext hE57) (fun w8 hM8 hz8 hm8 => ?_)
      refine norm_i64_to ((s + 1 : Nat) : Int) (by omega) (by omega) ?_
      refine ⟨s + 1, rfl, ⟨(hM3.trans (Mod.of_ext (· = w1.heap.size) (hE35.trans hE57)) (fun i hi => .inl hi)).trans hM8 (fun i hi => .inl hi), by omega, fun j b hj hb => ?_, _, hm8, fun b => ?_⟩, by show n - (s + 1) < n - s; omega⟩
      · by_cases hjs : j < s
        · exact hall j b hjs hb
        · have : j = s := by omega
          subst this
          rw [Option.some.inj (hb.symm.trans hx)]; exact hok
      · rw [assoc_set, List.take_add_one, hx]
        by_cases hbx : b = x
        · subst hbx; simp
        · rw [if_neg hbx, hmem b]
          simp [hbx]
    · have : s = n := by omega
      subst this
      exact ⟨(), rfl, hM3, hall⟩
  rintro ⟨⟩ w3 ⟨hM3, hall⟩
  have hE3 : Ext w w3 := hM3.ext hE02 (fun i hi => by have := hE1.size; omega)
  have hB3 := hB2.mod hM3 (by omega)
  refine load_blk hB3 rfl ?_
  refine wif_d (fun c1 => ?_) (fun c1 => ?_)
  · exact ⟨by rw [chkD_no hsm (fun hv => by have := hv.2.1; omega)], hE3⟩
  refine load_blk hB3 rfl ?_
  refine load_blk0 hB3 rfl ?_
  refine norm_i64_to ((n : Int) + 1) rfl (by omega) ?_
  refine wif_d (fun c2 => ?_) (fun c2 => ?_)
  · exact ⟨by rw [chkD_no hsm (fun hv => by have := hv.2.2.1; omega)], hE3⟩
  have hwf : WfB nd := fun j x hx => by
    obtain ⟨_, _, h1, h2, h3, h4, _⟩ := hall j x (by have := (List.getElem?_eq_some_iff.1 hx).1; omega) hx
    exact ⟨h1, h2, h3, h4⟩
  refine load_blk0 hB3 rfl ?_
  refine new (fun w4 hE4 hz4 hB4 => ?_)
  have hE04 := hE3.trans hE4
  have hB34 := hB3.ext hE4
  refine load_blk hB34 rfl ?_
  refine call (diagram_fn w3.heap.size (.map none) A n c nd root w4 hB4 (h.ext hE04) hwf (by omega) (by omega) (by omega) (SB.lt (h.ext hE04))) ?_
  rintro v w5 ⟨OA, m, oc, rfl, hE5, hO5, _⟩
  refine new (fun w6 hE6 hz6 hB6 => ?_)
  refine storeN_blk0 hB6 rfl (sc rfl) (fun w7 hg7 hz7 hX7 => ?_)
  have hE57 : Ext w5 w7 := newBox hE6 hB6 hg7
  have hE07 := (hE04.trans hE5).trans hE57
  refine loadN_blk0 hX7 rfl ?_
  refine loadN_blk0 ((hB34.ext hE5).ext hE57) rfl ?_
  refine call (same_fn OA A m oc n c _ nd _ root w7 (hO5.ext hE57) (h.ext hE07)) ?_
  rintro v w8 ⟨rfl, hE8⟩
  have hE08 := hE07.trans hE8
  refine wif_not (wif_d (fun c3 => ?_) (fun c3 => ?_))
  · exact ⟨by rw [chkD_ok hsm ⟨fun j b hb => hall j b (by have := (List.getElem?_eq_some_iff.1 hb).1; omega) hb, by omega, by omega, c3⟩], hE08⟩
  · exact ⟨by rw [chkD_no hsm (fun hv => c3 hv.2.2.2)], hE08⟩
end
end
end Go.Proofs.YtedopgkbajhanaaGreatDoor

namespace Go.Proofs.YtedopgkbajhanaaGreatDoor
section
section
open Go Go.RowKit

theorem Blk.cell0 {w : World} {g t : Nat} {cs : List Value} (h : Blk w g t cs) : w.cell? ⟨g, 0, none⟩ = cs[0]? := by have := h.cell 0; simpa [Addr.add] using this

theorem rsame_fn (A B : Option Addr) (n c m e : Nat) (l l' : List Br) (r r' : Int) (w : World) (h : SB w A n c l) (h' : SB w B m e l') :
    Fn Tryz.prog 38 [dgV A n c r, dgV B m e r'] w (fun v w' => v = .bool (decide ((l, r) = (l', r'))) ∧ Ext w w') := by
  have hl := h.2
  have hl' := h'.2
  have hcap : n ≤ 9223372036854775807 := by have := h.1.le; have := h.1.cap; simp only [maxLen] at this; omega
  refine fn_of_exec (c := { c38 with cuts := [] }) gx_ok Tryz.func38 rfl rfl rfl ?_
  refine new (fun w1 hE1 hz1 hB1 => ?_)
  refine new (fun w2 hE2 hz2 hB2 => ?_)
  have hB12 := hB1.ext hE2
  have hE02 := hE1.trans hE2
  refine load_blk hB12 rfl ?_
  refine load_blk hB2 rfl ?_
  refine wif_ne (fun h1 => ?_) (fun h1 => ?_)
  · exact ⟨by rw [decide_eq_false (fun e => h1 (by cases e; rfl))], hE02⟩
  refine load_blk0 hB12 rfl ?_
  refine load_blk0 hB2 rfl ?_
  refine wif_ne (fun h2 => ?_) (fun h2 => ?_)
  · exact ⟨by rw [decide_eq_false (fun e => h2 (by cases e; omega))], hE02⟩
  refine loop gx_ok [5] (fun s : Nat => [.int .i64 s]) (fun s w' => Ext w2 w' ∧ s ≤ n ∧ ∀ j, j < s → l[j]? = l'[j]?) (fun s _ => n - s) 0 rfl ⟨Ext.refl w2, Nat.zero_le _, fun j hj => absurd hj (by omega)⟩ ?_
  rintro s w3 ⟨hE3, hs, hall⟩
  have hX3 := hB12.ext hE3
  have hY3 := hB2.ext hE3
  have hE03 := hE02.trans hE3
  refine load_blk0 hX3 rfl ?_
  refine wif_d (fun h3 => ?_) (fun h3 => ?_)
  · refine draw_plan gx_ok (Ext w3) 11 [(true, 0), (true, 1), (true, 2), (true, 3), (true, 4), (true, 5), (true, 6), (true, 7), (true, 8), (true, 9), (true, 10)] (by kernel_rfl) (Ext.drew w3) ?_
    refine qload (v := .slice A n c) (fun w' hw' => by rw [(hX3.ext hw').cell]; rfl) ?_
    refine index_sls br_len (h.ext hE03) rfl (by omega) (fun p x hx hc => ?_)
    refine qloadN (vs := x.cells) rfl (fun w' hw' j v hj => hw'.cell (hc j v hj)) ?_
    refine qload (v := .slice B m e) (fun w' hw' => by rw [(hY3.ext hw').cell]; rfl) ?_
    refine index_sls br_len (h'.ext hE03) rfl (by omega) (fun q y hy hc' => ?_)
    refine qloadN (vs := y.cells) rfl (fun w' hw' j v hj => hw'.cell (hc' j v hj)) ?_
    have hEd := hE3.trans (Ext.drew w3)
    by_cases hxy : x = y
    · refine wif_f (by rw [eq3, decide_eq_true (br_eq.1 hxy)]; rfl) ?_
      refine norm_i64_to ((s + 1 : Nat) : Int) (by omega) (by omega) ?_
      refine ⟨s + 1, rfl, ⟨hEd, by omega, fun j hj => ?_⟩, by show n - (s + 1) < n - s; omega⟩
      by_cases hjs : j < s
      · exact hall j hjs
      · have : j = s := by omega
        subst this
        rw [hx, hy, hxy]
    · refine wif_t (by rw [eq3, decide_eq_false (fun e => hxy (br_eq.2 e))]; rfl) ?_
      refine ⟨?_, hE02.trans hEd⟩
      rw [decide_eq_false (fun e => list_ne hx hy hxy (by cases e; rfl))]
  · refine ⟨?_, hE03⟩
    have e1 := list_eq hl (by omega) (fun j hj => hall j (by omega))
    rw [decide_eq_true (by rw [e1, h1])]

end

section
open Go Go.RowKit

def natsV (l : List Nat) : List Value := l.map fun (x : Nat) => .int .i64 (x : Int)
/-- What the walk writes. -/
def WS (x pg : Nat) (A : Option Addr) : Nat → Prop := fun k => k = x ∨ k = pg ∨ rowS A k
theorem WS.moved {w : World} {x pg : Nat} {A A' : Option Addr} (h : Moved w A A') : ∀ k, WS x pg A' k → WS x pg A k ∨ w.heap.size ≤ k := by
  rintro k (rfl | rfl | hk)
  · exact .inl (.inl rfl)
  · exact .inl (.inr (.inl rfl))
  · rcases h.rows k hk with h | h
    · exact .inl (.inr (.inr h))
    · exact .inr h
/-- The walk in memory. -/
structure Wk (w : World) (base x pg : Nat) (NA : Option Addr) (nn nc : Nat) (nd : List Br) (OA : Option Addr) (oc : Nat) (st : List Br × List Nat) : Prop where
  blk : Blk w x 226 [.slice NA nn nc, .slice (some ⟨pg, 0, none⟩) nn nn, .slice OA st.1.length oc]
  num : Blk w pg 3 (natsV st.2)
  own : Own w base 116 3 OA st.1.length oc (brV st.1)
  lt : x < base ∧ pg < base ∧ x ≠ pg
  top : base ≤ w.heap.size
  nds : SB w NA nn nc nd
  row : ∀ ad, NA = some ad → 0 < nn → ad.block < base ∧ ad.block ≠ x ∧ ad.block ≠ pg
  len : st.2.length = nn
theorem Wk.ext {w w' : World} {base x pg : Nat} {NA : Option Addr} {nn nc : Nat} {nd : List Br} {OA : Option Addr} {oc : Nat} {st : List Br × List Nat} (h : Wk w base x pg NA nn nc nd OA oc st) (k : Ext w w') : Wk w' base x pg NA nn nc nd OA oc st :=
  ⟨h.blk.ext k, h.num.ext k, h.own.ext k, h.lt, Nat.le_trans h.top k.size, h.nds.ext k, h.row, h.len⟩
theorem Wk.keep {w w' : World} {base x pg : Nat} {NA : Option Addr} {nn nc : Nat} {nd : List Br} {OA : Option Addr} {oc : Nat} {st : List Br × List Nat} (h : Wk w base x pg NA nn nc nd OA oc st) (hm : Mod (WS x pg OA) w w') : SB w' NA nn nc nd := by
  refine ⟨h.nds.1.modS hm ?_, h.nds.2⟩
  rintro h0 i ⟨ad, rfl, rfl⟩ hi
  obtain ⟨r1, r2, r3⟩ := h.row ad rfl h0
  rcases hi with hi | hi | hi
  · exact r2 hi
  · exact r3 hi
  · have := (h.own.rows _ hi).1; omega
end

section
open Go Go.RowKit

/-- Where a branch stands first. -/
def fstIdx (b : Br) : List Br → Option Nat
  | [] => none
  | x :: l => if x = b then some 0 else (fstIdx b l).map (· + 1)
def uniqD (b : Br) (l : List Br) : List Br × Int := if b.l = b.h then (l, b.l) else match fstIdx b l with
  | some i => (l, ((i + 2 : Nat) : Int))
  | none => (l ++ [b], ((l.length + 2 : Nat) : Int))
theorem uniqD_len (b : Br) (l : List Br) : l.length ≤ (uniqD b l).1.length := by
  unfold uniqD
  split
  · exact Nat.le_refl _
  · split
    · exact Nat.le_refl _
    · simp

def constD (op x y : Int) : Int := if op = 0 then x * y else if op = 1 then max x y else if op = 3 then 1 - x else (x + y) % 2
def sideD (d : List Br) (n v : Int) : Int × Int := if lvlD d n ≠ v then (n, n) else match d[(n - 2).toNat]? with
  | some b => (b.l, b.h)
  | none => (n, n)
abbrev Tr3 := Int × Int × Int
def at2 (a b : List Br) (op : Int) : Nat → Int → Int → List Br × List Tr3 → Int × (List Br × List Tr3)
  | 0, _, _, st => (0, st)
  | m + 1, x, y, st => if x < 2 ∧ y < 2 then (constD op x y, st) else
      match st.2.find? (fun t => decide (t.1 = x ∧ t.2.1 = y)) with
      | some t => (t.2.2, st)
      | none =>
        let v := min (lvlD a x) (lvlD b y)
        let r0 := at2 a b op m (sideD a x v).1 (sideD b y v).1 st
        let r1 := at2 a b op m (sideD a x v).2 (sideD b y v).2 r0.2
        let u := uniqD ⟨v, r0.1, r1.1⟩ r1.2.1
        (u.2, (u.1, r1.2.2 ++ [(x, y, u.2)]))
theorem at2_c {a b : List Br} {op : Int} {m : Nat} {x y : Int} {st : List Br × List Tr3} (h : x < 2 ∧ y < 2) : at2 a b op (m + 1) x y st = (constD op x y, st) := by rw [at2, if_pos h]
theorem at2_s {a b : List Br} {op : Int} {m : Nat} {x y : Int} {st : List Br × List Tr3} {t : Tr3} (h : ¬ (x < 2 ∧ y < 2)) (k : st.2.find? (fun t => decide (t.1 = x ∧ t.2.1 = y)) = some t) : at2 a b op (m + 1) x y st = (t.2.2, st) := by rw [at2, if_neg h, k]
theorem at2_n {a b : List Br} {op : Int} {m : Nat} {x y : Int} {st : List Br × List Tr3} (h : ¬ (x < 2 ∧ y < 2)) (k : st.2.find? (fun t => decide (t.1 = x ∧ t.2.1 = y)) = none) (v : Int) (hv : min (lvlD a x) (lvlD b y) = v) :
    at2 a b op (m + 1) x y st = ((uniqD ⟨v, (at2 a b op m (sideD a x v).1 (sideD b y v).1 st).1, (at2 a b op m (sideD a x v).2 (sideD b y v).2 (at2 a b op m (sideD a x v).1 (sideD b y v).1 st).2).1⟩ (at2 a b op m (sideD a x v).2 (sideD b y v).2 (at2 a b op m (sideD a x v).1 (sideD b y v).1 st).2).2.1).2,
      ((uniqD ⟨v, (at2 a b op m (sideD a x v).1 (sideD b y v).1 st).1, (at2 a b op m (sideD a x v).2 (sideD b y v).2 (at2 a b op m (sideD a x v).1 (sideD b y v).1 st).2).1⟩ (at2 a b op m (sideD a x v).2 (sideD b y v).2 (at2 a b op m (sideD a x v).1 (sideD b y v).1 st).2).2.1).1,
        (at2 a b op m (sideD a x v).2 (sideD b y v).2 (at2 a b op m (sideD a x v).1 (sideD b y v).1 st).2).2.2 ++ [(x, y, (uniqD ⟨v, (at2 a b op m (sideD a x v).1 (sideD b y v).1 st).1, (at2 a b op m (sideD a x v).2 (sideD b y v).2 (at2 a b op m (sideD a x v).1 (sideD b y v).1 st).2).1⟩ (at2 a b op m (sideD a x v).2 (sideD b y v).2 (at2 a b op m (sideD a x v).1 (sideD b y v).1 st).2).2.1).2)])) := by
  subst hv; rw [at2, if_neg h, k]
theorem at2_mono (a b : List Br) (op : Int) : ∀ (m : Nat) (x y : Int) (st : List Br × List Tr3), st.1.length ≤ (at2 a b op m x y st).2.1.length ∧ st.2.length ≤ (at2 a b op m x y st).2.2.length
  | 0, x, y, st => ⟨Nat.le_refl _, Nat.le_refl _⟩
  | m + 1, x, y, st => by
    by_cases h : x < 2 ∧ y < 2
    · rw [at2_c h]; exact ⟨Nat.le_refl _, Nat.le_refl _⟩
    cases k : st.2.find? (fun t => decide (t.1 = x ∧ t.2.1 = y)) with
    | some t => rw [at2_s h k]; exact ⟨Nat.le_refl _, Nat.le_refl _⟩
    | none =>
      rw [at2_n h k _ rfl]
      have h1 := at2_mono a b op m (sideD a x (min (lvlD a x) (lvlD b y))).1 (sideD b y (min (lvlD a x) (lvlD b y))).1 st
      have h2 := at2_mono a b op m (sideD a x (min (lvlD a x) (lvlD b y))).2 (sideD b y (min (lvlD a x) (lvlD b y))).2 (at2 a b op m (sideD a x (min (lvlD a x) (lvlD b y))).1 (sideD b y (min (lvlD a x) (lvlD b y))).1 st).2
      refine ⟨Nat.le_trans (Nat.le_trans h1.1 h2.1) (uniqD_len _ _), ?_⟩
      simp only [List.length_append]
      omega

/-- Children come first, and the conditions are conditions. -/
def DOk (nd : List Br) : Prop := WfB nd ∧ ∀ (j : Nat) (b : Br), nd[j]? = some b → 0 ≤ b.v ∧ b.v ≤ 63
theorem VD.dok {nd : List Br} {r : Int} (h : VD nd r) : DOk nd := ⟨h.wf, fun j b hb => ⟨(h.1 j b hb).1, (h.1 j b hb).2.1⟩⟩
theorem sideD_le {nd : List Br} (h : DOk nd) {n v : Int} (h0 : 0 ≤ n) (h64 : v < 64) : 0 ≤ (sideD nd n v).1 ∧ (sideD nd n v).1 ≤ n ∧ 0 ≤ (sideD nd n v).2 ∧ (sideD nd n v).2 ≤ n ∧ (lvlD nd n = v → (sideD nd n v).1 < n ∧ (sideD nd n v).2 < n) := by
  unfold sideD
  split
  · rename_i hv; exact ⟨h0, Int.le_refl _, h0, Int.le_refl _, fun e => absurd e hv⟩
  · rename_i hv
    have hv := Decidable.not_not.1 hv
    have h2n : ¬ n < 2 := fun h2 => by
      unfold lvlD at hv
      rw [if_pos h2] at hv
      omega
    cases hx : nd[(n - 2).toNat]? with
    | none =>
      unfold lvlD at hv
      rw [if_neg h2n, hx] at hv
      simp at hv
      omega
    | some b =>
      obtain ⟨h1, h2, h3, h4⟩ := h.1 _ _ hx
      exact ⟨h1, by simp only; omega, h3, by simp only; omega, fun _ => ⟨by simp only; omega, by simp only; omega⟩⟩
theorem lvl_lt {nd : List Br} (h : DOk nd) {n : Int} (h2 : ¬ n < 2) (hn : n < nd.length + 2) : lvlD nd n < 64 := by
  unfold lvlD
  have hx := List.getElem?_eq_getElem (show (n - 2).toNat < nd.length by omega)
  rw [if_neg h2, hx]
  have := (h.2 _ _ hx).2
  simp only [Option.map_some, Option.getD_some]
  omega
end

section
open Go Go.RowKit

def Tr3.cells (t : Tr3) : List Value := [.int .i64 t.1, .int .i64 t.2.1, .int .i64 t.2.2]
def trV (l : List Tr3) : List Value := l.flatMap Tr3.cells
/-- What an operation writes. -/
def AS (pb : Nat) (NA SA : Option Addr) : Nat → Prop := fun k => k = pb ∨ rowS NA k ∨ rowS SA k
theorem AS.moved {w : World} {pb : Nat} {NA NA' SA SA' : Option Addr} (h : Moved w NA NA') (h' : Moved w SA SA') : ∀ k, AS pb NA' SA' k → AS pb NA SA k ∨ w.heap.size ≤ k := by
  rintro k (rfl | hk | hk)
  · exact .inl (.inl rfl)
  · rcases h.rows k hk with h | h
    · exact .inl (.inr (.inl h))
    · exact .inr h
  · rcases h'.rows k hk with h | h
    · exact .inl (.inr (.inr h))
    · exact .inr h
/-- The two diagrams, and the operation. -/
structure AD where
  A : Option Addr
  n : Nat
  c : Nat
  a : List Br
  ra : Int
  B : Option Addr
  m : Nat
  d : Nat
  b : List Br
  rb : Int
  op : Int
structure Ap (w0 w : World) (base pb : Nat) (D : AD) (NA : Option Addr) (nc : Nat) (SA : Option Addr) (sc : Nat) (st : List Br × List Tr3) : Prop where
  e0 : Ext w0 w
  as_ : SB w0 D.A D.n D.c D.a
  bs : SB w0 D.B D.m D.d D.b
  p0 : w0.heap.size ≤ pb
  blk : Blk w pb 222 [.slice D.A D.n D.c, .int .i64 D.ra, .slice D.B D.m D.d, .int .i64 D.rb, .int .i64 D.op, .slice NA st.1.length nc, .slice SA st.2.length sc]
  nown : Own w base 116 3 NA st.1.length nc (brV st.1)
  sown : Own w base 199 3 SA st.2.length sc (trV st.2)
  apart : ∀ i, rowS NA i → ¬ rowS SA i
  lt : pb < base
  top : base ≤ w.heap.size
theorem Ap.grow {w0 w w' : World} {base pb : Nat} {D : AD} {NA : Option Addr} {nc : Nat} {SA : Option Addr} {sc : Nat} {st : List Br × List Tr3} (h : Ap w0 w base pb D NA nc SA sc st) (k : Ext w w') : Ap w0 w' base pb D NA nc SA sc st :=
  ⟨h.e0.trans k, h.as_, h.bs, h.p0, h.blk.ext k, h.nown.ext k, h.sown.ext k, h.apart, h.lt, Nat.le_trans h.top k.size⟩
theorem Ap.kept {w0 w : World} {base pb : Nat} {D : AD} {NA : Option Addr} {nc : Nat} {SA : Option Addr} {sc : Nat} {st : List Br × List Tr3} (h : Ap w0 w base pb D NA nc SA sc st) : ∀ i, AS pb NA SA i → w0.heap.size ≤ i := by
  have := h.p0
  have := h.lt
  rintro i (rfl | hi | hi)
  · omega
  · have := (h.nown.rows i hi).1; omega
  · have := (h.sown.rows i hi).1; omega

end

section
open Go Go.RowKit

end

section
open Go Go.RowKit

def AtInv (st : List Br × List Tr3) : Prop := WfB st.1 ∧ ∀ t ∈ st.2, 0 ≤ t.2.2 ∧ t.2.2 < st.1.length + 2
theorem uniqD_inv {b : Br} {l : List Br} (hw : WfB l) (h1 : 0 ≤ b.l) (h2 : b.l < l.length + 2) (h3 : 0 ≤ b.h) (h4 : b.h < l.length + 2) : WfB (uniqD b l).1 ∧ 0 ≤ (uniqD b l).2 ∧ (uniqD b l).2 < (uniqD b l).1.length + 2 := by
  have idx : ∀ {l : List Br} {i : Nat}, fstIdx b l = some i → i < l.length := by
    intro l
    induction l with
    | nil => intro i h; cases h
    | cons x l ih =>
      intro i h
      unfold fstIdx at h
      split at h
      · cases h; simp
      · cases hf : fstIdx b l with
        | none => rw [hf] at h; cases h
        | some k => rw [hf] at h; cases h; have := ih hf; simp; omega
  unfold uniqD
  split
  · exact ⟨hw, h1, h2⟩
  · split
    · rename_i i hi
      have := idx hi
      exact ⟨hw, by omega, by simp only; omega⟩
    · refine ⟨fun j x hx => ?_, by omega, by simp only [List.length_append, List.length_cons, List.length_nil]; omega⟩
      by_cases hj : j < l.length
      · rw [List.getElem?_append_left hj] at hx
        exact hw j x hx
      · rw [List.getElem?_append_right (by omega)] at hx
        have hj0 : j - l.length = 0 := by
          cases hk : j - l.length with
          | zero => rfl
          | succ k => rw [hk] at hx; simp at hx
        rw [hj0] at hx
        simp at hx
        subst hx
        omega
theorem constD_in {op x y : Int} (x0 : 0 ≤ x) (x1 : x < 2) (y0 : 0 ≤ y) (y1 : y < 2) : 0 ≤ constD op x y ∧ constD op x y < 2 := by
  unfold constD
  rcases (by omega : x = 0 ∨ x = 1) with rfl | rfl <;> rcases (by omega : y = 0 ∨ y = 1) with rfl | rfl <;> (split <;> first | decide | (split <;> first | decide | (split <;> decide)))
theorem at2_inv {a b : List Br} (ha : DOk a) (hb : DOk b) (op : Int) : ∀ (m : Nat) (x y : Int) (st : List Br × List Tr3), AtInv st → 0 ≤ x → 0 ≤ y → x < a.length + 2 → y < b.length + 2 →
    AtInv (at2 a b op m x y st).2 ∧ 0 ≤ (at2 a b op m x y st).1 ∧ (at2 a b op m x y st).1 < (at2 a b op m x y st).2.1.length + 2
  | 0, x, y, st, h, _, _, _, _ => ⟨h, Int.le_refl _, by show (0 : Int) < st.1.length + 2; omega⟩
  | m + 1, x, y, st, h, x0, y0, hx, hy => by
    by_cases hxy : x < 2 ∧ y < 2
    · rw [at2_c hxy]
      have := constD_in (op := op) x0 hxy.1 y0 hxy.2
      exact ⟨h, this.1, by simp only; omega⟩
    cases k : st.2.find? (fun t => decide (t.1 = x ∧ t.2.1 = y)) with
    | some t =>
      rw [at2_s hxy k]
      have := h.2 t (List.mem_of_find?_eq_some k)
      exact ⟨h, this.1, this.2⟩
    | none =>
      have hv64 : min (lvlD a x) (lvlD b y) < 64 := by
        by_cases c : x < 2
        · have := lvl_lt hb (n := y) (fun c2 => hxy ⟨c, c2⟩) (by omega)
          rw [Int.min_def]; split <;> omega
        · have := lvl_lt ha (n := x) c (by omega)
          rw [Int.min_def]; split <;> omega
      rw [at2_n hxy k _ rfl]
      generalize min (lvlD a x) (lvlD b y) = v at *
      obtain ⟨s1, s2, s3, s4, s5⟩ := sideD_le ha (n := x) x0 hv64
      obtain ⟨t1, t2, t3, t4, t5⟩ := sideD_le hb (n := y) y0 hv64
      have i1 := at2_inv ha hb op m (sideD a x v).1 (sideD b y v).1 st h s1 t1 (by omega) (by omega)
      have m2 := at2_mono a b op m (sideD a x v).2 (sideD b y v).2 (at2 a b op m (sideD a x v).1 (sideD b y v).1 st).2
      generalize (at2 a b op m (sideD a x v).1 (sideD b y v).1 st) = r0 at *
      have i2 := at2_inv ha hb op m (sideD a x v).2 (sideD b y v).2 r0.2 i1.1 s3 t3 (by omega) (by omega)
      generalize (at2 a b op m (sideD a x v).2 (sideD b y v).2 r0.2) = r1 at *
      have hu := uniqD_inv (b := ⟨v, r0.1, r1.1⟩) (l := r1.2.1) i2.1.1 i1.2.1 (by have := i1.2.2; simp only; omega) i2.2.1 i2.2.2
      have hul := uniqD_len ⟨v, r0.1, r1.1⟩ r1.2.1
      generalize uniqD ⟨v, r0.1, r1.1⟩ r1.2.1 = u at *
      refine ⟨⟨hu.1, fun t ht => ?_⟩, hu.2.1, hu.2.2⟩
      simp only [List.mem_append, List.mem_singleton] at ht
      rcases ht with ht | rfl
      · have := i2.1.2 t ht
        exact ⟨this.1, by simp only; omega⟩
      · exact ⟨hu.2.1, hu.2.2⟩

/-- The result of an operation on two valid diagrams. -/
def at2D (a : List Br) (ra : Int) (b : List Br) (rb op : Int) : Int × (List Br × List Tr3) := at2 a b op (ra.toNat + rb.toNat + 1) ra rb ([], [])
def combD (a : List Br) (ra : Int) (b : List Br) (rb op : Int) : List Br × Int := numberedD (at2D a ra b rb op).2.1 (at2D a ra b rb op).1
def limD (d : List Br × Int) : (List Br × Int) × Int := if 4096 < d.1.length then (([], 0), 2) else (d, 0)
noncomputable def opD (a : List Br) (ra : Int) (b : List Br) (rb op : Int) : (List Br × Int) × Int := if chkD a ra ≠ 0 then (([], 0), chkD a ra) else if chkD b rb ≠ 0 then (([], 0), chkD b rb) else limD (combD a ra b rb op)
/-- A diagram and an error number. -/
def DgE (w : World) (r : (List Br × Int) × Int) (v : Value) (w' : World) : Prop := ∃ A n c, v = .tuple #[dgV A n c r.1.2, .int .i64 r.2] ∧ Ext w w' ∧ SB w' A n c r.1.1 ∧ ∀ i, rowS A i → w.heap.size ≤ i

theorem rvar_fn (k : Int) (w : World) (h0 : 0 ≤ k) (h1 : k ≤ 63) : Fn Tryz.prog 42 [.int .i64 k] w (DgE w (([⟨k, 0, 1⟩], 2), 0)) := by
  refine fn_of_exec (c := { c42 with cuts := [] }) gx_ok Tryz.func42 rfl rfl rfl ?_
  refine new (fun w1 hE1 hz1 hB1 => ?_)
  refine wif_df (by omega) ?_
  refine wif_df (by omega) ?_
  refine at_buildN gx_ok [(⟨k, 0, 1⟩ : Br).cells] rfl rfl rfl rfl rfl ⟨rfl, rfl, ⟨⟩⟩ rfl (fun cs h => by simp only [List.mem_singleton] at h; subst h; rfl) rfl (by decide) (by decide) ?_
  intro w2 hE2 hz2 hB2
  refine storeN_blk0 (hB1.ext hE2) rfl (sc rfl) (fun w3 hg3 _ hB3 => ?_)
  have hM3 : Mod (· = w.heap.size) w2 w3 := Mod.of_grown hg3 rfl
  refine loadN_blk0 hB3 rfl ?_
  refine ⟨some ⟨w1.heap.size, 0, none⟩, 1, 1, rfl, hM3.ext (hE1.trans hE2) (fun i hi => by omega), ⟨Sl.own (sz := 3) (n := 1) (hB2.mod hM3 (by omega)) (Nat.le_refl _) (by decide) (by simp [Br.cells]), rfl⟩, fun i ⟨ad, e, hi⟩ => by cases e; simp only at hi; omega⟩
end

section
open Go Go.RowKit

/-- A diagram in memory. -/
structure DV where
  A : Option Addr
  n : Nat
  c : Nat
  nd : List Br
  r : Int
def DV.cells (x : DV) : List Value := [.slice x.A x.n x.c, .int .i64 x.r]
theorem dv_len (x : DV) : x.cells.length = 2 := rfl
noncomputable def firstD : List DV → Int
  | [] => 0
  | x :: l => if chkD x.nd x.r ≠ 0 then chkD x.nd x.r else firstD l
theorem firstD_hit {l : List DV} : ∀ {s : Nat} {x : DV}, (∀ j y, j < s → l[j]? = some y → chkD y.nd y.r = 0) → l[s]? = some x → chkD x.nd x.r ≠ 0 → firstD l = chkD x.nd x.r := by
  induction l with
  | nil => intro s x _ h; simp at h
  | cons y l ih =>
    intro s x hn h hx
    cases s with
    | zero => simp at h; subst h; rw [firstD, if_pos hx]
    | succ s =>
      rw [firstD, if_neg (fun hh => hh (hn 0 y (by omega) rfl))]
      exact ih (s := s) (fun j z hj hz => hn (j + 1) z (by omega) (by simpa using hz)) (by simpa using h) hx
theorem firstD_none {l : List DV} (h : ∀ j y, j < l.length → l[j]? = some y → chkD y.nd y.r = 0) : firstD l = 0 := by
  induction l with
  | nil => rfl
  | cons y l ih =>
    rw [firstD, if_neg (fun hh => hh (h 0 y (by simp) rfl))]
    exact ih (fun j z hj hz => h (j + 1) z (by simpa using hj) (by simpa using hz))

end
end
end Go.Proofs.YtedopgkbajhanaaGreatDoor

namespace Go.Proofs.YtedopgkbajhanaaGreatDoor
section
section
open Go Go.RowKit

/-! ### Canonical diagrams -/
/-- The value of a number in a configuration. -/
def evD (nd : List Br) : Nat → Int → (Nat → Bool) → Bool
  | 0, n, _ => decide (n = 1)
  | m + 1, n, e => if n < 2 then decide (n = 1) else match nd[(n - 2).toNat]? with
    | none => false
    | some b => if e b.v.toNat then evD nd m b.h e else evD nd m b.l e
/-- The value, with as much fuel as the number asks. -/
def ev (nd : List Br) (n : Int) (e : Nat → Bool) : Bool := evD nd n.toNat n e
theorem evD_lt {nd : List Br} {m : Nat} {n : Int} {e : Nat → Bool} (h : n < 2) : evD nd m n e = decide (n = 1) := by
  cases m with
  | zero => rfl
  | succ m => rw [evD, if_pos h]
theorem evD_fuel {nd : List Br} (hw : WfB nd) : ∀ (m m' : Nat) (n : Int) (e : Nat → Bool), n ≤ m → n ≤ m' → evD nd m n e = evD nd m' n e
  | 0, m', n, e, h, _ => by rw [evD_lt (by omega), evD_lt (by omega)]
  | m + 1, 0, n, e, _, h => by rw [evD_lt (by omega), evD_lt (by omega)]
  | m + 1, m' + 1, n, e, h, h' => by
    by_cases hn : n < 2
    · rw [evD_lt hn, evD_lt hn]
    · rw [evD, evD, if_neg hn, if_neg hn]
      cases hb : nd[(n - 2).toNat]? with
      | none => rfl
      | some b =>
        obtain ⟨h1, h2, h3, h4⟩ := hw _ _ hb
        simp only
        rw [evD_fuel hw m m' b.h e (by omega) (by omega), evD_fuel hw m m' b.l e (by omega) (by omega)]
theorem ev_lt {nd : List Br} {n : Int} {e : Nat → Bool} (h : n < 2) : ev nd n e = decide (n = 1) := evD_lt h
theorem ev_ge {nd : List Br} (hw : WfB nd) {n : Int} {e : Nat → Bool} {b : Br} (h : ¬ n < 2) (hb : nd[(n - 2).toNat]? = some b) : ev nd n e = if e b.v.toNat then ev nd b.h e else ev nd b.l e := by
  obtain ⟨h1, h2, h3, h4⟩ := hw _ _ hb
  unfold ev
  obtain ⟨k, hk⟩ : ∃ k, n.toNat = k + 1 := ⟨n.toNat - 1, by omega⟩
  rw [hk, evD, if_neg h, hb]
  simp only
  rw [evD_fuel hw k b.h.toNat b.h e (by omega) (by omega), evD_fuel hw k b.l.toNat b.l e (by omega) (by omega)]

/-- Branches in order, each once, none of them idle. -/
def Rd0 (nd : List Br) : Prop := ∀ (j : Nat) (b : Br), nd[j]? = some b → brOk nd j b
theorem Rd0.wf {nd : List Br} (h : Rd0 nd) : WfB nd := fun j x hx => by
  obtain ⟨_, _, h1, h2, h3, h4, _⟩ := h j x hx
  exact ⟨h1, h2, h3, h4⟩
theorem VD.rd0 {nd : List Br} {r : Int} (h : VD nd r) : Rd0 nd := h.1
theorem lvl_some {nd : List Br} {n : Int} {b : Br} (h : ¬ n < 2) (hb : nd[(n - 2).toNat]? = some b) : lvlD nd n = b.v := by unfold lvlD; rw [if_neg h, hb]; rfl
def upd (e : Nat → Bool) (v : Nat) (x : Bool) : Nat → Bool := fun k => if k = v then x else e k
theorem getE {nd : List Br} {n : Int} (h : ¬ n < 2) (hn : n < nd.length + 2) : ∃ b, nd[(n - 2).toNat]? = some b := ⟨_, List.getElem?_eq_getElem (by omega)⟩
/-- A number does not depend on conditions before its own. -/
theorem ev_upd {nd : List Br} (h : Rd0 nd) (v : Nat) (x : Bool) (e : Nat → Bool) : ∀ (m : Nat) (n : Int), n.toNat < m → n < nd.length + 2 → (v : Int) < lvlD nd n → ev nd n (upd e v x) = ev nd n e
  | 0, n, hm, _, _ => by omega
  | m + 1, n, hm, hn, hv => by
    by_cases h2 : n < 2
    · rw [ev_lt h2, ev_lt h2]
    obtain ⟨b, hb⟩ := getE h2 hn
    obtain ⟨b1, b2, b3, b4, b5, b6, b7, b8, b9, b10⟩ := h _ _ hb
    rw [lvl_some h2 hb] at hv
    rw [ev_ge h.wf h2 hb, ev_ge h.wf h2 hb, ev_upd h v x e m b.h (by omega) (by omega) (by omega), ev_upd h v x e m b.l (by omega) (by omega) (by omega)]
    have : upd e v x b.v.toNat = e b.v.toNat := by unfold upd; rw [if_neg (by omega)]
    rw [this]

/-- Two numbers mean the same. -/
def Eqv (nd : List Br) (n : Int) (nd' : List Br) (n' : Int) : Prop := ∀ e, ev nd n e = ev nd' n' e
theorem Eqv.symm {nd nd' : List Br} {n n' : Int} (h : Eqv nd n nd' n') : Eqv nd' n' nd n := fun e => (h e).symm
theorem Eqv.trans {nd nd' nd2 : List Br} {n n' n2 : Int} (h : Eqv nd n nd' n') (k : Eqv nd' n' nd2 n2) : Eqv nd n nd2 n2 := fun e => (h e).trans (k e)
/-- Different numbers below a bound mean different sets. -/
def Inj (nd : List Br) (m : Nat) : Prop := ∀ (n n' : Int), 0 ≤ n → 0 ≤ n' → n < m → n' < m → n < nd.length + 2 → n' < nd.length + 2 → Eqv nd n nd n' → n = n'

theorem ev_hi {nd : List Br} (h : Rd0 nd) {n : Int} {b : Br} (h2 : ¬ n < 2) (hb : nd[(n - 2).toNat]? = some b) (hn : n < nd.length + 2) (e : Nat → Bool) : ev nd n (upd e b.v.toNat true) = ev nd b.h e ∧ ev nd n (upd e b.v.toNat false) = ev nd b.l e := by
  obtain ⟨b1, b2, b3, b4, b5, b6, b7, b8, b9, b10⟩ := h _ _ hb
  have e1 : upd e b.v.toNat true b.v.toNat = true := by unfold upd; rw [if_pos rfl]
  have e2 : upd e b.v.toNat false b.v.toNat = false := by unfold upd; rw [if_pos rfl]
  rw [ev_ge h.wf h2 hb, ev_ge h.wf h2 hb, e1, e2, if_pos rfl, if_neg (by decide)]
  exact ⟨ev_upd h _ _ _ (b.h.toNat + 1) _ (by omega) (by omega) (by omega), ev_upd h _ _ _ (b.l.toNat + 1) _ (by omega) (by omega) (by omega)⟩

/-- A branch depends on its condition. -/
theorem dep {nd : List Br} (h : Rd0 nd) {n : Int} {m : Nat} {b : Br} (hi : Inj nd m) (h2 : ¬ n < 2) (hb : nd[(n - 2).toNat]? = some b) (hn : n < nd.length + 2) (hm : n ≤ m) : ∃ e, ev nd n (upd e b.v.toNat true) ≠ ev nd n (upd e b.v.toNat false) := by
  obtain ⟨b1, b2, b3, b4, b5, b6, b7, b8, b9, b10⟩ := h _ _ hb
  refine Classical.byContradiction (fun hne => b7 ?_)
  refine hi b.l b.h b3 b5 (by omega) (by omega) (by omega) (by omega) (fun e => ?_)
  have := ev_hi h h2 hb hn e
  rw [← this.1, ← this.2]
  refine Classical.byContradiction (fun hh => hne ⟨e, fun h3 => hh h3.symm⟩)

theorem eqv_const {nd nd' : List Br} (h : Rd0 nd) {n n' : Int} {m : Nat} (hi : Inj nd m) (hm : n ≤ m) (hn : n < nd.length + 2) (h2 : n' < 2) (k : Eqv nd n nd' n') : n < 2 := by
  refine Classical.byContradiction (fun hh => ?_)
  obtain ⟨b, hb⟩ := getE hh hn
  obtain ⟨e, he⟩ := dep h hi hh hb hn hm
  apply he
  rw [k, k, ev_lt h2, ev_lt h2]
theorem eqv_lvl {nd nd' : List Br} (h : Rd0 nd) (h' : Rd0 nd') {n n' : Int} {m : Nat} {b b' : Br} (hi : Inj nd m) (hm : n ≤ m) (hn : n < nd.length + 2) (hn' : n' < nd'.length + 2) (h2 : ¬ n < 2) (h2' : ¬ n' < 2) (hb : nd[(n - 2).toNat]? = some b) (hb' : nd'[(n' - 2).toNat]? = some b') (k : Eqv nd n nd' n') : b'.v ≤ b.v := by
  refine Classical.byContradiction (fun hh => ?_)
  obtain ⟨e, he⟩ := dep h hi h2 hb hn hm
  apply he
  obtain ⟨b1, _⟩ := h _ _ hb
  rw [k, k, ev_upd h' _ _ _ (n'.toNat + 1) _ (by omega) hn' (by rw [lvl_some h2' hb']; omega), ev_upd h' _ _ _ (n'.toNat + 1) _ (by omega) hn' (by rw [lvl_some h2' hb']; omega)]
theorem eqv_kids {nd nd' : List Br} (h : Rd0 nd) (h' : Rd0 nd') {n n' : Int} {b b' : Br} (hn : n < nd.length + 2) (hn' : n' < nd'.length + 2) (h2 : ¬ n < 2) (h2' : ¬ n' < 2) (hb : nd[(n - 2).toNat]? = some b) (hb' : nd'[(n' - 2).toNat]? = some b') (k : Eqv nd n nd' n') (hv : b.v = b'.v) : Eqv nd b.l nd' b'.l ∧ Eqv nd b.h nd' b'.h := by
  refine ⟨fun e => ?_, fun e => ?_⟩
  · rw [← (ev_hi h h2 hb hn e).2, ← (ev_hi h' h2' hb' hn' e).2, k, hv]
  · rw [← (ev_hi h h2 hb hn e).1, ← (ev_hi h' h2' hb' hn' e).1, k, hv]

theorem inj_all {nd : List Br} (h : Rd0 nd) : ∀ m, Inj nd m
  | 0 => fun n n' h0 _ hm _ _ _ _ => by omega
  | m + 1 => fun n n' h0 h0' hm hm' hn hn' k => by
    have ih := inj_all h m
    by_cases h2 : n < 2
    · have h2' : n' < 2 := eqv_const h ih (by omega) hn' h2 k.symm
      have := k (fun _ => true)
      rw [ev_lt h2, ev_lt h2', decide_eq_decide] at this
      omega
    by_cases h2' : n' < 2
    · exact absurd (eqv_const h ih (by omega) hn h2' k) h2
    obtain ⟨b, hb⟩ := getE h2 hn
    obtain ⟨b', hb'⟩ := getE h2' hn'
    have hv : b.v = b'.v := Int.le_antisymm (eqv_lvl h h ih (by omega) hn' hn h2' h2 hb' hb k.symm) (eqv_lvl h h ih (by omega) hn hn' h2 h2' hb hb' k)
    obtain ⟨k1, k2⟩ := eqv_kids h h hn hn' h2 h2' hb hb' k hv
    obtain ⟨b1, b2, b3, b4, b5, b6, b7, b8, b9, b10⟩ := h _ _ hb
    obtain ⟨c1, c2, c3, c4, c5, c6, c7, c8, c9, c10⟩ := h _ _ hb'
    have el := ih b.l b'.l b3 c3 (by omega) (by omega) (by omega) (by omega) k1
    have eh := ih b.h b'.h b5 c5 (by omega) (by omega) (by omega) (by omega) k2
    have ebb : b = b' := by cases b; cases b'; simp_all
    subst ebb
    rcases Int.lt_trichotomy n n' with hlt | heq | hgt
    · exact absurd (List.mem_of_getElem? (i := (n - 2).toNat) (by rw [List.getElem?_take_of_lt (by omega)]; exact hb)) c8
    · exact heq
    · exact absurd (List.mem_of_getElem? (i := (n' - 2).toNat) (by rw [List.getElem?_take_of_lt (by omega)]; exact hb')) b8
theorem inj {nd : List Br} (h : Rd0 nd) {n n' : Int} (h0 : 0 ≤ n) (h0' : 0 ≤ n') (hn : n < nd.length + 2) (hn' : n' < nd.length + 2) (k : Eqv nd n nd n') : n = n' :=
  inj_all h (nd.length + 2) n n' h0 h0' (by omega) (by omega) hn hn' k

/-- Both walks stand at the same place. -/
structure Twin (nd nd' : List Br) (st st' : List Br × List Nat) : Prop where
  out : st.1 = st'.1
  len : st.2.length = nd.length
  len' : st'.2.length = nd'.length
  num : ∀ (n n' : Int), ¬ n < 2 → ¬ n' < 2 → n < nd.length + 2 → n' < nd'.length + 2 → Eqv nd n nd' n' → st.2[(n - 2).toNat]? = st'.2[(n' - 2).toNat]?

theorem twin_walk {nd nd' : List Br} (h : Rd0 nd) (h' : Rd0 nd') : ∀ (m m' : Nat) (n n' : Int) (st st' : List Br × List Nat), 0 ≤ n → 0 ≤ n' → n < m → n' < m' → n < nd.length + 2 → n' < nd'.length + 2 → Eqv nd n nd' n' → Twin nd nd' st st' →
    (vis nd m n st).1 = (vis nd' m' n' st').1 ∧ Twin nd nd' (vis nd m n st).2 (vis nd' m' n' st').2
  | 0, m', n, n', st, st', h0, _, hm, _, _, _, _, _ => by omega
  | m + 1, 0, n, n', st, st', _, h0, _, hm, _, _, _, _ => by omega
  | m + 1, m' + 1, n, n', st, st', h0, h0', hm, hm', hn, hn', k, T => by
    have I := inj_all h (nd.length + 2)
    have I' := inj_all h' (nd'.length + 2)
    by_cases h2 : n < 2
    · have h2' : n' < 2 := eqv_const h' I' (by omega) hn' h2 k.symm
      rw [vis_lt h2, vis_lt h2']
      have := k (fun _ => true)
      rw [ev_lt h2, ev_lt h2', decide_eq_decide] at this
      exact ⟨by simp only; omega, T⟩
    have h2' : ¬ n' < 2 := fun hh => h2 (eqv_const h I (by omega) hn hh k)
    obtain ⟨b, hb⟩ := getE h2 hn
    obtain ⟨b', hb'⟩ := getE h2' hn'
    have hnum := T.num n n' h2 h2' hn hn' k
    by_cases h3 : 0 < st.2[(n - 2).toNat]?.getD 0
    · rw [vis_old h2 h3, vis_old h2' (by rw [← hnum]; exact h3)]
      exact ⟨by simp only; rw [hnum], T⟩
    have h3' : ¬ 0 < st'.2[(n' - 2).toNat]?.getD 0 := by rw [← hnum]; exact h3
    have hv : b.v = b'.v := Int.le_antisymm (eqv_lvl h' h I' (by omega) hn' hn h2' h2 hb' hb k.symm) (eqv_lvl h h' I (by omega) hn hn' h2 h2' hb hb' k)
    obtain ⟨k1, k2⟩ := eqv_kids h h' hn hn' h2 h2' hb hb' k hv
    obtain ⟨b1, b2, b3, b4, b5, b6, b7, b8, b9, b10⟩ := h _ _ hb
    obtain ⟨c1, c2, c3, c4, c5, c6, c7, c8, c9, c10⟩ := h' _ _ hb'
    rw [vis_new h2 h3 hb, vis_new h2' h3' hb']
    obtain ⟨e1, T1⟩ := twin_walk h h' m m' b.l b'.l st st' b3 c3 (by omega) (by omega) (by omega) (by omega) k1 T
    generalize (vis nd m b.l st) = p at *
    generalize (vis nd' m' b'.l st') = p' at *
    obtain ⟨e2, T2⟩ := twin_walk h h' m m' b.h b'.h p.2 p'.2 b5 c5 (by omega) (by omega) (by omega) (by omega) k2 T1
    generalize (vis nd m b.h p.2) = q at *
    generalize (vis nd' m' b'.h p'.2) = q' at *
    have hout := T2.out
    refine ⟨by simp only; rw [hout], by simp only; rw [hout, hv, e1, e2], by rw [List.length_set]; exact T2.len, by rw [List.length_set]; exact T2.len', fun i i' j2 j2' hi hi' kk => ?_⟩
    have l1 := T2.len
    have l2 := T2.len'
    by_cases hin : i = n
    · subst hin
      have : i' = n' := inj h' (by omega) h0' hi' hn' (kk.symm.trans k)
      subst this
      simp only
      rw [List.getElem?_set_self (by omega), List.getElem?_set_self (by omega), hout]
    · have hin' : i' ≠ n' := fun e => by
        subst e
        exact hin (inj h (by omega) h0 hi hn (kk.trans k.symm))
      simp only
      rw [List.getElem?_set_ne (by omega), List.getElem?_set_ne (by omega)]
      exact T2.num i i' j2 j2' hi hi' kk

theorem twin_start (nd nd' : List Br) : Twin nd nd' ([], List.replicate nd.length 0) ([], List.replicate nd'.length 0) :=
  ⟨rfl, by simp, by simp, fun n n' h2 h2' hn hn' _ => by simp only; rw [List.getElem?_replicate_of_lt (by omega), List.getElem?_replicate_of_lt (by omega)]⟩
theorem numbered_eqv {nd nd' : List Br} (h : Rd0 nd) (h' : Rd0 nd') {n n' : Int} (h0 : 0 ≤ n) (h0' : 0 ≤ n') (hn : n < nd.length + 2) (hn' : n' < nd'.length + 2) (k : Eqv nd n nd' n') : numberedD nd n = numberedD nd' n' := by
  obtain ⟨e, T⟩ := twin_walk h h' (n.toNat + 1) (n'.toNat + 1) n n' _ _ h0 h0' (by omega) (by omega) hn hn' k (twin_start nd nd')
  unfold numberedD
  simp only
  rw [e, T.out]
/-- Valid diagrams that mean the same are the same. -/
theorem VD.eqv {nd nd' : List Br} {r r' : Int} (h : VD nd r) (h' : VD nd' r') (k : Eqv nd r nd' r') : (nd, r) = (nd', r') := by
  rw [← h.2.2.2, ← h'.2.2.2]
  exact numbered_eqv h.1 h'.1 h.2.1 h'.2.1 h.2.2.1 h'.2.2.1 k

theorem evD_app {nd : List Br} (hw : WfB nd) (l : List Br) : ∀ (m : Nat) (n : Int) (e : Nat → Bool), n < nd.length + 2 → evD (nd ++ l) m n e = evD nd m n e
  | 0, n, e, _ => rfl
  | m + 1, n, e, hn => by
    by_cases h2 : n < 2
    · rw [evD_lt h2, evD_lt h2]
    · obtain ⟨b, hb⟩ := getE h2 hn
      obtain ⟨h1, h2', h3, h4⟩ := hw _ _ hb
      rw [evD, evD, if_neg h2, if_neg h2, List.getElem?_append_left (by omega), hb]
      simp only
      rw [evD_app hw l m b.h e (by omega), evD_app hw l m b.l e (by omega)]
theorem ev_app {nd : List Br} (hw : WfB nd) (l : List Br) {n : Int} (hn : n < nd.length + 2) (e : Nat → Bool) : ev (nd ++ l) n e = ev nd n e := evD_app hw l _ n e hn
theorem lvl_app {nd : List Br} (l : List Br) {n : Int} (hn : n < nd.length + 2) : lvlD (nd ++ l) n = lvlD nd n := by
  unfold lvlD
  by_cases h2 : n < 2
  · rw [if_pos h2, if_pos h2]
  · rw [if_neg h2, if_neg h2, List.getElem?_append_left (by omega)]
theorem lvl_one {nd : List Br} {n : Int} (h : n < 2) : lvlD nd n = 64 := if_pos h
theorem lvl_eqv {nd nd' : List Br} (h : Rd0 nd) (h' : Rd0 nd') {n n' : Int} (hn : n < nd.length + 2) (hn' : n' < nd'.length + 2) (k : Eqv nd n nd' n') : lvlD nd n = lvlD nd' n' := by
  have I := inj_all h (nd.length + 2)
  have I' := inj_all h' (nd'.length + 2)
  by_cases h2 : n < 2
  · rw [lvl_one h2, lvl_one (eqv_const h' I' (by omega) hn' h2 k.symm)]
  have h2' : ¬ n' < 2 := fun hh => h2 (eqv_const h I (by omega) hn hh k)
  obtain ⟨b, hb⟩ := getE h2 hn
  obtain ⟨b', hb'⟩ := getE h2' hn'
  rw [lvl_some h2 hb, lvl_some h2' hb']
  exact Int.le_antisymm (eqv_lvl h' h I' (by omega) hn' hn h2' h2 hb' hb k.symm) (eqv_lvl h h' I (by omega) hn hn' h2 h2' hb hb' k)
theorem Rd0.snoc {nd : List Br} (h : Rd0 nd) {b : Br} (hb : brOk (nd ++ [b]) nd.length b) : Rd0 (nd ++ [b]) := by
  intro j x hx
  by_cases hj : j < nd.length
  · rw [List.getElem?_append_left hj] at hx
    obtain ⟨b1, b2, b3, b4, b5, b6, b7, b8, b9, b10⟩ := h _ _ hx
    exact ⟨b1, b2, b3, b4, b5, b6, b7, by rw [List.take_append_of_le_length (by omega)]; exact b8, by rw [lvl_app _ (by omega)]; exact b9, by rw [lvl_app _ (by omega)]; exact b10⟩
  · have hl := (List.getElem?_eq_some_iff.1 hx).1
    simp at hl
    have : j = nd.length := by omega
    subst this
    rw [List.getElem?_append_right (Nat.le_refl _)] at hx
    simp at hx
    subst hx
    exact hb
theorem snoc_ok {nd : List Br} {b : Br} (b1 : 0 ≤ b.v) (b2 : b.v ≤ 63) (b3 : 0 ≤ b.l) (b4 : b.l < nd.length + 2) (b5 : 0 ≤ b.h) (b6 : b.h < nd.length + 2) (b7 : b.l ≠ b.h) (b8 : b ∉ nd) (b9 : b.v < lvlD nd b.l) (b10 : b.v < lvlD nd b.h) : brOk (nd ++ [b]) nd.length b :=
  ⟨b1, b2, b3, b4, b5, b6, b7, by rw [List.take_append_of_le_length (Nat.le_refl _), List.take_length]; exact b8, by rw [lvl_app _ b4]; exact b9, by rw [lvl_app _ b6]; exact b10⟩

/-- What a walk has put out so far. -/
structure Wi (nd : List Br) (st : List Br × List Nat) : Prop where
  rd : Rd0 st.1
  len : st.2.length = nd.length
  num : ∀ k m : Nat, st.2[k]? = some m → 0 < m → 2 ≤ m ∧ m < st.1.length + 2 ∧ Eqv st.1 (m : Int) nd ((k : Int) + 2)
  sur : ∀ j : Nat, j < st.1.length → ∃ k : Nat, st.2[k]? = some (j + 2)

theorem Wi.start (nd : List Br) : Wi nd ([], List.replicate nd.length 0) :=
  ⟨fun j b hb => by simp at hb, by simp, fun k m hk hm => by
    have := List.eq_of_mem_replicate (List.mem_of_getElem? hk); omega, fun j hj => by simp at hj⟩

theorem walk_wi {nd : List Br} (h : Rd0 nd) : ∀ (m : Nat) (n : Int) (st : List Br × List Nat), 0 ≤ n → n < m → n < nd.length + 2 → Wi nd st →
    Wi nd (vis nd m n st).2 ∧ 0 ≤ (vis nd m n st).1 ∧ (vis nd m n st).1 < (vis nd m n st).2.1.length + 2 ∧ Eqv (vis nd m n st).2.1 (vis nd m n st).1 nd n ∧ ∃ l, (vis nd m n st).2.1 = st.1 ++ l
  | 0, n, st, h0, hm, _, _ => by omega
  | m + 1, n, st, h0, hm, hn, W => by
    by_cases h2 : n < 2
    · rw [vis_lt h2]
      exact ⟨W, h0, by simp only; omega, fun e => by rw [ev_lt h2, ev_lt h2], [], by simp⟩
    have hlt : (n - 2).toNat < st.2.length := by have := W.len; omega
    by_cases h3 : 0 < st.2[(n - 2).toNat]?.getD 0
    · rw [vis_old h2 h3]
      have hg := List.getElem?_eq_getElem hlt
      rw [hg] at h3 ⊢
      simp only [Option.getD_some] at h3 ⊢
      obtain ⟨q1, q2, q3⟩ := W.num _ _ hg h3
      have en : (((n - 2).toNat : Nat) : Int) + 2 = n := by omega
      rw [en] at q3
      exact ⟨W, by omega, by omega, q3, [], by simp⟩
    obtain ⟨b, hb⟩ := getE h2 hn
    obtain ⟨b1, b2, b3, b4, b5, b6, b7, b8, b9, b10⟩ := h _ _ hb
    have f1 := vis_facts h.wf m b.l st b3 (by omega) (by omega) W.len
    rw [vis_new h2 h3 hb]
    obtain ⟨W1, p1, p2, p3, l1, p4⟩ := walk_wi h m b.l st b3 (by omega) (by omega) W
    generalize (vis nd m b.l st) = p at *
    have f2 := vis_facts h.wf m b.h p.2 b5 (by omega) (by omega) W1.len
    obtain ⟨W2, q1, q2, q3, l2, q4⟩ := walk_wi h m b.h p.2 b5 (by omega) (by omega) W1
    generalize (vis nd m b.h p.2) = q at *
    have hz : q.2.2[(n - 2).toNat]? = some 0 := by
      rw [f2.keep _ (by omega), f1.keep _ (by omega)]
      have hg := List.getElem?_eq_getElem hlt
      rw [hg] at h3 ⊢
      simp only [Option.getD_some] at h3
      congr 1; omega
    have hR := W2.rd
    have p2' : p.1 < q.2.1.length + 2 := by rw [q4, List.length_append]; omega
    have p3' : Eqv q.2.1 p.1 nd b.l := fun e => by rw [q4, ev_app W1.rd.wf l2 p2]; exact p3 e
    have hne : p.1 ≠ q.1 := fun e => b7 (inj h b3 b5 (by omega) (by omega) (p3'.symm.trans (by rw [e]; exact q3)))
    have hl1 := lvl_eqv hR h p2' (by omega) p3'
    have hl2 := lvl_eqv hR h q2 (by omega) q3
    -- the new branch means n
    have mean : ∀ nd2, Rd0 nd2 → ∀ (i : Int), ¬ i < 2 → nd2[(i - 2).toNat]? = some ⟨b.v, p.1, q.1⟩ → (∀ e, ev nd2 p.1 e = ev q.2.1 p.1 e) → (∀ e, ev nd2 q.1 e = ev q.2.1 q.1 e) → Eqv nd2 i nd n := fun nd2 hR2 i hi hx u1 u2 e => by
      rw [ev_ge hR2.wf hi hx, ev_ge h.wf h2 hb]
      simp only
      rw [u1, u2, p3' e, q3 e]
    have hnot : (⟨b.v, p.1, q.1⟩ : Br) ∉ q.2.1 := fun hin => by
      obtain ⟨j, hj, hjx⟩ := List.mem_iff_getElem.1 hin
      obtain ⟨k, hk⟩ := W2.sur j hj
      obtain ⟨_, _, r3⟩ := W2.num k _ hk (by omega)
      have hm2 := mean q.2.1 hR ((j + 2 : Nat) : Int) (by omega) (by rw [show (((j + 2 : Nat) : Int) - 2).toNat = j by omega, List.getElem?_eq_getElem hj, hjx]) (fun _ => rfl) (fun _ => rfl)
      have hk2 := (List.getElem?_eq_some_iff.1 hk).1
      have hlen2 := W2.len
      have := inj h (n := (k : Int) + 2) (n' := n) (by omega) h0 (by omega) hn (r3.symm.trans hm2)
      have hkn : (n - 2).toNat = k := by omega
      rw [hkn, hk] at hz
      cases hz
    have hR3 : Rd0 (q.2.1 ++ [⟨b.v, p.1, q.1⟩]) := hR.snoc (snoc_ok b1 b2 p1 p2' q1 q2 hne hnot (by rw [hl1]; exact b9) (by rw [hl2]; exact b10))
    have hnew : Eqv (q.2.1 ++ [⟨b.v, p.1, q.1⟩]) ((q.2.1.length + 2 : Nat) : Int) nd n := mean _ hR3 _ (by omega) (by
      rw [show (((q.2.1.length + 2 : Nat) : Int) - 2).toNat = q.2.1.length by omega, List.getElem?_append_right (Nat.le_refl _)]; simp) (fun e => ev_app hR.wf _ p2' e) (fun e => ev_app hR.wf _ q2 e)
    refine ⟨⟨hR3, by rw [List.length_set]; exact W2.len, fun k mm hk hmm => ?_, fun j hj => ?_⟩, by omega, by simp only [List.length_append, List.length_cons, List.length_nil]; omega, hnew, l1 ++ (l2 ++ [⟨b.v, p.1, q.1⟩]), by simp only; rw [q4, p4]; simp⟩
    · simp only at hk ⊢
      by_cases hkn : (n - 2).toNat = k
      · subst hkn
        rw [List.getElem?_set_self (by have := W2.len; omega)] at hk
        cases hk
        refine ⟨by omega, by simp, ?_⟩
        rw [show (((n - 2).toNat : Nat) : Int) + 2 = n by omega]
        exact hnew
      · rw [List.getElem?_set_ne hkn] at hk
        obtain ⟨r1, r2, r3⟩ := W2.num k mm hk hmm
        exact ⟨r1, by simp; omega, fun e => by rw [ev_app hR.wf _ (by omega)]; exact r3 e⟩
    · simp only [List.length_append, List.length_cons, List.length_nil] at hj
      by_cases hjl : j < q.2.1.length
      · obtain ⟨k, hk⟩ := W2.sur j hjl
        refine ⟨k, ?_⟩
        simp only
        rw [List.getElem?_set_ne (fun e => by rw [e, hk] at hz; cases hz)]
        exact hk
      · have : j = q.2.1.length := by omega
        subst this
        exact ⟨(n - 2).toNat, by simp only; rw [List.getElem?_set_self (by have := W2.len; omega)]⟩

theorem numbered_vd {nd : List Br} (h : Rd0 nd) {r : Int} (h0 : 0 ≤ r) (hr : r < nd.length + 2) : VD (numberedD nd r).1 (numberedD nd r).2 ∧ Eqv (numberedD nd r).1 (numberedD nd r).2 nd r ∧ (numberedD nd r).1.length ≤ nd.length := by
  obtain ⟨W, w1, w2, w3, _⟩ := walk_wi h (r.toNat + 1) r _ h0 (by omega) hr (Wi.start nd)
  have f := (vis_facts h.wf (r.toNat + 1) r _ h0 (by omega) hr (Wi.start nd).len).cnt
  have e1 : (numberedD nd r).1 = (vis nd (r.toNat + 1) r ([], List.replicate nd.length 0)).2.1 := rfl
  have e2 : (numberedD nd r).2 = (vis nd (r.toNat + 1) r ([], List.replicate nd.length 0)).1 := rfl
  rw [← e1] at w3 w2 f
  rw [← e2] at w3 w2 w1
  have hR : Rd0 (numberedD nd r).1 := W.rd
  refine ⟨⟨hR, w1, w2, ?_⟩, w3, ?_⟩
  · rw [numbered_eqv hR h w1 h0 w2 hr w3]
  · have := List.count_le_length (a := 0) (l := List.replicate nd.length 0)
    simp at this f
    omega
end

section
open Go Go.RowKit

/-! ### Operations on diagrams, what they mean -/
theorem fstIdx_get {b : Br} : ∀ {l : List Br} {i : Nat}, fstIdx b l = some i → l[i]? = some b
  | [], i, h => by cases h
  | x :: l, i, h => by
    unfold fstIdx at h
    split at h
    · rename_i hx; cases h; simp [hx]
    · cases hf : fstIdx b l with
      | none => rw [hf] at h; cases h
      | some k => rw [hf] at h; cases h; simpa using fstIdx_get hf
theorem fstIdx_not {b : Br} : ∀ {l : List Br}, fstIdx b l = none → b ∉ l
  | [], _ => by simp
  | x :: l, h => by
    unfold fstIdx at h
    split at h
    · cases h
    · rename_i hx
      cases hf : fstIdx b l with
      | some k => rw [hf] at h; cases h
      | none => simp only [List.mem_cons, not_or]; exact ⟨fun e => hx e.symm, fstIdx_not hf⟩

/-- What making a branch unique yields. -/
structure UniqOk (nd : List Br) (b : Br) (r : List Br × Int) : Prop where
  rd : Rd0 r.1
  pos : 0 ≤ r.2
  lt : r.2 < r.1.length + 2
  mean : ∀ e, ev r.1 r.2 e = if e b.v.toNat then ev nd b.h e else ev nd b.l e
  lvl : b.v ≤ lvlD r.1 r.2
  ext : ∃ l, r.1 = nd ++ l
theorem uniq_step {nd : List Br} (h : Rd0 nd) {b : Br} (b1 : 0 ≤ b.v) (b2 : b.v ≤ 63) (b3 : 0 ≤ b.l) (b4 : b.l < nd.length + 2) (b5 : 0 ≤ b.h) (b6 : b.h < nd.length + 2) (b9 : b.v < lvlD nd b.l) (b10 : b.v < lvlD nd b.h) : UniqOk nd b (uniqD b nd) := by
  unfold uniqD
  split
  · rename_i he
    exact ⟨h, b3, b4, fun e => by simp only; rw [← he]; split <;> rfl, by simp only; omega, [], by simp⟩
  · rename_i hne
    split
    · rename_i i hi
      have hx := fstIdx_get hi
      have hlt := (List.getElem?_eq_some_iff.1 hx).1
      have hx' : nd[(((i + 2 : Nat) : Int) - 2).toNat]? = some b := by rw [show (((i + 2 : Nat) : Int) - 2).toNat = i by omega]; exact hx
      have h2 : ¬ (((i + 2 : Nat) : Int) < 2) := by omega
      exact ⟨h, by simp only; omega, by simp only; omega, fun e => ev_ge h.wf h2 hx', by simp only; rw [lvl_some h2 hx']; exact Int.le_refl _, [], by simp⟩
    · rename_i hn
      have hok := snoc_ok b1 b2 b3 b4 b5 b6 hne (fstIdx_not hn) b9 b10
      have hR := h.snoc hok
      have hx' : (nd ++ [b])[(((nd.length + 2 : Nat) : Int) - 2).toNat]? = some b := by
        rw [show (((nd.length + 2 : Nat) : Int) - 2).toNat = nd.length by omega, List.getElem?_append_right (Nat.le_refl _)]; simp
      have h2 : ¬ (((nd.length + 2 : Nat) : Int) < 2) := by omega
      exact ⟨hR, by simp only; omega, by simp only [List.length_append, List.length_cons, List.length_nil]; omega, fun e => by simp only; rw [ev_ge hR.wf h2 hx', ev_app h.wf _ b6, ev_app h.wf _ b4], by simp only; rw [lvl_some h2 hx']; exact Int.le_refl _, [b], rfl⟩

theorem Rd0.dok {nd : List Br} (h : Rd0 nd) : DOk nd := ⟨h.wf, fun j b hb => ⟨(h j b hb).1, (h j b hb).2.1⟩⟩
theorem Rd0.grow {nd : List Br} {l : List Br} (hw : WfB nd) {n : Int} (hn : n < nd.length + 2) (e : Nat → Bool) : ev (nd ++ l) n e = ev nd n e := ev_app hw l hn e

/-- Both sides of a number by a condition that is not greater than its own. -/
theorem side_mean {nd : List Br} (h : Rd0 nd) {n v : Int} (_ : 0 ≤ n) (hn : n < nd.length + 2) (hv : v ≤ lvlD nd n) (h64 : v < 64) :
    (∀ e, ev nd n e = if e v.toNat then ev nd (sideD nd n v).2 e else ev nd (sideD nd n v).1 e) ∧ v < lvlD nd (sideD nd n v).1 ∧ v < lvlD nd (sideD nd n v).2 ∧ (sideD nd n v).1 < nd.length + 2 ∧ (sideD nd n v).2 < nd.length + 2 := by
  unfold sideD
  split
  · rename_i hne
    exact ⟨fun e => by simp, by simp only; omega, by simp only; omega, hn, hn⟩
  · rename_i he
    have he := Decidable.not_not.1 he
    have h2 : ¬ n < 2 := fun hh => by rw [lvl_one hh] at he; omega
    obtain ⟨b, hb⟩ := getE h2 hn
    obtain ⟨b1, b2, b3, b4, b5, b6, b7, b8, b9, b10⟩ := h _ _ hb
    have hbv := lvl_some h2 hb
    simp only [hb]
    exact ⟨fun e => by rw [ev_ge h.wf h2 hb, show v = b.v by omega], by omega, by omega, by omega, by omega⟩

def opB (op : Int) (x y : Bool) : Bool := if op = 0 then x && y else if op = 1 then x || y else if op = 3 then !x else x != y
theorem const_mean {op x y : Int} (x0 : 0 ≤ x) (x1 : x < 2) (y0 : 0 ≤ y) (y1 : y < 2) : decide (constD op x y = 1) = opB op (decide (x = 1)) (decide (y = 1)) := by
  unfold constD opB
  rcases (by omega : x = 0 ∨ x = 1) with rfl | rfl <;> rcases (by omega : y = 0 ∨ y = 1) with rfl | rfl <;> (split <;> first | rfl | (split <;> first | rfl | (split <;> rfl)))

/-- What an operation's state means. -/
structure At2I (a b : List Br) (op : Int) (st : List Br × List Tr3) : Prop where
  rd : Rd0 st.1
  seen : ∀ t ∈ st.2, 0 ≤ t.2.2 ∧ t.2.2 < st.1.length + 2 ∧ (∀ e, ev st.1 t.2.2 e = opB op (ev a t.1 e) (ev b t.2.1 e)) ∧ min (lvlD a t.1) (lvlD b t.2.1) ≤ lvlD st.1 t.2.2
structure At2R (a b : List Br) (op : Int) (x y : Int) (st : List Br × List Tr3) (r : Int × (List Br × List Tr3)) : Prop where
  inv : At2I a b op r.2
  pos : 0 ≤ r.1
  lt : r.1 < r.2.1.length + 2
  mean : ∀ e, ev r.2.1 r.1 e = opB op (ev a x e) (ev b y e)
  lvl : min (lvlD a x) (lvlD b y) ≤ lvlD r.2.1 r.1
  ext : ∃ l, r.2.1 = st.1 ++ l

theorem At2I.ext {a b : List Br} {op : Int} {nd : List Br} {s : List Tr3} (h : At2I a b op (nd, s)) {nd' : List Br} (hr : Rd0 nd') (he : ∃ l, nd' = nd ++ l) : At2I a b op (nd', s) := by
  obtain ⟨l, rfl⟩ := he
  refine ⟨hr, fun t ht => ?_⟩
  obtain ⟨h1, h2, h3, h4⟩ := h.seen t ht
  exact ⟨h1, by simp only at h2 ⊢; rw [List.length_append]; omega, fun e => by rw [ev_app h.rd.wf l h2]; exact h3 e, by rw [lvl_app l h2]; exact h4⟩

theorem at2_mean {a b : List Br} (ha : Rd0 a) (hb : Rd0 b) (op : Int) : ∀ (m : Nat) (x y : Int) (st : List Br × List Tr3), At2I a b op st → 0 ≤ x → 0 ≤ y → x + y < m → x < a.length + 2 → y < b.length + 2 → At2R a b op x y st (at2 a b op m x y st)
  | 0, x, y, st, _, _, _, hm, _, _ => by omega
  | m + 1, x, y, st, h, x0, y0, hm, hx, hy => by
    by_cases hxy : x < 2 ∧ y < 2
    · rw [at2_c hxy]
      have hc := constD_in (op := op) x0 hxy.1 y0 hxy.2
      refine ⟨h, hc.1, by simp only; omega, fun e => ?_, ?_, [], by simp⟩
      · simp only
        rw [ev_lt hc.2, ev_lt hxy.1, ev_lt hxy.2]
        exact const_mean x0 hxy.1 y0 hxy.2
      · simp only
        rw [lvl_one hc.2, lvl_one hxy.1]; omega
    cases k : st.2.find? (fun t => decide (t.1 = x ∧ t.2.1 = y)) with
    | some t =>
      rw [at2_s hxy k]
      have hk := List.find?_some k
      simp only [decide_eq_true_eq] at hk
      obtain ⟨rfl, rfl⟩ := hk
      obtain ⟨h1, h2, h3, h4⟩ := h.seen t (List.mem_of_find?_eq_some k)
      exact ⟨h, h1, h2, h3, h4, [], by simp⟩
    | none =>
      have hv64 : min (lvlD a x) (lvlD b y) < 64 := by
        by_cases c : x < 2
        · have := lvl_lt hb.dok (n := y) (fun c2 => hxy ⟨c, c2⟩) (by omega)
          rw [Int.min_def]; split <;> omega
        · have := lvl_lt ha.dok (n := x) c (by omega)
          rw [Int.min_def]; split <;> omega
      have hv0 : 0 ≤ min (lvlD a x) (lvlD b y) := by
        have pos : ∀ {d : List Br}, Rd0 d → ∀ {n : Int}, n < d.length + 2 → 0 ≤ lvlD d n := fun {d} hd {n} hn => by
          by_cases h2 : n < 2
          · rw [lvl_one h2]; omega
          · obtain ⟨z, hz⟩ := getE h2 hn
            rw [lvl_some h2 hz]; exact (hd _ _ hz).1
        have p1 := pos ha hx
        have p2 := pos hb hy
        rw [Int.min_def]; split <;> omega
      rw [at2_n hxy k _ rfl]
      have hvx : lvlD a x = min (lvlD a x) (lvlD b y) ∨ lvlD b y = min (lvlD a x) (lvlD b y) := by rw [Int.min_def]; split <;> simp
      have hle1 : min (lvlD a x) (lvlD b y) ≤ lvlD a x := Int.min_le_left _ _
      have hle2 : min (lvlD a x) (lvlD b y) ≤ lvlD b y := Int.min_le_right _ _
      have hmin : At2I a b op st → min (lvlD a x) (lvlD b y) ≤ min (lvlD a x) (lvlD b y) := fun _ => Int.le_refl _
      generalize hv : min (lvlD a x) (lvlD b y) = v at *
      obtain ⟨s1, s2, s3, s4, s5⟩ := sideD_le ha.dok (n := x) x0 hv64
      obtain ⟨t1, t2, t3, t4, t5⟩ := sideD_le hb.dok (n := y) y0 hv64
      obtain ⟨u1, u2, u3, u4, u5⟩ := side_mean ha x0 hx hle1 hv64
      obtain ⟨z1, z2, z3, z4, z5⟩ := side_mean hb y0 hy hle2 hv64
      have dec : (sideD a x v).1 + (sideD b y v).1 < m ∧ (sideD a x v).2 + (sideD b y v).2 < m := by
        rcases hvx with e | e
        · have := s5 e; omega
        · have := t5 e; omega
      have i1 := at2_mean ha hb op m _ _ st h s1 t1 dec.1 u4 z4
      generalize (at2 a b op m (sideD a x v).1 (sideD b y v).1 st) = r0 at *
      have i2 := at2_mean ha hb op m _ _ r0.2 i1.inv s3 t3 dec.2 u5 z5
      generalize (at2 a b op m (sideD a x v).2 (sideD b y v).2 r0.2) = r1 at *
      obtain ⟨l1, hl1⟩ := i1.ext
      obtain ⟨l2, hl2⟩ := i2.ext
      have r0lt : r0.1 < r1.2.1.length + 2 := by rw [hl2, List.length_append]; have := i1.lt; omega
      have r0m : ∀ e, ev r1.2.1 r0.1 e = ev r0.2.1 r0.1 e := fun e => by rw [hl2, ev_app i1.inv.rd.wf l2 i1.lt]
      have r0l : lvlD r1.2.1 r0.1 = lvlD r0.2.1 r0.1 := by rw [hl2, lvl_app l2 i1.lt]
      have g1 : v < lvlD r1.2.1 r0.1 := by rw [r0l]; have := i1.lvl; rw [Int.min_def] at this; split at this <;> omega
      have g2 : v < lvlD r1.2.1 r1.1 := by have := i2.lvl; rw [Int.min_def] at this; split at this <;> omega
      have U := uniq_step i2.inv.rd (b := ⟨v, r0.1, r1.1⟩) hv0 (by simp only; omega) i1.pos r0lt i2.pos i2.lt g1 g2
      have hu3 := U.ext
      have hI := At2I.ext (s := r1.2.2) i2.inv U.rd U.ext
      generalize uniqD ⟨v, r0.1, r1.1⟩ r1.2.1 = u at *
      have hm2 : ∀ e, ev u.1 u.2 e = opB op (ev a x e) (ev b y e) := fun e => by
        rw [U.mean e, u1 e, z1 e]
        simp only
        split
        · exact i2.mean e
        · rw [r0m e]; exact i1.mean e
      refine ⟨⟨U.rd, fun t ht => ?_⟩, U.pos, U.lt, hm2, by rw [hv]; exact U.lvl, ?_⟩
      · simp only [List.mem_append, List.mem_singleton] at ht
        rcases ht with ht | rfl
        · exact hI.seen t ht
        · exact ⟨U.pos, U.lt, hm2, by rw [hv]; exact U.lvl⟩
      · obtain ⟨l3, hl3⟩ := hu3
        exact ⟨l1 ++ (l2 ++ l3), by simp only; rw [hl3, hl2, hl1]; simp⟩

/-- How much an operation makes. -/
theorem nodup_lt : ∀ (N : Nat) (l : List Nat), l.Nodup → (∀ x ∈ l, x < N) → l.length ≤ N
  | 0, l, _, h => by
    cases l with
    | nil => simp
    | cons x l => have := h x (by simp); omega
  | N + 1, l, hn, h => by
    have h1 := nodup_lt N (l.filter (fun x => decide (x ≠ N))) (hn.filter _) (fun x hx => by
      rw [List.mem_filter, decide_eq_true_eq] at hx
      have := h x hx.1; omega)
    have h2 : l.length = (l.filter (fun x => decide (x ≠ N))).length + l.count N := by
      clear h h1 hn
      induction l with
      | nil => rfl
      | cons x l ih =>
        by_cases e : x = N
        · subst e
          rw [List.filter_cons_of_neg (by simp), List.count_cons_self, List.length_cons]; omega
        · rw [List.filter_cons_of_pos (by simpa using e), List.count_cons_of_ne e, List.length_cons, List.length_cons]; omega
    have h3 := List.nodup_iff_count.1 hn N
    omega
def keyT (M : Nat) (t : Tr3) : Nat := t.1.toNat * M + t.2.1.toNat
structure At2B (n m : Nat) (st : List Br × List Tr3) : Prop where
  rng : ∀ t ∈ st.2, 0 ≤ t.1 ∧ t.1 < n ∧ 0 ≤ t.2.1 ∧ t.2.1 < m
  nod : (st.2.map (keyT m)).Nodup
  le : st.1.length ≤ st.2.length
theorem At2B.bound {n m : Nat} {st : List Br × List Tr3} (h : At2B n m st) : st.2.length ≤ n * m ∧ st.1.length ≤ n * m := by
  have := nodup_lt (n * m) _ h.nod (fun x hx => by
    simp only [List.mem_map] at hx
    obtain ⟨t, ht, rfl⟩ := hx
    obtain ⟨h1, h2, h3, h4⟩ := h.rng t ht
    unfold keyT
    have : (t.1.toNat + 1) * m ≤ n * m := Nat.mul_le_mul_right _ (by omega)
    rw [Nat.add_mul] at this
    omega)
  rw [List.length_map] at this
  exact ⟨this, Nat.le_trans h.le this⟩
theorem keyT_inj {m : Nat} {x y x' y' : Nat} (hy : y < m) (hy' : y' < m) (h : x * m + y = x' * m + y') : x = x' ∧ y = y' := by
  have hx : x = x' := by
    have e1 : (x * m + y) / m = x := by rw [Nat.mul_comm, Nat.mul_add_div (by omega), Nat.div_eq_of_lt hy]; rfl
    have e2 : (x' * m + y') / m = x' := by rw [Nat.mul_comm, Nat.mul_add_div (by omega), Nat.div_eq_of_lt hy']; rfl
    rw [← e1, ← e2, h]
  subst hx
  exact ⟨rfl, by omega⟩
/-- A call only adds pairs of which the sum is at most its own. -/
theorem at2_bnd {a b : List Br} (ha : DOk a) (hb : DOk b) (op : Int) : ∀ (f : Nat) (x y : Int) (st : List Br × List Tr3), At2B (a.length + 2) (b.length + 2) st → 0 ≤ x → 0 ≤ y → x + y < f → x < a.length + 2 → y < b.length + 2 →
    At2B (a.length + 2) (b.length + 2) (at2 a b op f x y st).2 ∧ (∀ t ∈ (at2 a b op f x y st).2.2, t ∈ st.2 ∨ t.1 + t.2.1 ≤ x + y)
  | 0, x, y, st, _, _, _, hm, _, _ => by omega
  | f + 1, x, y, st, h, x0, y0, hm, hx, hy => by
    by_cases hxy : x < 2 ∧ y < 2
    · rw [at2_c hxy]; exact ⟨h, fun t ht => .inl ht⟩
    cases k : st.2.find? (fun t => decide (t.1 = x ∧ t.2.1 = y)) with
    | some t => rw [at2_s hxy k]; exact ⟨h, fun t ht => .inl ht⟩
    | none =>
      have hv64 : min (lvlD a x) (lvlD b y) < 64 := by
        by_cases c : x < 2
        · have := lvl_lt hb (n := y) (fun c2 => hxy ⟨c, c2⟩) (by omega)
          rw [Int.min_def]; split <;> omega
        · have := lvl_lt ha (n := x) c (by omega)
          rw [Int.min_def]; split <;> omega
      rw [at2_n hxy k _ rfl]
      have hvx : lvlD a x = min (lvlD a x) (lvlD b y) ∨ lvlD b y = min (lvlD a x) (lvlD b y) := by rw [Int.min_def]; split <;> simp
      generalize min (lvlD a x) (lvlD b y) = v at *
      obtain ⟨s1, s2, s3, s4, s5⟩ := sideD_le ha (n := x) x0 hv64
      obtain ⟨t1, t2, t3, t4, t5⟩ := sideD_le hb (n := y) y0 hv64
      have dec : (sideD a x v).1 + (sideD b y v).1 < x + y ∧ (sideD a x v).2 + (sideD b y v).2 < x + y := by
        rcases hvx with e | e
        · have := s5 e; omega
        · have := t5 e; omega
      obtain ⟨i1, j1⟩ := at2_bnd ha hb op f _ _ st h s1 t1 (by omega) (by omega) (by omega)
      generalize (at2 a b op f (sideD a x v).1 (sideD b y v).1 st) = r0 at *
      obtain ⟨i2, j2⟩ := at2_bnd ha hb op f _ _ r0.2 i1 s3 t3 (by omega) (by omega) (by omega)
      generalize (at2 a b op f (sideD a x v).2 (sideD b y v).2 r0.2) = r1 at *
      have ul : (uniqD ⟨v, r0.1, r1.1⟩ r1.2.1).1.length ≤ r1.2.1.length + 1 := by
        unfold uniqD
        split
        · exact Nat.le_succ _
        · split
          · exact Nat.le_succ _
          · simp
      have hnot : ∀ t ∈ r1.2.2, ¬ (t.1 = x ∧ t.2.1 = y) := fun t ht hh => by
        rcases j2 t ht with h1 | h1
        · rcases j1 t h1 with h2 | h2
          · have := List.find?_eq_none.1 k t h2
            simp at this
            exact this hh.1 hh.2
          · omega
        · omega
      refine ⟨⟨fun t ht => ?_, ?_, ?_⟩, fun t ht => ?_⟩
      · simp only [List.mem_append, List.mem_singleton] at ht
        rcases ht with ht | rfl
        · exact i2.rng t ht
        · exact ⟨x0, by simp only; omega, y0, by simp only; omega⟩
      · simp only [List.map_append, List.map_cons, List.map_nil]
        rw [List.nodup_append]
        refine ⟨i2.nod, by simp, fun p hp q hq e => ?_⟩
        simp only [List.mem_singleton] at hq
        subst hq
        subst e
        simp only [List.mem_map] at hp
        obtain ⟨t, ht, hk⟩ := hp
        obtain ⟨r1', r2', r3', r4'⟩ := i2.rng t ht
        unfold keyT at hk
        have := keyT_inj (m := b.length + 2) (by omega) (by simp only; omega) hk
        simp only at this
        exact hnot t ht ⟨by omega, by omega⟩
      · simp only [List.length_append, List.length_cons, List.length_nil]
        have := i2.le
        omega
      · simp only [List.mem_append, List.mem_singleton] at ht
        rcases ht with ht | rfl
        · rcases j2 t ht with h1 | h1
          · rcases j1 t h1 with h2 | h2
            · exact .inl h2
            · exact .inr (by omega)
          · exact .inr (by omega)
        · exact .inr (by simp only; omega)

theorem at2D_bnd {a b : List Br} {ra rb : Int} (ha : VD a ra) (hb : VD b rb) (op : Int) : (at2D a ra b rb op).2.2.length ≤ (a.length + 2) * (b.length + 2) ∧ (at2D a ra b rb op).2.1.length ≤ (a.length + 2) * (b.length + 2) :=
  (at2_bnd ha.dok hb.dok op (ra.toNat + rb.toNat + 1) ra rb ([], []) ⟨fun t ht => by simp at ht, by simp, Nat.le_refl _⟩ ha.2.1 hb.2.1 (by have := ha.2.1; have := hb.2.1; omega) ha.2.2.1 hb.2.2.1).1.bound
theorem comb_vd {a b : List Br} {ra rb : Int} (ha : VD a ra) (hb : VD b rb) (op : Int) : VD (combD a ra b rb op).1 (combD a ra b rb op).2 ∧ ∀ e, ev (combD a ra b rb op).1 (combD a ra b rb op).2 e = opB op (ev a ra e) (ev b rb e) := by
  have R := at2_mean ha.rd0 hb.rd0 op (ra.toNat + rb.toNat + 1) ra rb ([], []) ⟨fun j x hx => by simp at hx, fun t ht => by simp at ht⟩ ha.2.1 hb.2.1 (by have := ha.2.1; have := hb.2.1; omega) ha.2.2.1 hb.2.2.1
  obtain ⟨n1, n2, n3⟩ := numbered_vd R.inv.rd R.pos R.lt
  exact ⟨n1, fun e => (n2 e).trans (R.mean e)⟩
end
end
end Go.Proofs.YtedopgkbajhanaaGreatDoor
