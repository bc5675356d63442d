/-
  A law's parameters as they come in: files, lines, sources.
  Conditions: none.
-/
import Derived.Test.YtedopgkbajhanaaGreatDoorFs2
import Derived.Test.YtedopgkbajhanaaGreatDoorS5
namespace Go.Proofs.YtedopgkbajhanaaGreatDoor
open Go Go.RowKit Go.ChangeShapes

variable {H : Type} {enc : TypeId × Value → H}

theorem lst6 {α : Type} {l : List α} (h : l.length = 6) : ∃ a b c d e f, l = [a, b, c, d, e, f] := by
  match l, h with
  | [a, b, c, d, e, f], _ => exact ⟨a, b, c, d, e, f, rfl⟩
theorem lst5 {α : Type} {l : List α} (h : l.length = 5) : ∃ a b c d e, l = [a, b, c, d, e] := by
  match l, h with
  | [a, b, c, d, e], _ => exact ⟨a, b, c, d, e, rfl⟩
theorem file_one {W : World} (cs : List Value) (fuel : Nat) (D : DataW H × List MemPlace) (hl : cs.length = 2) (h : DataW.trod enc Tryz.prog W 0 (fun _ => true) true fuel 38 cs = some D) : ∃ y : { x : List Nat × List Nat // FileB x }, fileC y.1 = cs := by
  have hc3 : Tryz.prog.cellsOf 9 = 1 := by kernel_rfl
  obtain ⟨xs, k, _, _, _, hxl, hfl⟩ := DataW.trod_struct Tryz.underlying38 h
  obtain ⟨y0, y1, rfl⟩ := lst2 (show xs.length = 2 from hxl)
  obtain ⟨v0, v1, rfl⟩ := lst2 hl
  have g0 := hfl 0 _ rfl
  have g1 := hfl 1 _ rfl
  simp [hc3] at g0 g1
  obtain ⟨n0, e0, _, h0⟩ := DataW.trod_string Tryz.underlying9 g0
  obtain ⟨n1, e1, _, h1⟩ := DataW.trod_string Tryz.underlying9 g1
  simp at e0 e1
  subst e0 e1
  refine ⟨⟨(bytesOf n0, bytesOf n1), ⟨bytesOf_lt _, bytesOf_lt _, by rw [bytesOf_length]; simpa [maxLen] using h0, by rw [bytesOf_length]; simpa [maxLen] using h1⟩⟩, ?_⟩
  simp only [fileC, strOf_bytesOf]
theorem sub_of {α : Type} {p : α → Prop} {f : α → List Value} {sz : Nat} {W : World} {a : Option Addr} {len cap : Nat} (h : ∃ l : List { x : α // p x }, SlS (fun y => f y.1) sz W a len cap l) : ∃ l : List α, SlS f sz W a len cap l ∧ ∀ x ∈ l, p x := by
  obtain ⟨l, h1, h2⟩ := h
  refine ⟨l.map Subtype.val, ⟨?_, by simpa using h2⟩, fun x hx => ?_⟩
  · rw [List.flatMap_map]; exact h1
  · obtain ⟨y, _, rfl⟩ := List.mem_map.1 hx
    exact y.2
theorem files_of {W : World} {a : Option Addr} {len cap : Nat} {d : DataW H} {p : List MemPlace} (h : DataW.Trod enc Tryz.prog W 0 (fun _ => true) true 22 (.slice a len cap) d p) : ∃ l, SlS fileC 2 W a len cap l ∧ ∀ x ∈ l, FileB x := by
  obtain ⟨fuel, hf⟩ := h
  exact sub_of (sls_of (cells := fun y : { x : List Nat × List Nat // FileB x } => fileC y.1) (fun _ => rfl) (by decide) Tryz.underlying22 (by kernel_rfl) ⟨⟨([], []), ⟨by simp, by simp, by simp, by simp⟩⟩⟩ file_one rfl hf)

/-! ### Lines of made files -/
structure Lx where
  k : Nat
  i : Nat
  ws : List Nat
  A : Option Addr
  n : Nat
  c : Nat
def Lx.cells (x : Lx) : List Value := [.int .u8 (x.k : Nat), .int .u8 (x.i : Nat), .slice x.A x.n x.c]
structure LxOk (W : World) (x : Lx) : Prop where
  k8 : x.k ≤ 255
  i8 : x.i ≤ 255
  sl : Sl W 1 x.A x.n x.c (bytesV x.ws)
  w8 : ∀ b ∈ x.ws, b ≤ 255
theorem LxOk.ext {W W' : World} {x : Lx} (h : LxOk W x) (k : Ext W W') : LxOk W' x := ⟨h.k8, h.i8, h.sl.ext k, h.w8⟩
theorem line_one {W : World} (cs : List Value) (fuel : Nat) (D : DataW H × List MemPlace) (hl : cs.length = 3) (h : DataW.trod enc Tryz.prog W 0 (fun _ => true) true fuel 166 cs = some D) : ∃ y : { x : Lx // LxOk W x }, y.1.cells = cs := by
  have hc3 : Tryz.prog.cellsOf 5 = 1 := by kernel_rfl
  have hc4 : Tryz.prog.cellsOf 74 = 1 := by kernel_rfl
  obtain ⟨xs, k, _, _, _, hxl, hfl⟩ := DataW.trod_struct Tryz.underlying166 h
  obtain ⟨y0, y1, y2, rfl⟩ := lst3 (show xs.length = 3 from hxl)
  obtain ⟨v0, v1, v2, rfl⟩ := lst3 hl
  have g0 := hfl 0 _ rfl
  have g1 := hfl 1 _ rfl
  have g2 := hfl 2 _ rfl
  simp [hc3, hc4] at g0 g1 g2
  obtain ⟨n0, e0, _, w0⟩ := DataW.trod_int Tryz.underlying5 g0
  obtain ⟨n1, e1, _, w1⟩ := DataW.trod_int Tryz.underlying5 g1
  simp at e0 e1
  subst e0 e1
  have key : ∃ a n c, v2 = .slice a n c := by
    rcases Go.Deep.open_slice Tryz.underlying74 g2 with ⟨hcs, _⟩ | ⟨x, l, c, m, n, D, Pl, hcs, _⟩
    · simp at hcs; exact ⟨_, _, _, hcs⟩
    · simp at hcs; exact ⟨_, _, _, hcs⟩
  obtain ⟨a, n, c, rfl⟩ := key
  obtain ⟨ws, hS, h8⟩ := u8s_of ⟨_, g2⟩
  obtain ⟨m0, rfl, q0⟩ := u8_of w0
  obtain ⟨m1, rfl, q1⟩ := u8_of w1
  exact ⟨⟨⟨m0, m1, ws, a, n, c⟩, ⟨q0, q1, hS, h8⟩⟩, rfl⟩
theorem lines_of {W : World} {a : Option Addr} {len cap : Nat} {d : DataW H} {p : List MemPlace} (h : DataW.Trod enc Tryz.prog W 0 (fun _ => true) true 58 (.slice a len cap) d p) : ∃ l, SlS Lx.cells 3 W a len cap l ∧ ∀ x ∈ l, LxOk W x := by
  obtain ⟨fuel, hf⟩ := h
  exact sub_of (sls_of (cells := fun y : { x : Lx // LxOk W x } => y.1.cells) (fun _ => rfl) (by decide) Tryz.underlying58 (by kernel_rfl) ⟨⟨⟨0, 0, [], none, 0, 0⟩, ⟨by simp, by simp, Sl.nil W 1, by simp⟩⟩⟩ line_one rfl hf)

/-! ### Sources -/
theorem seg_one {W : World} (cs : List Value) (fuel : Nat) (D : DataW H × List MemPlace) (hl : cs.length = 6) (h : DataW.trod enc Tryz.prog W 0 (fun _ => true) true fuel 45 cs = some D) : ∃ y : { x : Sx // SB W x.x.A x.x.n x.x.c x.x.nd }, y.1.cells = cs := by
  have hc3 : Tryz.prog.cellsOf 3 = 1 := by kernel_rfl
  have hc4 : Tryz.prog.cellsOf 42 = 2 := by kernel_rfl
  have hcb : Tryz.prog.cellsOf 40 = 1 := by kernel_rfl
  obtain ⟨xs, k, _, _, _, hxl, hfl⟩ := DataW.trod_struct Tryz.underlying45 h
  obtain ⟨y0, y1, y2, y3, y4, rfl⟩ := lst5 (show xs.length = 5 from hxl)
  obtain ⟨v0, v1, v2, v3, v4, v5, rfl⟩ := lst6 hl
  have g0 := hfl 0 _ rfl
  have g1 := hfl 1 _ rfl
  have g2 := hfl 2 _ rfl
  have g3 := hfl 3 _ rfl
  have g4 := hfl 4 _ rfl
  simp [hc3, hc4] at g0 g1 g2 g3 g4
  obtain ⟨n0, e0, _, _⟩ := DataW.trod_int Tryz.underlying3 g0
  obtain ⟨n1, e1, _, _⟩ := DataW.trod_int Tryz.underlying3 g1
  obtain ⟨n2, e2, _, _⟩ := DataW.trod_int Tryz.underlying3 g2
  obtain ⟨n3, e3, _, _⟩ := DataW.trod_int Tryz.underlying3 g3
  simp at e0 e1 e2 e3
  subst e0 e1 e2 e3
  obtain ⟨xs', m, _, _, _, hxl', hfl'⟩ := DataW.trod_struct Tryz.underlying42 g4
  obtain ⟨z0, z1, rfl⟩ := lst2 (show xs'.length = 2 from hxl')
  have k0 := hfl' 0 _ rfl
  have k1 := hfl' 1 _ rfl
  simp [hc3, hcb] at k0 k1
  obtain ⟨n5, e5, _, _⟩ := DataW.trod_int Tryz.underlying3 k1
  simp at e5
  subst e5
  have key : ∃ a n c, v4 = .slice a n c := by
    rcases Go.Deep.open_slice Tryz.underlying40 k0 with ⟨hcs, _⟩ | ⟨x, l, c, m, n, D, Pl, hcs, _⟩
    · simp at hcs; exact ⟨_, _, _, hcs⟩
    · simp at hcs; exact ⟨_, _, _, hcs⟩
  obtain ⟨a, n, c, rfl⟩ := key
  obtain ⟨l, hS⟩ := sls_of br_len (by decide) Tryz.underlying40 (by kernel_rfl) ⟨⟨0, 0, 0⟩⟩ br_one rfl k0
  exact ⟨⟨⟨n0, n1, n2, n3, ⟨a, n, c, l, n5⟩⟩, hS⟩, rfl⟩
set_option maxRecDepth 100000 in
theorem src_of {W : World} {base : Nat} {v : Value} {d : DataW H} {p : List MemPlace} (hval : Value.okWide Tryz.prog W .any base 29 v) (h : DataW.Trod enc Tryz.prog W 0 (fun _ => true) true 29 v d p) :
    ∃ tx A n c L, v = srcV tx A n c ∧ SX W A n c L ∧ (∀ x ∈ tx, x < 256) ∧ tx.length ≤ 9223372036854775807 := by
  obtain ⟨fuel, hf⟩ := h
  obtain ⟨cs, rfl, hsz⟩ := Go.WideShapes.okWide_struct Tryz.underlying29 hval
  have hc : Tryz.prog.cellsOf 29 = 2 := by kernel_rfl
  have hc3 : Tryz.prog.cellsOf 9 = 1 := by kernel_rfl
  have hcb : Tryz.prog.cellsOf 27 = 1 := by kernel_rfl
  rw [hc] at hsz
  obtain ⟨xs, m, _, _, _, hxl, hfl⟩ := DataW.trod_struct Tryz.underlying29 hf
  obtain ⟨v0, v1, hl⟩ := lst2 (show cs.toList.length = 2 by simpa using hsz)
  obtain ⟨y0, y1, rfl⟩ := lst2 (show xs.length = 2 from hxl)
  have g0 := hfl 0 _ rfl
  have g1 := hfl 1 _ rfl
  simp [hc3, hcb, Value.cells, hl] at g0 g1
  obtain ⟨n0, e0, _, h0⟩ := DataW.trod_string Tryz.underlying9 g0
  simp at e0
  have key : ∃ a n c, v1 = .slice a n c := by
    rcases Go.Deep.open_slice Tryz.underlying27 g1 with ⟨hcs, _⟩ | ⟨x, l, c, m, n, D, Pl, hcs, _⟩
    · simp at hcs; exact ⟨_, _, _, hcs⟩
    · simp at hcs; exact ⟨_, _, _, hcs⟩
  obtain ⟨a, n, c, rfl⟩ := key
  obtain ⟨l, hS, hd⟩ := sub_of (sls_of (cells := fun y : { x : Sx // SB W x.x.A x.x.n x.x.c x.x.nd } => y.1.cells) (fun _ => rfl) (by decide) Tryz.underlying27 (by kernel_rfl) ⟨⟨⟨0, 0, 0, 0, ⟨none, 0, 0, [], 0⟩⟩, SlS.nil W⟩⟩ seg_one rfl g1)
  subst e0
  refine ⟨bytesOf n0, a, n, c, l, ?_, ⟨hS, hd⟩, bytesOf_lt _, by rw [bytesOf_length]; simpa [maxLen] using h0⟩
  show Value.agg cs = .agg #[.string (strOf (bytesOf n0)), .slice a n c]
  rw [strOf_bytesOf]
  exact congrArg Value.agg (Array.ext' hl)

/-! ### Arrays -/
set_option maxRecDepth 100000 in
theorem a2i_of {W : World} {base : Nat} {v : Value} {d : DataW H} {p : List MemPlace} (hval : Value.okWide Tryz.prog W .any base 43 v) (h : DataW.Trod enc Tryz.prog W 0 (fun _ => true) true 43 v d p) :
    ∃ k0 k1 : Int, v = .agg #[.int .i64 k0, .int .i64 k1] ∧ (-9223372036854775808 ≤ k0 ∧ k0 ≤ 9223372036854775807) ∧ (-9223372036854775808 ≤ k1 ∧ k1 ≤ 9223372036854775807) := by
  obtain ⟨fuel, hf⟩ := h
  simp only [Value.okWide, Tryz.underlying43] at hval
  obtain ⟨cs, rfl, hsz, _⟩ := hval
  have hc : Tryz.prog.cellsOf 43 = 2 := by kernel_rfl
  have hc22 : Tryz.prog.cellsOf 3 = 1 := by kernel_rfl
  rw [hc] at hsz
  obtain ⟨xs, m, _, _, _, hxl, hx⟩ := DataW.trod_array Tryz.underlying43 hf
  obtain ⟨v0, v1, hl⟩ := lst2 (show cs.toList.length = 2 by simpa using hsz)
  obtain ⟨x0, x1, rfl⟩ := lst2 hxl
  have g0 := hx 0 (by omega)
  have g1 := hx 1 (by omega)
  simp [hc22, Value.cells, hl] at g0 g1
  obtain ⟨n0, e0, _, w0⟩ := DataW.trod_int Tryz.underlying3 g0
  obtain ⟨n1, e1, _, w1⟩ := DataW.trod_int Tryz.underlying3 g1
  simp at e0 e1
  subst e0 e1
  exact ⟨n0, n1, congrArg Value.agg (Array.ext' hl), i64_of w0, i64_of w1⟩
set_option maxRecDepth 100000 in
theorem a4u8_of {W : World} {base : Nat} {v : Value} {d : DataW H} {p : List MemPlace} (hval : Value.okWide Tryz.prog W .any base 62 v) (h : DataW.Trod enc Tryz.prog W 0 (fun _ => true) true 62 v d p) :
    ∃ a b c e : Nat, v = .agg #[.int .u8 a, .int .u8 b, .int .u8 c, .int .u8 e] ∧ a ≤ 255 ∧ b ≤ 255 ∧ c ≤ 255 ∧ e ≤ 255 := by
  obtain ⟨fuel, hf⟩ := h
  simp only [Value.okWide, Tryz.underlying62] at hval
  obtain ⟨cs, rfl, hsz, _⟩ := hval
  have hc : Tryz.prog.cellsOf 62 = 4 := by kernel_rfl
  have hc22 : Tryz.prog.cellsOf 5 = 1 := by kernel_rfl
  rw [hc] at hsz
  obtain ⟨xs, m, _, _, _, hxl, hx⟩ := DataW.trod_array Tryz.underlying62 hf
  obtain ⟨v0, v1, v2, v3, hl⟩ := lst4 (show cs.toList.length = 4 by simpa using hsz)
  obtain ⟨x0, x1, x2, x3, rfl⟩ := lst4 hxl
  have g0 := hx 0 (by omega)
  have g1 := hx 1 (by omega)
  have g2 := hx 2 (by omega)
  have g3 := hx 3 (by omega)
  simp [hc22, Value.cells, hl] at g0 g1 g2 g3
  obtain ⟨n0, e0, _, w0⟩ := DataW.trod_int Tryz.underlying5 g0
  obtain ⟨n1, e1, _, w1⟩ := DataW.trod_int Tryz.underlying5 g1
  obtain ⟨n2, e2, _, w2⟩ := DataW.trod_int Tryz.underlying5 g2
  obtain ⟨n3, e3, _, w3⟩ := DataW.trod_int Tryz.underlying5 g3
  simp at e0 e1 e2 e3
  subst e0 e1 e2 e3
  obtain ⟨a, rfl, ha⟩ := u8_of w0
  obtain ⟨b, rfl, hb⟩ := u8_of w1
  obtain ⟨c, rfl, hc'⟩ := u8_of w2
  obtain ⟨e, rfl, he⟩ := u8_of w3
  exact ⟨a, b, c, e, congrArg Value.agg (Array.ext' hl), ha, hb, hc', he⟩
end Go.Proofs.YtedopgkbajhanaaGreatDoor
