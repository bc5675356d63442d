/-
  A law's parameters as they come in: slices of nodes, arrays of slices of bytes, arrays of bytes.
  Conditions: none.
-/
import Derived.Test.YtbkadgdhmfolaaaGr
namespace Go.Proofs.Ytbkadgdhmfolaaa
open Go Go.RowKit Go.ChangeShapes

theorem list5 {α : Type} {l : List α} (h : l.length = 5) : ∃ a b c d e, l = [a, b, c, d, e] := by
  match l, h with
  | [a, b, c, d, e], _ => exact ⟨a, b, c, d, e, rfl⟩

variable {H : Type} {enc : TypeId × Value → H}

theorem nodes_of {W : World} {a : Option Addr} {len cap : Nat} {d : DataW H} {p : List MemPlace} (h : DataW.Trod enc Try.prog W 0 (fun _ => true) true 23 (.slice a len cap) d p) : ∃ l, SD W a len cap l ∧ ∀ x ∈ l, x.t.size ≤ maxLen := by
  obtain ⟨fuel, hf⟩ := h
  rcases Go.Deep.open_slice Try.underlying23 hf with ⟨hcs, _⟩ | ⟨x, l, c, m, n, D, Pl, hcs, _, hl, hm, hmm, _, hx⟩
  · simp [Value.cells] at hcs
    obtain ⟨rfl, rfl, rfl⟩ := hcs
    exact ⟨[], SlS.nil W, by simp⟩
  · simp [Value.cells] at hcs
    obtain ⟨rfl, rfl, rfl⟩ := hcs
    simp only [if_true] at hmm
    subst hmm
    have hc5 : Try.prog.cellsOf 59 = 5 := by kernel_rfl
    have hc9 : Try.prog.cellsOf 9 = 1 := by kernel_rfl
    have hc3 : Try.prog.cellsOf 3 = 1 := by kernel_rfl
    have each : ∀ i, i < m → ∃ y : Nd, y.t.size ≤ maxLen ∧ ∀ j v, y.cells[j]? = some v → W.cell? (x.add (i * 5 + j)) = some v := by
      intro i hi
      obtain ⟨cs, h1, h2⟩ := hx i hi
      rw [hc5] at h1
      obtain ⟨_, hlen, hcell⟩ := World.cells?_some h1
      obtain ⟨xs, k, _, _, _, hxl, hfl⟩ := DataW.trod_struct Try.underlying59 h2
      obtain ⟨y0, y1, y2, y3, y4, rfl⟩ := list5 (show xs.length = 5 from hxl)
      obtain ⟨v0, v1, v2, v3, v4, rfl⟩ := list5 hlen
      have : True := trivial
      · skip
        have g0 := hfl 0 _ rfl
        have g1 := hfl 1 _ rfl
        have g2 := hfl 2 _ rfl
        have g3 := hfl 3 _ rfl
        have g4 := hfl 4 _ rfl
        simp [hc9, hc3] at g0 g1 g2 g3 g4
        obtain ⟨n0, e0, _, _⟩ := DataW.trod_int Try.underlying3 g0
        obtain ⟨n1, e1, _, hs1⟩ := DataW.trod_string Try.underlying9 g1
        obtain ⟨n2, e2, _, _⟩ := DataW.trod_int Try.underlying3 g2
        obtain ⟨n3, e3, _, _⟩ := DataW.trod_int Try.underlying3 g3
        obtain ⟨n4, e4, _, _⟩ := DataW.trod_int Try.underlying3 g4
        simp at e0 e1 e2 e3 e4
        subst e0 e1 e2 e3 e4
        refine ⟨⟨n0, n1, n2, n3, n4⟩, hs1, fun j v hj => ?_⟩
        have hj5 : j < 5 := (List.getElem?_eq_some_iff.1 hj).1
        have := hcell j hj5
        rw [add_add] at this
        rw [this]
        exact hj
    have hin : Inhabited Nd := ⟨⟨0, ⟨#[]⟩, 0, 0, 0⟩⟩
    obtain ⟨Y, hY⟩ := Go.Deep.choose_lt each
    refine ⟨(List.range len).map Y, ⟨⟨?_, hl, hm, fun _ => ⟨x, rfl, fun j u hu => ?_⟩⟩, by simp⟩, ?_⟩
    · rw [flat_length nd_len]; simp
    · have hjl := (List.getElem?_eq_some_iff.1 hu).1
      rw [flat_length nd_len] at hjl
      simp at hjl
      have hi : j / 5 < len := by omega
      have hr : j % 5 < 5 := Nat.mod_lt _ (by decide)
      have hg : ((List.range len).map Y)[j / 5]? = some (Y (j / 5)) := by simp [hi]
      have hc : (Y (j / 5)).cells[j % 5]? = some (Y (j / 5)).cells[j % 5] := List.getElem?_eq_getElem _
      have h1 := flat_get nd_len _ _ _ _ _ hg hc
      rw [show j / 5 * 5 + j % 5 = j by omega, hu] at h1
      have h2 := (hY (j / 5) (by omega)).2 _ _ hc
      rw [show j / 5 * 5 + j % 5 = j by omega] at h2
      rw [h2, ← Option.some.inj h1]
    · intro y hy
      simp only [List.mem_map, List.mem_range] at hy
      obtain ⟨i, hi, rfl⟩ := hy
      exact (hY i (by omega)).1

theorem bytes_cell {W : World} {v : Value} {m : Nat} {x : DataW H × List MemPlace} (h : DataW.trod enc Try.prog W 0 (fun _ => true) true m 37 [v] = some x) : ∃ a n c l, v = .slice a n c ∧ Sl W 1 a n c (u8V l) ∧ ∀ b ∈ l, b ≤ 255 := by
  have key : ∃ a n c, v = .slice a n c := by
    rcases open_ints Try.underlying37 Try.underlying5 (by kernel_rfl) h with ⟨hcs, _⟩ | ⟨a, n, c, _, hcs, _⟩
    · simp at hcs; exact ⟨_, _, _, hcs⟩
    · simp at hcs; exact ⟨_, _, _, hcs⟩
  obtain ⟨a, n, c, rfl⟩ := key
  obtain ⟨l, h1, h2⟩ := bytes_of (W := W) (a := a) (len := n) (cap := c) (d := x.1) (p := x.2) ⟨m, h⟩
  exact ⟨a, n, c, l, rfl, h1, h2⟩

theorem list3 {α : Type} {l : List α} (h : l.length = 3) : ∃ a b c, l = [a, b, c] := by
  match l, h with
  | [a, b, c], _ => exact ⟨a, b, c, rfl⟩
theorem list2 {α : Type} {l : List α} (h : l.length = 2) : ∃ a b, l = [a, b] := by
  match l, h with
  | [a, b], _ => exact ⟨a, b, rfl⟩

def Three (W : World) (v : Value) (b0 b1 b2 : List Nat) : Prop := ∃ A0 n0 c0 A1 n1 c1 A2 n2 c2, v = .agg #[.slice A0 n0 c0, .slice A1 n1 c1, .slice A2 n2 c2] ∧ Sl W 1 A0 n0 c0 (u8V b0) ∧ Sl W 1 A1 n1 c1 (u8V b1) ∧ Sl W 1 A2 n2 c2 (u8V b2)

set_option maxRecDepth 100000 in
theorem a3_of {W : World} {base : Nat} {v : Value} {d : DataW H} {p : List MemPlace} (hval : Value.okWide Try.prog W .any base 52 v) (h : DataW.Trod enc Try.prog W 0 (fun _ => true) true 52 v d p) :
    ∃ b0 b1 b2, Three W v b0 b1 b2 ∧ (∀ b ∈ b0, b ≤ 255) ∧ (∀ b ∈ b1, b ≤ 255) ∧ (∀ b ∈ b2, b ≤ 255) := by
  obtain ⟨fuel, hf⟩ := h
  simp only [Value.okWide, Try.underlying52] at hval
  obtain ⟨cs, rfl, hsz, _⟩ := hval
  have hc : Try.prog.cellsOf 52 = 3 := by kernel_rfl
  have hc22 : Try.prog.cellsOf 37 = 1 := by kernel_rfl
  rw [hc] at hsz
  obtain ⟨xs, m, _, _, _, hxl, hx⟩ := DataW.trod_array Try.underlying52 hf
  obtain ⟨v0, v1, v2, hl⟩ := list3 (show cs.toList.length = 3 by simpa using hsz)
  obtain ⟨x0, x1, x2, rfl⟩ := list3 hxl
  have g0 := hx 0 (by omega)
  have g1 := hx 1 (by omega)
  have g2 := hx 2 (by omega)
  simp [hc22, Value.cells, hl] at g0 g1 g2
  obtain ⟨A0, n0, c0, b0, rfl, s0, t0⟩ := bytes_cell g0
  obtain ⟨A1, n1, c1, b1, rfl, s1, t1⟩ := bytes_cell g1
  obtain ⟨A2, n2, c2, b2, rfl, s2, t2⟩ := bytes_cell g2
  refine ⟨b0, b1, b2, ⟨A0, n0, c0, A1, n1, c1, A2, n2, c2, congrArg Value.agg (Array.ext' hl), s0, s1, s2⟩, t0, t1, t2⟩

def Two (W : World) (v : Value) (b0 b1 : List Nat) : Prop := ∃ A0 n0 c0 A1 n1 c1, v = .agg #[.slice A0 n0 c0, .slice A1 n1 c1] ∧ Sl W 1 A0 n0 c0 (u8V b0) ∧ Sl W 1 A1 n1 c1 (u8V b1)

set_option maxRecDepth 100000 in
theorem a2s_of {W : World} {base : Nat} {v : Value} {d : DataW H} {p : List MemPlace} (hval : Value.okWide Try.prog W .any base 57 v) (h : DataW.Trod enc Try.prog W 0 (fun _ => true) true 57 v d p) :
    ∃ b0 b1, Two W v b0 b1 ∧ (∀ b ∈ b0, b ≤ 255) ∧ (∀ b ∈ b1, b ≤ 255) := by
  obtain ⟨fuel, hf⟩ := h
  simp only [Value.okWide, Try.underlying57] at hval
  obtain ⟨cs, rfl, hsz, _⟩ := hval
  have hc : Try.prog.cellsOf 57 = 2 := by kernel_rfl
  have hc22 : Try.prog.cellsOf 37 = 1 := by kernel_rfl
  rw [hc] at hsz
  obtain ⟨xs, m, _, _, _, hxl, hx⟩ := DataW.trod_array Try.underlying57 hf
  obtain ⟨v0, v1, hl⟩ := list2 (show cs.toList.length = 2 by simpa using hsz)
  obtain ⟨x0, x1, rfl⟩ := list2 hxl
  have g0 := hx 0 (by omega)
  have g1 := hx 1 (by omega)
  simp [hc22, Value.cells, hl] at g0 g1
  obtain ⟨A0, n0, c0, b0, rfl, s0, t0⟩ := bytes_cell g0
  obtain ⟨A1, n1, c1, b1, rfl, s1, t1⟩ := bytes_cell g1
  exact ⟨b0, b1, ⟨A0, n0, c0, A1, n1, c1, congrArg Value.agg (Array.ext' hl), s0, s1⟩, t0, t1⟩
end Go.Proofs.Ytbkadgdhmfolaaa
