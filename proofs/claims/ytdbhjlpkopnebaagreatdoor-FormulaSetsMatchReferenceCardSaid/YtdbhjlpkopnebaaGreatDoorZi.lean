/-
  A law's parameter as it comes in: numbers from which formulas and sets are made.
  Conditions: none.
-/
import Derived.Test.YtdbhjlpkopnebaaGreatDoorZc
import Derived.Test.YtdbhjlpkopnebaaGreatDoorFs2
namespace Go.Proofs.YtdbhjlpkopnebaaGreatDoor
open Go Go.RowKit Go.ChangeShapes

variable {H : Type} {enc : TypeId × Value → H}
theorem lst5 {α : Type} {l : List α} (h : l.length = 5) : ∃ a b c d e, l = [a, b, c, d, e] := by
  match l, h with
  | [a, b, c, d, e], _ => exact ⟨a, b, c, d, e, rfl⟩
theorem u8s_cell {W : World} {v : Value} {m : Nat} {x : DataW H × List MemPlace} (h : DataW.trod enc Tryz.prog W 0 (fun _ => true) true m 22 [v] = some x) : ∃ a n c l, v = .slice a n c ∧ Sl W 1 a n c (bytesV l) ∧ ∀ b ∈ l, b ≤ 255 := by
  have key : ∃ a n c, v = .slice a n c := by
    rcases Go.Deep.open_slice Tryz.underlying22 h with ⟨hcs, _⟩ | ⟨x, l, c, m, n, D, Pl, hcs, _⟩
    · simp at hcs; exact ⟨_, _, _, hcs⟩
    · simp at hcs; exact ⟨_, _, _, hcs⟩
  obtain ⟨a, n, c, rfl⟩ := key
  obtain ⟨l, h1, h2⟩ := u8s_of (W := W) (a := a) (len := n) (cap := c) (d := x.1) (p := x.2) ⟨m, h⟩
  exact ⟨a, n, c, l, rfl, h1, h2⟩
theorem u8_cell {W : World} {v : Value} {m : Nat} {x : DataW H × List MemPlace} (h : DataW.trod enc Tryz.prog W 0 (fun _ => true) true m 5 [v] = some x) : ∃ n : Nat, v = .int .u8 n ∧ n ≤ 255 := by
  obtain ⟨n, e, _, hw⟩ := DataW.trod_int Tryz.underlying5 h
  simp at e
  obtain ⟨k, rfl, hk⟩ := u8_of hw
  exact ⟨k, e, hk⟩
set_option maxRecDepth 100000 in
theorem inp_of {W : World} {base : Nat} {v : Value} {d : DataW H} {p : List MemPlace} (hval : Value.okWide Tryz.prog W .any base 24 v) (h : DataW.Trod enc Tryz.prog W 0 (fun _ => true) true 24 v d p) :
    ∃ L LA ln lc M MA mn mc N T TA tn tc K, v = inpV LA ln lc MA mn mc N TA tn tc K ∧ InpOk W L LA ln lc M MA mn mc T TA tn tc ∧ N ≤ 255 ∧ K ≤ 255 := by
  obtain ⟨fuel, hf⟩ := h
  obtain ⟨cs, rfl, hsz⟩ := Go.WideShapes.okWide_struct Tryz.underlying24 hval
  have hc : Tryz.prog.cellsOf 24 = 5 := by kernel_rfl
  have hc3 : Tryz.prog.cellsOf 5 = 1 := by kernel_rfl
  have hcb : Tryz.prog.cellsOf 22 = 1 := by kernel_rfl
  rw [hc] at hsz
  obtain ⟨xs, m, _, _, _, hxl, hfl⟩ := DataW.trod_struct Tryz.underlying24 hf
  obtain ⟨v0, v1, v2, v3, v4, hl⟩ := lst5 (show cs.toList.length = 5 by simpa using hsz)
  obtain ⟨y0, y1, y2, y3, y4, rfl⟩ := lst5 (show xs.length = 5 from hxl)
  have g0 := hfl 0 _ rfl
  have g1 := hfl 1 _ rfl
  have g2 := hfl 2 _ rfl
  have g3 := hfl 3 _ rfl
  have g4 := hfl 4 _ rfl
  simp [hc3, hcb, Value.cells, hl] at g0 g1 g2 g3 g4
  obtain ⟨LA, ln, lc, L, rfl, sL, bL⟩ := u8s_cell g0
  obtain ⟨MA, mn, mc, M, rfl, sM, bM⟩ := u8s_cell g1
  obtain ⟨N, rfl, hN⟩ := u8_cell g2
  obtain ⟨TA, tn, tc, T, rfl, sT, bT⟩ := u8s_cell g3
  obtain ⟨K, rfl, hK⟩ := u8_cell g4
  exact ⟨L, LA, ln, lc, M, MA, mn, mc, N, T, TA, tn, tc, K, congrArg Value.agg (Array.ext' hl), ⟨sL, sM, sT, bL, bM, bT⟩, hN, hK⟩
end Go.Proofs.YtdbhjlpkopnebaaGreatDoor
