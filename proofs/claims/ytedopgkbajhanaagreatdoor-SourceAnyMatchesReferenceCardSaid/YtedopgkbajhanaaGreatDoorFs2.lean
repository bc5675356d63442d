/-
  A law's parameters as they come in: formulas, diagrams.
  Conditions: none.
-/
import Derived.Test.YtedopgkbajhanaaGreatDoorFs
import Derived.Deep.Slices
import Derived.ChangeSame
import Derived.WideShapes
namespace Go.Proofs.YtedopgkbajhanaaGreatDoor
open Go Go.RowKit Go.ChangeShapes

variable {H : Type} {enc : TypeId × Value → H}

theorem lst2 {α : Type} {l : List α} (h : l.length = 2) : ∃ a b, l = [a, b] := by
  match l, h with
  | [a, b], _ => exact ⟨a, b, rfl⟩
theorem lst3 {α : Type} {l : List α} (h : l.length = 3) : ∃ a b c, l = [a, b, c] := by
  match l, h with
  | [a, b, c], _ => exact ⟨a, b, c, rfl⟩
theorem lst4 {α : Type} {l : List α} (h : l.length = 4) : ∃ a b c d, l = [a, b, c, d] := by
  match l, h with
  | [a, b, c, d], _ => exact ⟨a, b, c, d, rfl⟩

/-- A slice of structs of which each is read. -/
theorem sls_of {W : World} {α : Type} {cells : α → List Value} {e : Nat} (hce : ∀ x, (cells x).length = e) (he : 0 < e) {t te : TypeId} {fuel : Nat} {cs : List Value} {z : DataW H × List MemPlace}
    (ht : Tryz.prog.underlying t = some (.slice te)) (hc5 : Tryz.prog.cellsOf te = e) (hin : Inhabited α)
    (one : ∀ (cs : List Value) (fuel : Nat) (D : DataW H × List MemPlace), cs.length = e → DataW.trod enc Tryz.prog W 0 (fun _ => true) true fuel te cs = some D → ∃ y, cells y = cs)
    {a : Option Addr} {len cap : Nat} (hcs : cs = [.slice a len cap]) (hf : DataW.trod enc Tryz.prog W 0 (fun _ => true) true fuel t cs = some z) : ∃ l, SlS cells e W a len cap l := by
  subst hcs
  rcases Go.Deep.open_slice ht hf with ⟨hcs, _⟩ | ⟨x, l, c, m, n, D, Pl, hcs, _, hl, hm, hmm, _, hx⟩
  · simp at hcs
    obtain ⟨rfl, rfl, rfl⟩ := hcs
    exact ⟨[], SlS.nil W⟩
  · simp at hcs
    obtain ⟨rfl, rfl, rfl⟩ := hcs
    simp only [if_true] at hmm
    subst hmm
    have each : ∀ i, i < m → ∃ y : α, ∀ j v, (cells y)[j]? = some v → W.cell? (x.add (i * e + j)) = some v := by
      intro i hi
      obtain ⟨cs, h1, h2⟩ := hx i hi
      rw [hc5] at h1
      obtain ⟨_, hlen, hcell⟩ := World.cells?_some h1
      obtain ⟨y, rfl⟩ := one _ _ _ hlen h2
      refine ⟨y, fun j v hj => ?_⟩
      have hj5 : j < e := by have := (List.getElem?_eq_some_iff.1 hj).1; rw [hce] at this; exact this
      have := hcell j hj5
      rw [add_add] at this
      rw [this]
      exact hj
    obtain ⟨Y, hY⟩ := Go.Deep.choose_lt each
    refine ⟨(List.range len).map Y, ⟨⟨?_, hl, hm, fun _ => ⟨x, rfl, fun j u hu => ?_⟩⟩, by simp⟩⟩
    · rw [flat_length hce]; simp
    · have hjl := (List.getElem?_eq_some_iff.1 hu).1
      rw [flat_length hce] at hjl
      simp at hjl
      have hi : j / e < len := Nat.div_lt_of_lt_mul (by rw [Nat.mul_comm]; exact hjl)
      have hr : j % e < e := Nat.mod_lt _ he
      have hdm : j / e * e + j % e = j := by rw [Nat.mul_comm]; exact Nat.div_add_mod j e
      have hg : ((List.range len).map Y)[j / e]? = some (Y (j / e)) := by simp [hi]
      have hc := List.getElem?_eq_getElem (l := cells (Y (j / e))) (i := j % e) (by rw [hce]; exact hr)
      have h1 := flat_get hce _ _ _ _ _ hg hc
      rw [hdm, hu] at h1
      have h2 := hY (j / e) (Nat.lt_of_lt_of_le hi hl) _ _ hc
      rw [hdm] at h2
      rw [h2, ← Option.some.inj h1]

theorem br_one {W : World} (cs : List Value) (fuel : Nat) (D : DataW H × List MemPlace) (hl : cs.length = 3) (h : DataW.trod enc Tryz.prog W 0 (fun _ => true) true fuel 116 cs = some D) : ∃ y : Br, y.cells = cs := by
  have hc3 : Tryz.prog.cellsOf 3 = 1 := by kernel_rfl
  obtain ⟨xs, k, _, _, _, hxl, hfl⟩ := DataW.trod_struct Tryz.underlying116 h
  obtain ⟨y0, y1, y2, rfl⟩ := lst3 (show xs.length = 3 from hxl)
  obtain ⟨v0, v1, v2, rfl⟩ := lst3 hl
  have g0 := hfl 0 _ rfl
  have g1 := hfl 1 _ rfl
  have g2 := hfl 2 _ rfl
  simp [hc3] at g0 g1 g2
  obtain ⟨n0, e0, _, _⟩ := DataW.trod_int Tryz.underlying3 g0
  obtain ⟨n1, e1, _, _⟩ := DataW.trod_int Tryz.underlying3 g1
  obtain ⟨n2, e2, _, _⟩ := DataW.trod_int Tryz.underlying3 g2
  simp at e0 e1 e2
  subst e0 e1 e2
  exact ⟨⟨n0, n1, n2⟩, rfl⟩
theorem fz_one {W : World} (cs : List Value) (fuel : Nat) (D : DataW H × List MemPlace) (hl : cs.length = 4) (h : DataW.trod enc Tryz.prog W 0 (fun _ => true) true fuel 205 cs = some D) : ∃ y : Fz, y.cells = cs := by
  have hc3 : Tryz.prog.cellsOf 3 = 1 := by kernel_rfl
  obtain ⟨xs, k, _, _, _, hxl, hfl⟩ := DataW.trod_struct Tryz.underlying205 h
  obtain ⟨y0, y1, y2, y3, rfl⟩ := lst4 (show xs.length = 4 from hxl)
  obtain ⟨v0, v1, v2, v3, rfl⟩ := lst4 hl
  have g0 := hfl 0 _ rfl
  have g1 := hfl 1 _ rfl
  have g2 := hfl 2 _ rfl
  have g3 := hfl 3 _ rfl
  simp [hc3] at g0 g1 g2 g3
  obtain ⟨n0, e0, _, _⟩ := DataW.trod_int Tryz.underlying3 g0
  obtain ⟨n1, e1, _, _⟩ := DataW.trod_int Tryz.underlying3 g1
  obtain ⟨n2, e2, _, _⟩ := DataW.trod_int Tryz.underlying3 g2
  obtain ⟨n3, e3, _, _⟩ := DataW.trod_int Tryz.underlying3 g3
  simp at e0 e1 e2 e3
  subst e0 e1 e2 e3
  exact ⟨⟨n0, n1, n2, n3⟩, rfl⟩
theorem nodes_of {W : World} {a : Option Addr} {len cap : Nat} {d : DataW H} {p : List MemPlace} (h : DataW.Trod enc Tryz.prog W 0 (fun _ => true) true 77 (.slice a len cap) d p) : ∃ l, SF W a len cap l := by
  obtain ⟨fuel, hf⟩ := h
  exact sls_of fz_len (by decide) Tryz.underlying77 (by kernel_rfl) ⟨⟨0, 0, 0, 0⟩⟩ fz_one rfl hf

set_option maxRecDepth 100000 in
theorem dia_of {W : World} {base : Nat} {v : Value} {d : DataW H} {p : List MemPlace} (hval : Value.okWide Tryz.prog W .any base 42 v) (h : DataW.Trod enc Tryz.prog W 0 (fun _ => true) true 42 v d p) :
    ∃ A n c nd r, v = dgV A n c r ∧ SB W A n c nd := by
  obtain ⟨fuel, hf⟩ := h
  obtain ⟨cs, rfl, hsz⟩ := Go.WideShapes.okWide_struct Tryz.underlying42 hval
  have hc : Tryz.prog.cellsOf 42 = 2 := by kernel_rfl
  have hc3 : Tryz.prog.cellsOf 3 = 1 := by kernel_rfl
  have hcb : Tryz.prog.cellsOf 40 = 1 := by kernel_rfl
  rw [hc] at hsz
  obtain ⟨xs, m, _, _, _, hxl, hfl⟩ := DataW.trod_struct Tryz.underlying42 hf
  obtain ⟨v0, v1, hl⟩ := lst2 (show cs.toList.length = 2 by simpa using hsz)
  obtain ⟨y0, y1, rfl⟩ := lst2 (show xs.length = 2 from hxl)
  have g0 := hfl 0 _ rfl
  have g1 := hfl 1 _ rfl
  simp [hc3, hcb, Value.cells, hl] at g0 g1
  obtain ⟨n1, e1, _, _⟩ := DataW.trod_int Tryz.underlying3 g1
  simp at e1
  have key : ∃ a n c, v0 = .slice a n c := by
    rcases Go.Deep.open_slice Tryz.underlying40 g0 with ⟨hcs, _⟩ | ⟨x, l, c, m, n, D, Pl, hcs, _⟩
    · simp at hcs; exact ⟨_, _, _, hcs⟩
    · simp at hcs; exact ⟨_, _, _, hcs⟩
  obtain ⟨a, n, c, rfl⟩ := key
  obtain ⟨l, hS⟩ := sls_of br_len (by decide) Tryz.underlying40 (by kernel_rfl) ⟨⟨0, 0, 0⟩⟩ br_one rfl g0
  subst e1
  exact ⟨a, n, c, l, n1, congrArg Value.agg (Array.ext' hl), hS⟩
end Go.Proofs.YtedopgkbajhanaaGreatDoor
