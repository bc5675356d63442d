/-
  A law's parameters as they come in: strings, bytes, numbers, slices of them, nodes, diagrams.
  Conditions: none.
-/
import Derived.Test.YtdbhjlpkopnebaaDoorFacts
import Derived.Test.YtdbhjlpkopnebaaDoorKj
import Derived.Deep.Grids
import Derived.WalkKit
import Derived.Below
import Derived.ProofKit
import Derived.OpenShut
import Derived.ShutString
import Derived.ChangeOld
namespace Go.Proofs.YtdbhjlpkopnebaaDoor
open Go Go.RowKit Go.ChangeShapes

variable {H : Type} {enc : TypeId × Value → H}

theorem law_of {P : Program} {f : FuncId} {l : List Value} {w : World} (h : Fn P f l w (fun v w' => v = .bool true ∧ Ext w w')) :
    Calls P f l.toArray w fun e w' => e = .returned (.bool true) ∧ Below w.heap.size w w' := by
  unfold Fn at h
  exact h.mono fun e w' he => by
    cases e with
    | returned v => exact ⟨by rw [he.1], he.2.below⟩
    | panicked ch => exact he.elim
    | outgrown => exact he.elim

theorem strs_of {W : World} {a : Option Addr} {len cap : Nat} {d : DataW H} {p : List MemPlace} (h : DataW.Trod enc Tryd.prog W 0 (fun _ => true) true 22 (.slice a len cap) d p) : ∃ l, Sl W 1 a len cap (strsV l) ∧ NamesOk l := by
  obtain ⟨fuel, hf⟩ := h
  rcases Go.Deep.open_slice Tryd.underlying22 hf with ⟨hcs, _⟩ | ⟨x, l, c, m, n, D, Pl, hcs, _, hl, hm, hmm, _, hx⟩
  · simp [Value.cells] at hcs
    obtain ⟨rfl, rfl, rfl⟩ := hcs
    exact ⟨[], Sl.nil W 1, fun s hs => by cases hs⟩
  · simp [Value.cells] at hcs
    obtain ⟨rfl, rfl, rfl⟩ := hcs
    simp only [if_true] at hmm
    subst hmm
    have hc9 : Tryd.prog.cellsOf 9 = 1 := by kernel_rfl
    have each : ∀ i, i < m → ∃ y : ByteArray, y.size ≤ maxLen ∧ W.cell? (x.add i) = some (.string y) := by
      intro i hi
      obtain ⟨cs, h1, h2⟩ := hx i hi
      rw [hc9] at h1
      obtain ⟨_, hlen, hcell⟩ := World.cells?_some h1
      match cs, hlen with
      | [v], _ =>
        obtain ⟨s, e1, _, hs1⟩ := DataW.trod_string Tryd.underlying9 h2
        simp at e1
        subst e1
        refine ⟨s, hs1, ?_⟩
        have := hcell 0 (by decide)
        rw [Nat.mul_one] at this
        simpa [add_add] using this
    have hin : Inhabited ByteArray := ⟨⟨#[]⟩⟩
    obtain ⟨Y, hY⟩ := Go.Deep.choose_lt each
    refine ⟨(List.range len).map (fun i => bytesOf (Y i)), ⟨by simp [strsV], hl, hm, fun _ => ⟨x, rfl, fun j u hu => ?_⟩⟩, ?_⟩
    · simp only [strsV, List.map_map, List.getElem?_map, Option.map_eq_some_iff] at hu
      obtain ⟨k, hk, rfl⟩ := hu
      have hj := (List.getElem?_eq_some_iff.1 hk).1
      simp at hj
      have : k = j := by rw [List.getElem?_range hj] at hk; exact (Option.some.inj hk).symm
      subst this
      rw [(hY k (by omega)).2]
      simp [strOf_bytesOf]
    · intro y hy
      simp only [List.mem_map, List.mem_range] at hy
      obtain ⟨i, hi, rfl⟩ := hy
      have := (hY i (by omega)).1
      exact ⟨bytesOf_lt _, by rw [bytesOf_length]; simpa [maxLen] using this⟩
end Go.Proofs.YtdbhjlpkopnebaaDoor
