/-
  A law's parameters as they come in: strings, bytes, numbers, slices of them, nodes, diagrams.
  Conditions: none.
-/
import Derived.Test.YtedopgkbajhanaaGreatDoorFacts
import Derived.Test.YtedopgkbajhanaaGreatDoorKj
import Derived.Deep.Grids
import Derived.WalkKit
import Derived.Below
import Derived.ProofKit
import Derived.OpenShut
import Derived.ShutString
import Derived.ChangeOld
namespace Go.Proofs.YtedopgkbajhanaaGreatDoor
open Go Go.RowKit Go.ChangeShapes

variable {H : Type} {enc : TypeId × Value → H}

theorem law_of {P : Program} {f : FuncId} {l : List Value} {w : World} (h : Fn P f l w (fun v w' => v = .bool true ∧ Ext w w')) :
    Calls P f l.toArray w fun e w' => e = .returned (.bool true) ∧ Below w.heap.size w w' := by
  unfold Fn at h
  exact h.mono fun e w' he => by
    cases e with
    | returned v => exact ⟨by rw [he.1], he.2.below⟩
    | panicked ch => exact he.elim
    | outgrown => exact he.elim

theorem strs_of {W : World} {a : Option Addr} {len cap : Nat} {d : DataW H} {p : List MemPlace} (h : DataW.Trod enc Tryz.prog W 0 (fun _ => true) true 24 (.slice a len cap) d p) : ∃ l, Sl W 1 a len cap (strsV l) ∧ NamesOk l := by
  obtain ⟨fuel, hf⟩ := h
  rcases Go.Deep.open_slice Tryz.underlying24 hf with ⟨hcs, _⟩ | ⟨x, l, c, m, n, D, Pl, hcs, _, hl, hm, hmm, _, hx⟩
  · simp [Value.cells] at hcs
    obtain ⟨rfl, rfl, rfl⟩ := hcs
    exact ⟨[], Sl.nil W 1, fun s hs => by cases hs⟩
  · simp [Value.cells] at hcs
    obtain ⟨rfl, rfl, rfl⟩ := hcs
    simp only [if_true] at hmm
    subst hmm
    have hc9 : Tryz.prog.cellsOf 9 = 1 := by kernel_rfl
    have each : ∀ i, i < m → ∃ y : ByteArray, y.size ≤ maxLen ∧ W.cell? (x.add i) = some (.string y) := by
      intro i hi
      obtain ⟨cs, h1, h2⟩ := hx i hi
      rw [hc9] at h1
      obtain ⟨_, hlen, hcell⟩ := World.cells?_some h1
      match cs, hlen with
      | [v], _ =>
        obtain ⟨s, e1, _, hs1⟩ := DataW.trod_string Tryz.underlying9 h2
        simp at e1
        subst e1
        refine ⟨s, hs1, ?_⟩
        have := hcell 0 (by decide)
        rw [Nat.mul_one] at this
        simpa [add_add] using this
    have hin : Inhabited ByteArray := ⟨⟨#[]⟩⟩
    obtain ⟨Y, hY⟩ := Go.Deep.choose_lt each
    refine ⟨(List.range len).map (fun i => bytesOf (Y i)), ⟨by simp [strsV], hl, hm, fun _ => ⟨x, rfl, fun j u hu => ?_⟩⟩, ?_⟩
    · simp only [strsV, List.map_map, List.getElem?_map, Option.map_eq_some_iff] at hu
      obtain ⟨k, hk, rfl⟩ := hu
      have hj := (List.getElem?_eq_some_iff.1 hk).1
      simp at hj
      have : k = j := by rw [List.getElem?_range hj] at hk; exact (Option.some.inj hk).symm
      subst this
      rw [(hY k (by omega)).2]
      simp [strOf_bytesOf]
    · intro y hy
      simp only [List.mem_map, List.mem_range] at hy
      obtain ⟨i, hi, rfl⟩ := hy
      have := (hY i (by omega)).1
      exact ⟨bytesOf_lt _, by rw [bytesOf_length]; simpa [maxLen] using this⟩

theorem u8s_of {W : World} {a : Option Addr} {len cap : Nat} {d : DataW H} {p : List MemPlace} (h : DataW.Trod enc Tryz.prog W 0 (fun _ => true) true 74 (.slice a len cap) d p) : ∃ l, Sl W 1 a len cap (bytesV l) ∧ ∀ b ∈ l, b ≤ 255 := by
  obtain ⟨fuel, hf⟩ := h
  rcases open_ints Tryz.underlying74 Tryz.underlying5 (by kernel_rfl) hf with ⟨hcs, _⟩ | ⟨x, l, c, zs, hcs, _, hl, hm, hz, _, hcell, hwz⟩
  · simp [Value.cells] at hcs
    obtain ⟨rfl, rfl, rfl⟩ := hcs
    exact ⟨[], Sl.nil W 1, by simp⟩
  · simp [Value.cells] at hcs
    obtain ⟨rfl, rfl, rfl⟩ := hcs
    simp at hz
    have hr : ∀ n ∈ zs, 0 ≤ n ∧ n ≤ 255 := fun n hn => by
      have := hwz n hn
      simp [Lit.wf, IntKind.min, IntKind.max, IntKind.signed, IntKind.bits] at this
      omega
    refine ⟨(zs.take len).map Int.toNat, ⟨by simp [bytesV]; omega, hl, hm, fun _ => ⟨x, rfl, fun j u hu => ?_⟩⟩, ?_⟩
    · simp only [bytesV, List.map_map, List.getElem?_map, Option.map_eq_some_iff] at hu
      obtain ⟨y, hy, rfl⟩ := hu
      rw [List.getElem?_take] at hy
      split at hy
      · rename_i hj
        have hjz : j < zs.length := by omega
        rw [List.getElem?_eq_getElem hjz] at hy
        cases hy
        have h2 := hr zs[j] (List.getElem_mem hjz)
        rw [hcell j hjz]
        have : zs.getD j 0 = zs[j] := by simp [hjz]
        rw [this]
        show some (Value.int .u8 _) = some (Value.int .u8 ((zs[j].toNat : Nat) : Int))
        congr 2; omega
      · cases hy
    · intro y hy
      simp only [List.mem_map] at hy
      obtain ⟨z, hz1, rfl⟩ := hy
      have := hr z (List.mem_of_mem_take hz1)
      omega

theorem u8_of {a : Int} (w : (Lit.int .u8 a).wf = true) : ∃ n : Nat, a = n ∧ n ≤ 255 := by
  simp [Lit.wf, IntKind.min, IntKind.max, IntKind.signed, IntKind.bits] at w
  exact ⟨a.toNat, by omega, by omega⟩
theorem u64_of {a : Int} (w : (Lit.int .u64 a).wf = true) : ∃ n : Nat, a = n ∧ n ≤ 18446744073709551615 := by
  simp [Lit.wf, IntKind.min, IntKind.max, IntKind.signed, IntKind.bits] at w
  exact ⟨a.toNat, by omega, by omega⟩
theorem i64_of {a : Int} (w : (Lit.int .i64 a).wf = true) : -9223372036854775808 ≤ a ∧ a ≤ 9223372036854775807 := by
  simp [Lit.wf, IntKind.min, IntKind.max, IntKind.signed, IntKind.bits] at w
  omega
end Go.Proofs.YtedopgkbajhanaaGreatDoor
