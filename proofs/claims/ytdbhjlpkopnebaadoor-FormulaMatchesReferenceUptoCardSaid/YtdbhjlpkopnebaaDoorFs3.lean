/-
  For the second form: how long the names are, out of the bulk; a witness for a row that lists pinned tables.
  Conditions: none.
-/
import Derived.Test.YtdbhjlpkopnebaaDoorFs2
import Derived.Test.YtdbhjlpkopnebaaDoorRows
import Derived.Deep.DeepHandedRow
import Derived.LaidLaws
namespace Go.Proofs.YtdbhjlpkopnebaaDoor
open Go Go.RowKit Go.ChangeShapes

variable {H : Type} {enc : TypeId × Value → H}

theorem bulk_part {d : DataW H} {l : List (DataW H)} (h : d ∈ l) : Rows.uptoBulk d ≤ Rows.uptoBulkAll l := by
  induction l with
  | nil => cases h
  | cons x r ih =>
    simp only [Rows.uptoBulkAll]
    rcases List.mem_cons.1 h with e | e
    · subst e; omega
    · have := ih e; omega
theorem upto_of {l : List (DataW H)} (hk : Rows.uptoSmall H l = true) {d : DataW H} (h : d ∈ l) : Rows.uptoBulk d ≤ 1048576 := by
  have h1 : Rows.uptoBulkAll l ≤ 1048576 := of_decide_eq_true hk
  exact Nat.le_trans (bulk_part h) h1

theorem strsU_of {W : World} {a : Option Addr} {len cap : Nat} {d : DataW H} {p : List MemPlace} (h : DataW.Trod enc Tryd.prog W 0 (fun _ => true) true 22 (.slice a len cap) d p) : ∃ l, Sl W 1 a len cap (strsV l) ∧ NamesOk l ∧ ∀ s ∈ l, s.length ≤ Rows.uptoBulk d := by
  obtain ⟨fuel, hf⟩ := h
  rcases Go.Deep.open_slice Tryd.underlying22 hf with ⟨hcs, _⟩ | ⟨x, l, c, m, n, D, Pl, hcs, _, hl, hm, hmm, hde, hx⟩
  · simp [Value.cells] at hcs
    obtain ⟨rfl, rfl, rfl⟩ := hcs
    exact ⟨[], Sl.nil W 1, (fun s hs => by cases hs), fun s hs => by cases hs⟩
  · simp [Value.cells] at hcs
    obtain ⟨rfl, rfl, rfl⟩ := hcs
    simp only [if_true] at hmm
    subst hmm
    have hc9 : Tryd.prog.cellsOf 9 = 1 := by kernel_rfl
    have each : ∀ i, i < m → ∃ y : ByteArray, (y.size ≤ maxLen ∧ y.size ≤ Rows.uptoBulk (D i)) ∧ W.cell? (x.add i) = some (.string y) := by
      intro i hi
      obtain ⟨cs, h1, h2⟩ := hx i hi
      rw [hc9] at h1
      obtain ⟨_, hlen, hcell⟩ := World.cells?_some h1
      match cs, hlen with
      | [v], _ =>
        obtain ⟨s, e1, z1, hs1⟩ := DataW.trod_string Tryd.underlying9 h2
        simp at e1
        subst e1
        have hb1 : s.size ≤ Rows.uptoBulk (D i) := by
          rw [show D i = _ from congrArg Prod.fst z1]
          simp only [Rows.uptoBulk]
          have e : s.data.toList.length = s.size := by rw [Array.length_toList]; rfl
          omega
        refine ⟨s, ⟨hs1, hb1⟩, ?_⟩
        have := hcell 0 (by decide)
        rw [Nat.mul_one] at this
        simpa [add_add] using this
    have hin : Inhabited ByteArray := ⟨⟨#[]⟩⟩
    obtain ⟨Y, hY⟩ := Go.Deep.choose_lt each
    refine ⟨(List.range len).map (fun i => bytesOf (Y i)), ⟨by simp [strsV], hl, hm, fun _ => ⟨x, rfl, fun j u hu => ?_⟩⟩, fun y hy => ?_, fun y hy => ?_⟩
    · simp only [strsV, List.map_map, List.getElem?_map, Option.map_eq_some_iff] at hu
      obtain ⟨k, hk, rfl⟩ := hu
      have hj := (List.getElem?_eq_some_iff.1 hk).1
      simp at hj
      have : k = j := by rw [List.getElem?_range hj] at hk; exact (Option.some.inj hk).symm
      subst this
      rw [(hY k (by omega)).2]
      simp [strOf_bytesOf]
    · simp only [List.mem_map, List.mem_range] at hy
      obtain ⟨i, hi, rfl⟩ := hy
      have := (hY i (by omega)).1.1
      exact ⟨bytesOf_lt _, by rw [bytesOf_length]; simpa [maxLen] using this⟩
    · simp only [List.mem_map, List.mem_range] at hy
      obtain ⟨i, hi, rfl⟩ := hy
      have h1 := (hY i (by omega)).1.2
      have h2 := bulk_part (H := H) (d := D i) (l := (List.range len).map D) (List.mem_map.2 ⟨i, List.mem_range.2 hi, rfl⟩)
      have hdd := (Prod.mk.injEq _ _ _ _ ▸ hde).1
      rw [hdd, bytesOf_length]
      simp only [Rows.uptoBulk]
      omega

/-- There is an input that fits, at a world that is shaped. -/
theorem witness_row_shaped {C : Checked} {os : Os} {f : FuncId} {fn : Func} {s : OpenSpec} {conds : List PathCond} {apart : Bool} {laid : List (String × DataW Unit)} (modest : Bool) (w0 : World) (args : Array Value) (hos : w0.os = os)
    (hsh : (w0.forCall (fun _ _ => 0) ⟨#[], args, []⟩).Shaped C.prog)
    (hok : Input.okWideB C.prog (w0.forCall (fun _ _ => 0) ⟨#[], args, []⟩) f ⟨#[], args, []⟩ = true)
    (hrow : s.preRow enc C.prog fn conds apart laid (w0.forCall (fun _ _ => 0) ⟨#[], args, []⟩).memory args) :
    ∃ (w : World) (tape : Tape) (i : Input), w.os = os ∧ (w.forCall tape i).Shaped C.prog ∧ i.vars = [] ∧ Input.okWide C.prog (w.forCall tape i) .any w.heap.size f i ∧
      s.preRow enc C.prog fn conds apart laid (w.forCall tape i).memory i.args ∧ ({ modest := modest } : Assume).holds C.prog (lone (Frame.enter C.prog f i.args .normal) [] (w.forCall tape i)) :=
  ⟨w0, fun _ _ => 0, ⟨#[], args, []⟩, hos, hsh, (Input.okWide_of_okWideB (base := 0) hok).1, (Input.okWide_of_okWideB hok).2, hrow, by
    simp only [Assume.holds]
    exact ⟨by simp, by simp, fun _ => Modest.zero, by simp, by simp⟩⟩
end Go.Proofs.YtdbhjlpkopnebaaDoor
