/-
  How a law's walk is handed to its row: slices of limbs as they come in, and the law's own answer.
  Conditions: none.
-/
import Derived.Test.YtpalpikenkkhlaaT11
import Derived.ProofKit
namespace Go.Proofs.Ytpalpikenkkhlaa
open Go Go.RowKit

/-- What came in as a slice of limbs reads as limbs. -/
theorem limbs_of_row {w : World} {a : Option Addr} {len cap : Nat} {zs : List Int}
    (h : (a = none ∧ len = 0 ∧ cap = 0 ∧ zs = []) ∨ ∃ x, a = some x ∧ len ≤ cap ∧ cap ≤ maxLen ∧ zs.length = cap ∧ (∀ i, i < zs.length → w.cell? (x.add i) = some (.int .u32 (zs.getD i 0))) ∧ ∀ n ∈ zs, (Lit.int .u32 n).wf = true) :
    ∃ l, SN w a len cap l ∧ Limbs l := by
  rcases h with ⟨rfl, rfl, rfl, rfl⟩ | ⟨x, rfl, hl, hm, hz, hc, hw⟩
  · exact ⟨[], Sl.nil w 1, limbs_nil⟩
  · have hr : ∀ n ∈ zs, 0 ≤ n ∧ n < 4294967296 := fun n hn => by
      have := hw n hn
      simp [Lit.wf, IntKind.min, IntKind.max, IntKind.signed, IntKind.bits] at this
      omega
    refine ⟨(zs.take len).map Int.toNat, ⟨by simp [cells]; omega, hl, hm, fun _ => ⟨x, rfl, fun j u hu => ?_⟩⟩, ?_⟩
    · obtain ⟨y, hy, rfl⟩ := cells_get hu
      rw [List.getElem?_map, List.getElem?_take] at hy
      split at hy
      · rename_i hj
        have hjz : j < zs.length := by omega
        rw [List.getElem?_eq_getElem hjz] at hy
        simp at hy
        have h1 := hc j hjz
        have h2 := hr zs[j] (List.getElem_mem hjz)
        rw [h1]
        have : zs.getD j 0 = zs[j] := by simp [hjz]
        rw [this]; congr 2; omega
      · simp at hy
    · intro y hy
      simp only [List.mem_map] at hy
      obtain ⟨z, hz1, rfl⟩ := hy
      have := hr z (List.mem_of_mem_take hz1)
      omega

/-- A law's walk, as the row asks it. -/
theorem law_of {P : Program} {f : FuncId} {l : List Value} {w : World} (h : Fn P f l w (fun v w' => v = .bool true ∧ Ext w w')) :
    Calls P f l.toArray w fun e w' => e = .returned (.bool true) ∧ Below w.heap.size w w' := by
  unfold Fn at h
  exact h.mono fun e w' he => by
    cases e with
    | returned v => exact ⟨by rw [he.1], he.2.below⟩
    | panicked ch => exact he.elim
    | outgrown => exact he.elim

theorem natTextMatches_law (A : Option Addr) (n c : Nat) (a : List Nat) (s : ByteArray) (w : World) (ha : SN w A n c a) (hLa : Limbs a) (hs : s.size ≤ maxLen) :
    Fn Try.prog 3 [.slice A n c, .string s] w (fun v w' => v = .bool true ∧ Ext w w') := by
  refine fn_of_exec (c := { c3 with cuts := [2] }) gx_ok Try.func3 rfl rfl rfl ?_
  refine call (sanity_fn w) ?_
  rintro v w1 ⟨rfl, hE1⟩
  refine cut gx_ok [] (fun _ : Unit => []) (fun _ w2 => w2 = w1) ?_ ?_
  · refine wif_d (fun h => ?_) (fun h => ?_)
    · exact And.intro rfl hE1
    · refine wif_d (fun h => ?_) (fun h => ?_)
      · exact And.intro rfl hE1
      · exact ⟨(), rfl, rfl⟩
  rintro _ w2 rfl
  refine call (parse_fn _ _ hs) ?_
  rintro v w3 ⟨A3, c3, rfl, hs3, hE3⟩
  refine call (rparse_fn _ _ hs) ?_
  rintro v w4 ⟨A4, c4, rfl, hs4, hE4⟩
  have ha4 := ((ha.ext hE1).ext hE3).ext hE4
  refine call (text_fn _ _ _ _ _ ha4 hLa) ?_
  rintro v w5 ⟨rfl, hE5⟩
  refine call (rtext_fn _ _ _ _ _ (ha4.ext hE5) hLa) ?_
  rintro v w6 ⟨rfl, hE6⟩
  refine wif_dt rfl ?_
  have hE46 := hE5.trans hE6
  refine call (same_fn _ _ _ _ _ _ _ _ _ ((hs3.ext hE4).ext hE46) (hs4.ext hE46)) ?_
  rintro v w7 ⟨rfl, hE7⟩
  refine wif_dt rfl ?_
  refine wif_eqt rfl ?_
  exact And.intro rfl (hE1.trans (hE3.trans (hE4.trans (hE46.trans hE7))))
end Go.Proofs.Ytpalpikenkkhlaa
