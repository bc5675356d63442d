/-
  The law Size: the walk.
  Conditions: none.
-/
import Derived.Test.YtgaggbmoimablaaLa
namespace Go.Proofs.Ytgaggbmoimablaa
open Go Go.RowKit

/-- The chain of hard line breaks. -/
def chn : Nat → List Nd
  | 0 => leafD 0 ⟨#[120]⟩
  | i + 1 => seqD (chn i) (leafD 2 ⟨#[]⟩)
def chT : Nat → Dt
  | 0 => .text [120]
  | i + 1 => .seq (chT i) .hard
theorem chn_len : ∀ i, (chn i).length = 2 * i + 1
  | 0 => rfl
  | i + 1 => by rw [chn, seq_len, chn_len i]; simp only [leafD, List.length_singleton]; omega
theorem chn_rep : ∀ i, 2 * i + 1 ≤ 65536 → Rep (chn i) (chT i)
  | 0, _ => Rep.leaf (.inl rfl) (by decide) (by decide) (.inr (.inl rfl)) rfl
  | i + 1, h => (chn_rep i (by omega)).seq (Rep.leaf (.inr (.inr rfl)) (by decide) (by decide) (.inl rfl) rfl) (by rw [chn_len]; simp [leafD]; omega)
theorem chn_succ (i : Nat) : chn (i + 1) = chn i ++ [⟨2, ⟨#[]⟩, 0, 0, 0⟩] ++ [⟨3, ⟨#[]⟩, 0, ((2 * i + 1 : Nat) : Int) - 1, ((2 * i + 1 : Nat) : Int)⟩] := by
  rw [chn, seqD, joinD, chn_len]
  have e : (leafD 2 ⟨#[]⟩).map (shiftN (2 * i + 1)) = [⟨2, ⟨#[]⟩, 0, 0, 0⟩] := by
    simp [leafD, shiftN, arI]
  rw [e]
  congr 2
  simp [leafD]

theorem size_law (k : Nat) (w : World) (hk : k ≤ 255) :
    Fn Try.prog 5 [.int .u8 k] w (fun v w' => v = .bool true ∧ Ext w w') := by
  refine fn_of_exec (c := { c5 with cuts := [7] }) gx_ok Try.func5 rfl rfl rfl ?_
  refine call (sanity_fn w) ?_
  rintro v w1 ⟨rfl, hE1⟩
  refine norm_i64_to ((k : Nat) : Int) rfl (by omega) ?_
  refine rem_c 8 rfl (by decide) ?_
  have hq : k % 8 < 8 := Nat.mod_lt _ (by decide)
  generalize k % 8 = q at hq
  obtain ⟨N, hN⟩ : ∃ N, N = 65533 + q := ⟨_, rfl⟩
  refine norm_i64_to ((N : Nat) : Int) (by omega) (by omega) ?_
  refine at_buildN gx_ok [(⟨0, ⟨#[120]⟩, 0, 0, 0⟩ : Nd).cells] rfl rfl rfl rfl rfl ⟨rfl, rfl, ⟨⟩⟩ rfl (fun cs h => by simp only [List.mem_singleton] at h; subst h; rfl) rfl (by decide) (by decide) ?_
  intro w2 hE2 hsz2 hB2
  have hO2 : Own w2 w.heap.size 42 5 (some ⟨w1.heap.size, 0, none⟩) 1 1 ((chn 0).flatMap Nd.cells) := Own.ofN (n := 1) (sz := 5) hB2 hE1.size rfl (by simp [maxLen])
  refine loop gx_ok [5] (fun s : Option Addr × Nat × Nat × Nat => [.slice s.1 s.2.2.1 s.2.1]) (fun s w' => Ext w w' ∧ Own w' w.heap.size 42 5 s.1 s.2.2.1 s.2.1 ((chn s.2.2.2).flatMap Nd.cells) ∧ s.2.2.1 = 2 * s.2.2.2 + 1 ∧ s.2.2.1 ≤ N) (fun s _ => N - s.2.2.1) (_, 1, 1, 0) rfl ⟨hE1.trans hE2, hO2, rfl, by dsimp only; omega⟩ ?_
  rintro ⟨A, c, L, i⟩ w3 ⟨hE3, hO3, hL, hLN⟩
  dsimp only at hO3 hL hLN ⊢
  have hz3 := hE3.size
  refine norm_i64_to ((L + 1 : Nat) : Int) (by omega) (by omega) ?_
  refine wif_d (fun g1 => ?_) (fun g1 => ?_)
  · refine at_buildN gx_ok [(⟨2, ⟨#[]⟩, 0, 0, 0⟩ : Nd).cells] rfl rfl rfl rfl rfl ⟨rfl, rfl, ⟨⟩⟩ rfl (fun cs h => by simp only [List.mem_singleton] at h; subst h; rfl) rfl (by decide) (by decide) ?_
    intro w4 hE4 hsz4 hB4
    refine at_app gx_ok rfl rfl rfl rfl rfl (by decide) rfl rfl ⟨_, rfl⟩ rfl rfl (hO3.ext hE4) (Sl.ownN (n := 1) (sz := 5) hB4 rfl (by simp [maxLen])) (by simp [Nd.cells, scalar]) (by unfold maxLen; omega) (by show _ * 48 ≤ _; omega) (by have := hE4.size; omega) ?_
    intro A5 c5 w5 hm5 hO5 _
    have hE5 := hm5.ext (hE3.trans hE4) (fun k hk => (hO3.rows k hk).1)
    refine norm_i64_to ((L : Int) - 1) (by omega) (by omega) ?_
    refine norm_i64_to ((L : Nat) : Int) (by omega) (by omega) ?_
    refine at_buildN gx_ok [(⟨3, ⟨#[]⟩, 0, (L : Int) - 1, (L : Int)⟩ : Nd).cells] rfl rfl rfl rfl rfl ⟨rfl, rfl, ⟨⟩⟩ rfl (fun cs h => by simp only [List.mem_singleton] at h; subst h; rfl) rfl (by decide) (by decide) ?_
    intro w6 hE6 hsz6 hB6
    refine at_app gx_ok rfl rfl rfl rfl rfl (by decide) rfl rfl ⟨_, rfl⟩ rfl rfl (hO5.ext hE6) (Sl.ownN (n := 1) (sz := 5) hB6 rfl (by simp [maxLen])) (by simp [Nd.cells, scalar]) (by unfold maxLen; omega) (by show _ * 48 ≤ _; omega) (by have := hE5.size; have := hE6.size; omega) ?_
    intro A7 c7 w7 hm7 hO7 _
    refine ⟨(A7, c7, L + 1 + 1, i + 1), rfl, ⟨hm7.ext (hE5.trans hE6) (fun k hk => (hO5.rows k hk).1), ?_, by dsimp only; omega, by dsimp only; omega⟩, by show N - (L + 1 + 1) < N - L; omega⟩
    dsimp only
    rw [chn_succ, ← hL, List.flatMap_append, List.flatMap_append]
    exact hO7
  have hcl := chn_len i
  refine cutIn [] gx_ok [5] (fun s : Option Addr × Nat × List Nd => [.slice s.1 s.2.2.length s.2.1]) (fun s w' => Ext w w' ∧ SD w' s.1 s.2.2.length s.2.1 s.2.2 ∧ s.2.2.length = N ∧ (N ≤ 65536 → Valid s.2.2)) ?_ ?_
  · refine wif_d (fun g2 => ?_) (fun g2 => ?_)
    · refine norm_i64_to ((L : Int) - 1) (by omega) (by omega) ?_
      refine at_buildN gx_ok [(⟨6, ⟨#[]⟩, 0, (L : Int) - 1, 0⟩ : Nd).cells] rfl rfl rfl rfl rfl ⟨rfl, rfl, ⟨⟩⟩ rfl (fun cs h => by simp only [List.mem_singleton] at h; subst h; rfl) rfl (by decide) (by decide) ?_
      intro w4 hE4 hsz4 hB4
      refine at_app gx_ok rfl rfl rfl rfl rfl (by decide) rfl rfl ⟨_, rfl⟩ rfl rfl (hO3.ext hE4) (Sl.ownN (n := 1) (sz := 5) hB4 rfl (by simp [maxLen])) (by simp [Nd.cells, scalar]) (by unfold maxLen; omega) (by show _ * 48 ≤ _; omega) (by have := hE4.size; omega) ?_
      intro A5 c5 w5 hm5 hO5 _
      have hwl : (wrapD 6 0 (chn i)).length = L + 1 := by simp [wrapD, hcl]; omega
      refine ⟨(A5, c5, wrapD 6 0 (chn i)), by dsimp only; rw [hwl]; rfl, hm5.ext (hE3.trans hE4) (fun k hk => (hO3.rows k hk).1), ?_, by dsimp only; omega, fun hN6 => ?_⟩
      · dsimp only
        rw [hwl]
        refine ⟨?_, hwl⟩
        have e : (wrapD 6 0 (chn i)).flatMap Nd.cells = (chn i).flatMap Nd.cells ++ (⟨6, ⟨#[]⟩, 0, (L : Int) - 1, 0⟩ : Nd).cells := by
          rw [wrapD, List.flatMap_append, hcl, ← hL]; simp
        rw [e]
        exact hO5.sl
      · exact wrap_valid (chn_rep i (by omega)).valid (by decide) ⟨.inl rfl, by omega, by omega⟩ (by omega)
    · refine ⟨(A, c, chn i), by dsimp only; rw [hcl, ← hL]; rfl, hE3, ?_, by dsimp only; omega, fun hN6 => (chn_rep i (by omega)).valid⟩
      dsimp only
      rw [hcl, ← hL]
      exact ⟨hO3.sl, by omega⟩
  rintro ⟨A4, c4, d4⟩ w4 ⟨hE4, hs4, hl4, hv4⟩
  dsimp only at hs4 hl4 hv4 ⊢
  refine wif_d (fun g2 => ?_) (fun g2 => ?_)
  · refine call (check_fn A4 d4.length c4 d4 w4 hs4) ?_
    rintro v w5 ⟨rfl, hE5⟩
    rw [chk_large (by omega)]
    refine wif_eqt rfl ?_
    exact ⟨rfl, hE4.trans hE5⟩
  · refine call (check_fn A4 d4.length c4 d4 w4 hs4) ?_
    rintro v w5 ⟨rfl, hE5⟩
    rw [chk_ok (hv4 (by omega))]
    refine wif_eqt rfl ?_
    exact ⟨rfl, hE4.trans hE5⟩
end Go.Proofs.Ytgaggbmoimablaa
