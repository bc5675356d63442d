/-
  leaf, Has, hard, Choice.
  Conditions: none.
-/
import Derived.Test.YtbkadgdhmfolaaaMk1
namespace Go.Proofs.Ytbkadgdhmfolaaa
open Go Go.RowKit

theorem rem_c {x : Nat} (d : Nat) {D : Int} {K : Int → Prop} (hD : D = d) (hd : 0 < d) (k : K ((x % d : Nat) : Int)) : NormIf (D ≠ 0) ((x : Int).tmod D) K := by subst hD; exact norm_rem hd k
theorem quo_c {x : Nat} (d : Nat) {D : Int} {K : Int → Prop} (hD : D = d) (hd : 0 < d) (hx : x ≤ 9223372036854775807) (k : K ((x / d : Nat) : Int)) : NormIf (D ≠ 0) (IntKind.i64.wrap ((x : Int).tdiv D)) K := by
  subst hD
  refine normIf (by omega) ?_ k
  rw [tdiv_nat]
  have : x / d ≤ x := Nat.div_le_self _ _
  generalize x / d = q at *
  exact IntWalk.i64_in _ (by omega)

/-- A leaf of the made documents. -/
structure LeafOk (k : Int) (s : ByteArray) : Prop where
  kind : k = 0 ∨ k = 1 ∨ k = 2
  no10 : 10 ∉ bytesOf s
  size : s.size ≤ 10000
  text : s = ⟨#[]⟩ ∨ k = 0 ∨ k = 1
  line : k = 1 → ∀ x ∈ bytesOf s, x = 32

theorem leaf_fn (k : Nat) (w : World) (hk : k ≤ 255) : Fn Try.prog 40 [.int .i64 k] w (fun v w' => ∃ kk s, LeafOk kk s ∧ DocRow w (leafD kk s) v w') := by
  refine fn_of_exec (c := c40) gx_ok Try.func40 rfl rfl rfl ?_
  have h4 : k / 10 % 4 = 0 ∨ k / 10 % 4 = 1 ∨ k / 10 % 4 = 2 ∨ k / 10 % 4 = 3 := by omega
  have hb : ∀ {a b c d : ByteArray} {g : Nat} {w1 : World}, Blk w1 g 9 [[Value.string a], [.string b], [.string c], [.string d]].flatten → ∃ s, (s = a ∨ s = b ∨ s = c ∨ s = d) ∧ w1.cell? ((⟨g, 0, none⟩ : Addr).add (k / 10 % 4)) = some (.string s) := fun {a b c d g w1} h => by
    rw [h.cell]
    rcases h4 with h | h | h | h <;> rw [h]
    · exact ⟨a, .inl rfl, rfl⟩
    · exact ⟨b, .inr (.inl rfl), rfl⟩
    · exact ⟨c, .inr (.inr (.inl rfl)), rfl⟩
    · exact ⟨d, .inr (.inr (.inr rfl)), rfl⟩
  refine rem_c 4 rfl (by decide) ?_
  refine wif_eq (fun h => ?_) (fun h => ?_)
  · refine at_buildN gx_ok [[_], [_], [_], [_]] rfl rfl rfl rfl rfl ⟨rfl, rfl, rfl, rfl, rfl, rfl, rfl, rfl, ⟨⟩⟩ rfl (fun cs h => by simp at h; rcases h with rfl | rfl | rfl | rfl <;> rfl) rfl (by decide) (by decide) ?_
    intro w1 hE1 hsz1 hB1
    refine quo_c 10 rfl (by decide) (by omega) ?_
    refine rem_c 4 rfl (by decide) ?_
    refine index_i rfl (by omega) ?_
    obtain ⟨s, hs, hc⟩ := hb hB1
    refine load hc ?_
    refine call (text_fn s w1) ?_
    rintro v w2 ⟨A, c, rfl, hE2, hO2⟩
    refine ⟨0, s, ?_, A, c, rfl, hE1.trans hE2, hO2.up hE1.size⟩
    rcases hs with rfl | rfl | rfl | rfl <;> exact ⟨.inl rfl, by decide, by decide, .inr (.inl rfl), by decide⟩
  refine wif_eq (fun h1 => ?_) (fun h1 => ?_)
  · refine at_buildN gx_ok [[_], [_], [_], [_]] rfl rfl rfl rfl rfl ⟨rfl, rfl, rfl, rfl, rfl, rfl, rfl, rfl, ⟨⟩⟩ rfl (fun cs h => by simp at h; rcases h with rfl | rfl | rfl | rfl <;> rfl) rfl (by decide) (by decide) ?_
    intro w1 hE1 hsz1 hB1
    refine quo_c 10 rfl (by decide) (by omega) ?_
    refine rem_c 4 rfl (by decide) ?_
    refine index_i rfl (by omega) ?_
    obtain ⟨s, hs, hc⟩ := hb hB1
    refine load hc ?_
    refine call (text_fn s w1) ?_
    rintro v w2 ⟨A, c, rfl, hE2, hO2⟩
    refine ⟨0, s, ?_, A, c, rfl, hE1.trans hE2, hO2.up hE1.size⟩
    rcases hs with rfl | rfl | rfl | rfl <;> exact ⟨.inl rfl, by decide, by decide, .inr (.inl rfl), by decide⟩
  refine wif_eq (fun h2 => ?_) (fun h2 => ?_)
  · refine at_buildN gx_ok [[_], [_], [_], [_]] rfl rfl rfl rfl rfl ⟨rfl, rfl, rfl, rfl, rfl, rfl, rfl, rfl, ⟨⟩⟩ rfl (fun cs h => by simp at h; rcases h with rfl | rfl | rfl | rfl <;> rfl) rfl (by decide) (by decide) ?_
    intro w1 hE1 hsz1 hB1
    refine quo_c 10 rfl (by decide) (by omega) ?_
    refine rem_c 4 rfl (by decide) ?_
    refine index_i rfl (by omega) ?_
    obtain ⟨s, hs, hc⟩ := hb hB1
    refine load hc ?_
    refine at_buildN gx_ok [(⟨1, s, 0, 0, 0⟩ : Nd).cells] rfl rfl rfl rfl rfl ⟨rfl, rfl, ⟨⟩⟩ rfl (fun cs h => by simp only [List.mem_singleton] at h; subst h; rfl) rfl (by decide) (by decide) ?_
    intro w2 hE2 hsz2 hB2
    refine ⟨1, s, ?_, _, _, rfl, hE1.trans hE2, Own.ofN (n := 1) (sz := 5) hB2 hE1.size rfl (by simp [maxLen])⟩
    rcases hs with rfl | rfl | rfl | rfl <;> exact ⟨.inr (.inl rfl), by decide, by decide, .inr (.inr rfl), by decide⟩
  refine quo_c 10 rfl (by decide) (by omega) ?_
  refine rem_c 4 rfl (by decide) ?_
  refine wif_d (fun h3 => ?_) (fun h3 => ?_)
  · refine at_buildN gx_ok [(⟨1, ⟨#[32]⟩, 0, 0, 0⟩ : Nd).cells] rfl rfl rfl rfl rfl ⟨rfl, rfl, ⟨⟩⟩ rfl (fun cs h => by simp only [List.mem_singleton] at h; subst h; rfl) rfl (by decide) (by decide) ?_
    intro w2 hE2 hsz2 hB2
    refine ⟨1, ⟨#[32]⟩, ?_, _, _, rfl, hE2, Own.ofN (n := 1) (sz := 5) hB2 (Nat.le_refl _) rfl (by simp [maxLen])⟩
    exact ⟨.inr (.inl rfl), by decide, by decide, .inr (.inr rfl), by decide⟩
  · refine at_buildN gx_ok [(⟨2, ⟨#[]⟩, 0, 0, 0⟩ : Nd).cells] rfl rfl rfl rfl rfl ⟨rfl, rfl, ⟨⟩⟩ rfl (fun cs h => by simp only [List.mem_singleton] at h; subst h; rfl) rfl (by decide) (by decide) ?_
    intro w2 hE2 hsz2 hB2
    refine ⟨2, ⟨#[]⟩, ?_, _, _, rfl, hE2, Own.ofN (n := 1) (sz := 5) hB2 (Nat.le_refl _) rfl (by simp [maxLen])⟩
    exact ⟨.inr (.inr rfl), by decide, by decide, .inl rfl, by decide⟩

end Go.Proofs.Ytbkadgdhmfolaaa
