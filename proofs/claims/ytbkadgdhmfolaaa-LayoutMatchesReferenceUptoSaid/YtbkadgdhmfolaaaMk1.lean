/-
  The reference's functions that build documents: joined, Seq, Wrap, Text.
  Conditions: none.
-/
import Derived.Test.YtbkadgdhmfolaaaRep2
namespace Go.Proofs.Ytbkadgdhmfolaaa
open Go Go.RowKit

theorem Sl.ownN {w : World} {g t n sz : Nat} {cs : List Value} (h : Blk w g t cs) (hl : cs.length = n * sz) (hn : n ≤ maxLen) : Sl w sz (some ⟨g, 0, none⟩) n n cs := by
  have := Sl.own (sz := sz) h (Nat.le_refl n) hn (by omega)
  rwa [List.take_of_length_le (by omega)] at this
theorem Own.ofN {w : World} {base e n sz g : Nat} {cs : List Value} (h : Blk w g e cs) (hb : base ≤ g) (hl : cs.length = n * sz) (hn : n ≤ maxLen) : Own w base e sz (some ⟨g, 0, none⟩) n n cs :=
  ⟨⟨by omega, .inr ⟨g, n, _, rfl, hb, h, Nat.le_refl _, hn, by simpa using hl, by simp [← hl]⟩⟩⟩

theorem cells_scalar (d : List Nd) : ∀ u ∈ d.flatMap Nd.cells, scalar u = true := by
  intro u hu
  simp only [List.mem_flatMap] at hu
  obtain ⟨x, _, hx⟩ := hu
  simp [Nd.cells] at hx
  rcases hx with rfl | rfl | rfl | rfl | rfl <;> rfl

/-- A document in memory of its own. -/
def DocRow (w : World) (d : List Nd) (v : Value) (w' : World) : Prop := ∃ A c, v = .slice A d.length c ∧ Ext w w' ∧ Own w' w.heap.size 59 5 A d.length c (d.flatMap Nd.cells)

theorem joined_fn (A B : Option Addr) (n m c1 c2 : Nat) (a b : List Nd) (w : World) (ha : SD w A n c1 a) (hb : SD w B m c2 b) (hok : NodesOk b) (hl : n + m ≤ 65536) :
    Fn Try.prog 49 [.slice A n c1, .slice B m c2] w (DocRow w (joinD a b)) := by
  have hna := ha.2
  have hnb := hb.2
  refine fn_of_exec (c := { c49 with cuts := [6, 8] }) gx_ok Try.func49 rfl rfl rfl ?_
  refine at_buildN gx_ok [] rfl rfl rfl rfl rfl ⟨⟩ rfl (fun cs h => by simp at h) rfl (by decide) (by simp) ?_
  intro w1 hE1 hsz1 hB1
  have hown1 : Own w1 w.heap.size 59 5 (some ⟨w.heap.size, 0, none⟩) 0 0 [] := Own.empty hB1 (Nat.le_refl _)
  refine at_app gx_ok rfl rfl rfl rfl rfl (by decide) rfl rfl ⟨_, rfl⟩ rfl rfl hown1 (ha.ext hE1).1 (cells_scalar a) (by unfold maxLen; omega) (by show _ * 48 ≤ _; omega) (by omega) ?_
  intro A2 cp2 w2 hm2 hown2 hmv2
  have hE2 : Ext w w2 := hm2.ext hE1 (fun k hk => (hown1.rows k hk).1)
  rw [List.nil_append] at hown2
  rw [Nat.zero_add] at hown2 ⊢
  refine loop gx_ok [5, 6] (fun s : Option Addr × Nat × Nat => [.slice s.1 (n + s.2.2) s.2.1, .int .i64 s.2.2]) (fun s w' => Ext w w' ∧ Own w' w.heap.size 59 5 s.1 (n + s.2.2) s.2.1 ((a ++ (b.take s.2.2).map (shiftN n)).flatMap Nd.cells) ∧ s.2.2 ≤ m) (fun s _ => m - s.2.2) (A2, cp2, 0) rfl ⟨hE2, by simpa using hown2, Nat.zero_le _⟩ ?_
  rintro ⟨C, cp, s⟩ w3 ⟨hE3, hown3, hsm⟩
  dsimp only at hown3 hsm ⊢
  refine wif_d (fun h2 => ?_) (fun h2 => ?_)
  · refine index_sls nd_len (hb.ext hE3) rfl (by omega) (fun p x hx hc => ?_)
    have hnx := hok s x hx
    refine loadN_at (vs := x.cells) rfl hc ?_
    refine new (fun w5 hE5 hsz5 hB5 => ?_)
    refine storeN_blk0 hB5 rfl (by simp [Nd.cells, scalar]) (fun w6 hg6 _ hB6 => ?_)
    have hE6 := newBox hE5 hB5 hg6
    have hE06 := hE3.trans hE6
    have hown6 := hown3.ext hE6
    have hz3 := hE3.size
    have hrow : ∀ i, rowS C i → i < w3.heap.size := fun i hi => (hown3.rows i hi).2
    clear hB5 hE5 hg6
    refine cut0 gx_ok (fun w' => Ext w w' ∧ Own w' w.heap.size 59 5 C (n + s) cp ((a ++ (b.take s).map (shiftN n)).flatMap Nd.cells) ∧ Blk w' w3.heap.size 59 [.int .i64 x.k, .string x.t, .int .i64 x.n, .int .i64 (if 1 ≤ arI x.k then x.a + n else x.a), .int .i64 x.b]) ?_ ?_
    · refine load_blk hB6 rfl ?_
      refine call (operands_fn _ _) ?_
      rintro v w' ⟨rfl, rfl⟩
      refine wif_d (fun h1 => ?_) (fun h1 => ?_)
      · have hal := hnx.a_lt h1
        refine load_blk hB6 rfl ?_
        refine norm_i64_to (x.a + n) rfl (by omega) ?_
        refine store_mod hB6 (by simp [Nd.cells]) (fun w7 hm7 hB7 => ?_)
        exact ⟨rfl, hm7.ext hE06 (fun i hi => by omega), hown6.mod hm7 (fun i hi e => by have := hrow i hi; omega), by rw [if_pos h1]; exact hB7⟩
      · exact ⟨rfl, hE06, hown6, by rw [if_neg h1]; exact hB6⟩
    rintro w7 ⟨hE7, hown7, hB7⟩
    refine cut0 gx_ok (fun w' => Ext w w' ∧ Own w' w.heap.size 59 5 C (n + s) cp ((a ++ (b.take s).map (shiftN n)).flatMap Nd.cells) ∧ Blk w' w3.heap.size 59 (shiftN n x).cells) ?_ ?_
    · refine load_blk hB7 rfl ?_
      refine call (operands_fn _ _) ?_
      rintro v w' ⟨rfl, rfl⟩
      refine wif_d (fun h1 => ?_) (fun h1 => ?_)
      · have hal := hnx.b_lt h1
        refine load_blk hB7 rfl ?_
        refine norm_i64_to (x.b + n) rfl (by omega) ?_
        refine store_mod hB7 (by simp) (fun w8 hm8 hB8 => ?_)
        exact ⟨rfl, hm8.ext hE7 (fun i hi => by omega), hown7.mod hm8 (fun i hi e => by have := hrow i hi; omega), by unfold Nd.cells shiftN; dsimp only; rw [if_pos h1]; exact hB8⟩
      · exact ⟨rfl, hE7, hown7, by unfold Nd.cells shiftN; dsimp only; rw [if_neg h1]; exact hB7⟩
    rintro w8 ⟨hE8, hown8, hB8⟩
    refine loadN_blk0 hB8 rfl ?_
    refine at_buildN gx_ok [(shiftN n x).cells] rfl rfl rfl rfl rfl ⟨rfl, rfl, ⟨⟩⟩ rfl (fun cs h => by simp only [List.mem_singleton] at h; subst h; rfl) rfl (by decide) (by decide) ?_
    intro w9 hE9 hsz9 hB9
    refine at_app gx_ok rfl rfl rfl rfl rfl (by decide) rfl rfl ⟨_, rfl⟩ rfl rfl (hown8.ext hE9) (Sl.ownN (n := 1) (sz := 5) hB9 rfl (by simp [maxLen])) (by simp [Nd.cells, scalar]) (by unfold maxLen; omega) (by show _ * 48 ≤ _; omega) (by have := hE8.size; omega) ?_
    intro A' c' w10 hm10 hown10 hmv10
    refine norm_i64_to ((s + 1 : Nat) : Int) (by omega) (by omega) ?_
    refine ⟨(A', c', s + 1), rfl, ⟨hm10.ext (hE8.trans hE9) (fun k hk => (hown8.rows k hk).1), ?_, by dsimp only; omega⟩, by show m - (s + 1) < m - s; omega⟩
    rw [List.take_add_one, hx]
    simpa [Nat.add_assoc] using hown10
  · have : s = m := by omega
    subst this
    have hlen : (joinD a b).length = n + s := by simp [joinD, hna, hnb]
    refine ⟨C, cp, by rw [hlen], hE3, ?_⟩
    rw [hlen]
    rw [List.take_of_length_le (by omega)] at hown3
    unfold joinD
    rw [hna]; exact hown3

theorem seq_fn (A B : Option Addr) (n m c1 c2 : Nat) (a b : List Nd) (w : World) (ha : SD w A n c1 a) (hb : SD w B m c2 b) (hok : NodesOk b) (hl : n + m ≤ 65536) :
    Fn Try.prog 26 [.slice A n c1, .slice B m c2] w (DocRow w (seqD a b)) := by
  have hna := ha.2
  have hnb := hb.2
  refine fn_of_exec (c := c26) gx_ok Try.func26 rfl rfl rfl ?_
  refine call (joined_fn A B n m c1 c2 a b w ha hb hok hl) ?_
  rintro v w1 ⟨C, cp, rfl, hE1, hown1⟩
  have hlen : (joinD a b).length = n + m := by simp [joinD, hna, hnb]
  refine norm_i64_to ((n : Int) - 1) rfl (by omega) ?_
  refine norm_i64_to ((n : Int) + m) rfl (by omega) ?_
  refine norm_i64_to ((n : Int) + m - 1) rfl (by omega) ?_
  refine at_buildN gx_ok [(⟨3, ⟨#[]⟩, 0, (n : Int) - 1, (n : Int) + m - 1⟩ : Nd).cells] rfl rfl rfl rfl rfl ⟨rfl, rfl, ⟨⟩⟩ rfl (fun cs h => by simp only [List.mem_singleton] at h; subst h; rfl) rfl (by decide) (by decide) ?_
  intro w9 hE9 hsz9 hB9
  rw [hlen] at hown1 ⊢
  refine at_app gx_ok rfl rfl rfl rfl rfl (by decide) rfl rfl ⟨_, rfl⟩ rfl rfl (hown1.ext hE9) (Sl.ownN (n := 1) (sz := 5) hB9 rfl (by simp [maxLen])) (by simp [Nd.cells, scalar]) (by unfold maxLen; omega) (by show _ * 48 ≤ _; omega) (by have := hE1.size; omega) ?_
  intro A' c' w10 hm10 hown10 hmv10
  have hlen2 : (seqD a b).length = n + m + 1 := by rw [seq_len]; omega
  refine ⟨A', c', by rw [hlen2], hm10.ext (hE1.trans hE9) (fun k hk => (hown1.rows k hk).1), ?_⟩
  rw [hlen2]
  unfold seqD
  rw [List.flatMap_append, hna, hnb]
  simpa using hown10

theorem wrap_fn (A : Option Addr) (n c1 : Nat) (k nn : Int) (a : List Nd) (w : World) (ha : SD w A n c1 a) (hl : n ≤ 65536) :
    Fn Try.prog 28 [.int .i64 k, .int .i64 nn, .slice A n c1] w (DocRow w (wrapD k nn a)) := by
  have hna := ha.2
  refine fn_of_exec (c := c28) gx_ok Try.func28 rfl rfl rfl ?_
  refine at_buildN gx_ok [] rfl rfl rfl rfl rfl ⟨⟩ rfl (fun cs h => by simp at h) rfl (by decide) (by simp) ?_
  intro w1 hE1 hsz1 hB1
  have hown1 : Own w1 w.heap.size 59 5 (some ⟨w.heap.size, 0, none⟩) 0 0 [] := Own.empty hB1 (Nat.le_refl _)
  refine at_app gx_ok rfl rfl rfl rfl rfl (by decide) rfl rfl ⟨_, rfl⟩ rfl rfl hown1 (ha.ext hE1).1 (cells_scalar a) (by unfold maxLen; omega) (by show _ * 48 ≤ _; omega) (by omega) ?_
  intro A2 cp2 w2 hm2 hown2 hmv2
  have hE2 : Ext w w2 := hm2.ext hE1 (fun k hk => (hown1.rows k hk).1)
  rw [List.nil_append] at hown2
  refine norm_i64_to ((n : Int) - 1) rfl (by omega) ?_
  refine at_buildN gx_ok [(⟨k, ⟨#[]⟩, nn, (n : Int) - 1, 0⟩ : Nd).cells] rfl rfl rfl rfl rfl ⟨rfl, rfl, ⟨⟩⟩ rfl (fun cs h => by simp only [List.mem_singleton] at h; subst h; rfl) rfl (by decide) (by decide) ?_
  intro w9 hE9 hsz9 hB9
  refine at_app gx_ok rfl rfl rfl rfl rfl (by decide) rfl rfl ⟨_, rfl⟩ rfl rfl (hown2.ext hE9) (Sl.ownN (n := 1) (sz := 5) hB9 rfl (by simp [maxLen])) (by simp [Nd.cells, scalar]) (by unfold maxLen; omega) (by show _ * 48 ≤ _; omega) (by have := hE2.size; omega) ?_
  intro A' c' w10 hm10 hown10 hmv10
  have hlen2 : (wrapD k nn a).length = n + 1 := by simp [wrapD, hna]
  refine ⟨A', c', by rw [hlen2, Nat.zero_add], hm10.ext (hE2.trans hE9) (fun k hk => (hown2.rows k hk).1), ?_⟩
  rw [hlen2]
  unfold wrapD
  rw [List.flatMap_append, hna]
  rw [Nat.zero_add] at hown10
  simpa using hown10

theorem text_fn (s : ByteArray) (w : World) : Fn Try.prog 27 [.string s] w (DocRow w (leafD 0 s)) := by
  refine fn_of_exec (c := c27) gx_ok Try.func27 rfl rfl rfl ?_
  refine at_buildN gx_ok [(⟨0, s, 0, 0, 0⟩ : Nd).cells] rfl rfl rfl rfl rfl ⟨rfl, rfl, ⟨⟩⟩ rfl (fun cs h => by simp only [List.mem_singleton] at h; subst h; rfl) rfl (by decide) (by decide) ?_
  intro w1 hE1 hsz1 hB1
  exact ⟨_, _, rfl, hE1, Own.ofN (n := 1) (sz := 5) hB1 (Nat.le_refl _) rfl (by simp [maxLen])⟩
end Go.Proofs.Ytbkadgdhmfolaaa
