/-
  Groups, the program's and the reference's: the contracts.
  Conditions: none.
-/
import Derived.Test.YtbkadgdhmfolaaaDoc4
namespace Go.Proofs.Ytbkadgdhmfolaaa
open Go Go.RowKit

noncomputable def grp (d : List Nd) : List Nat := if chk d = 0 then G d (d.length - 1) else []
theorem grp_ok {d : List Nd} (h : Valid d) : grp d = G d (d.length - 1) := if_pos (chk_ok h)
theorem grp_no {d : List Nd} (h : chk d ≠ 0) : grp d = [] := if_neg h

def GroupsRes (w : World) (l : List Nat) (e : Int) (v : Value) (w' : World) : Prop := ∃ B m cp, v = .tuple #[.slice B m cp, .int .i64 e] ∧ Ext w w' ∧ Sl w' 1 B m cp (natsV l)

theorem groups_fn (A : Option Addr) (n c : Nat) (d : List Nd) (w : World) (h : SD w A n c d) :
    Fn Try.prog 25 [.slice A n c] w (GroupsRes w (grp d) (chk d)) := by
  have hlen := h.2
  refine fn_of_exec (c := c25) gx_ok Try.func25 rfl rfl rfl ?_
  refine new (fun w1 hE1 hz1 hB1 => ?_)
  refine load_blk0 hB1 rfl ?_
  refine call (check_fn _ _ _ _ _ (h.ext hE1)) ?_
  rintro v w2 ⟨rfl, hE2⟩
  refine wif_ne (fun h1 => ?_) (fun h1 => ?_)
  · exact ⟨none, 0, 0, rfl, hE1.trans hE2, by rw [grp_no h1]; exact Sl.nil _ _⟩
  have hv : Valid d := chk_zero.1 h1
  have hpos := hv.2.1
  have hle := hv.1
  refine new (fun w3 hE3 hz3 hB3 => ?_)
  refine new (fun w4 hE4 hz4 hB4 => ?_)
  refine store_mod0 hB4 (by simp [cellsL]) (fun w5 hm5 hB5 => ?_)
  refine load_blk0 hB5 rfl ?_
  have hsz5 := hm5.size
  have hb4 := hB4.lt
  have hz1' := hE1.size
  have hz2' := hE2.size
  have hE15 : Mod (· = w3.heap.size) w1 w5 := (Mod.of_ext _ (hE2.trans (hE3.trans hE4))).trans hm5 (fun i hi => .inl hi)
  have hd5 : Blk w5 w.heap.size 23 [.slice A n c] := hB1.mod hE15 (by omega)
  refine load_blk0 hd5 rfl ?_
  refine norm_i64_to (((n - 1 : Nat)) : Int) (by omega) (by omega) ?_
  have hE05 : Ext w w5 := hE15.ext hE1 (fun i hi => by omega)
  have hgr : GrW w w5 w5.heap.size w.heap.size w2.heap.size w3.heap.size A n c none 0 [] :=
    ⟨hE05, Nat.le_refl _, by omega, by omega, by omega, by omega, by omega, by omega, by omega, Nat.le_refl _, hd5, hB5, (hB3.ext hE4).mod hm5 (by omega), Own.nil _ _ _ _⟩
  have hgl := G_len hv (n - 1)
  refine call (walk1_fn w _ _ _ _ A n c d hv.ok h (n - 1) none 0 [] w5 (by omega) (by simp; omega) hgr) ?_
  rintro v w6 ⟨B, cp, hg6, _, _⟩
  refine load_blk0 hg6.co rfl ?_
  refine ⟨B, ([] ++ G d (n - 1)).length, cp, ?_, hg6.ext, ?_⟩
  · rw [h1]
  · rw [grp_ok hv, hlen]
    exact hg6.own.sl

def NatRow (w : World) (l : List Nat) (v : Value) (w' : World) : Prop := ∃ B cp, v = .slice B l.length cp ∧ Ext w w' ∧ Sl w' 1 B l.length cp (natsV l)

theorem walk2_fn (A : Option Addr) (n c : Nat) (d : List Nd) (hv : Valid d) : ∀ (i : Nat) (w : World), i < n → n ≤ 65536 → SD w A n c d →
    Fn Try.prog 56 [.slice A n c, .int .i64 i] w (NatRow w (G d i)) := by
  intro i
  induction i using Nat.strongRecOn with
  | _ i ih =>
    intro w hi hn h
    have hlen := h.2
    have hgl := G_len hv i
    refine fn_of_exec (c := { c56 with cuts := [2, 4, 6] }) gx_ok Try.func56 rfl rfl rfl ?_
    refine at_build0 gx_ok rfl rfl rfl rfl rfl rfl ?_
    intro w1 hE1 hsz1 hB1
    have hown1 : Own w1 w.heap.size 3 1 (some ⟨w.heap.size, 0, none⟩) 0 0 [] := Own.empty hB1 (Nat.le_refl _)
    have hx : d[i]? = some d[i] := List.getElem?_eq_getElem (by omega)
    generalize d[i] = x at hx
    have hnx := hv.ok i x hx
    have hG := G_eq hv.ok hx
    have hgl' : (if x.k = 6 then [i] else []).length + (if 1 ≤ arI x.k then G d x.a.toNat else []).length + (if 2 ≤ arI x.k then G d x.b.toNat else []).length = (G d i).length := by
      rw [hG]; simp only [List.length_append]
    refine cutIn [] gx_ok [5] (fun s : Option Addr × Nat × Nat => [.slice s.1 s.2.1 s.2.2]) (fun s w' => s.2.1 = (if x.k = 6 then [i] else []).length ∧ Ext w w' ∧ Own w' w.heap.size 3 1 s.1 s.2.1 s.2.2 (natsV (if x.k = 6 then [i] else []))) ?_ ?_
    · refine index_sls nd_len (h.ext hE1) rfl hi (fun p y hy hc => ?_)
      rw [Option.some.inj (hy.symm.trans hx)] at hc
      refine load (hc 0 _ rfl) ?_
      refine wif_eq (fun h1 => ?_) (fun h1 => ?_)
      · refine at_build1 gx_ok rfl rfl rfl rfl rfl rfl rfl rfl ?_
        intro w7 hE7 hsz7 hB7
        have hs7 : Sl w7 1 (some ⟨w1.heap.size, 0, none⟩) 1 1 [.int .i64 (i : Int)] := Sl.own' hB7 rfl (by simp [maxLen])
        refine at_app gx_ok rfl rfl rfl rfl rfl (by decide) rfl rfl ⟨_, rfl⟩ rfl rfl (hown1.ext hE7) hs7 (by simp [scalar]) (by unfold maxLen; omega) (by show _ * 8 ≤ _; omega) (by have := hE7.size; omega) ?_
        intro A' c' w8 hm8 hown8 hmv8
        refine ⟨(A', 1, c'), rfl, by rw [if_pos h1]; rfl, hm8.ext (hE1.trans hE7) (fun k hk => (hown1.rows k hk).1), by rw [if_pos h1]; exact hown8⟩
      · exact ⟨(_, 0, 0), rfl, by rw [if_neg h1]; rfl, hE1, by rw [if_neg h1]; exact hown1⟩
    rintro ⟨B1, m1, cp1⟩ w2 ⟨hm1, hE2, hown2⟩
    dsimp only at hm1 hown2 ⊢
    have har := arI_cases x.k
    refine cutIn [] gx_ok [5] (fun s : Option Addr × Nat × Nat => [.slice s.1 s.2.1 s.2.2]) (fun s w' => s.2.1 = m1 + (if 1 ≤ arI x.k then G d x.a.toNat else []).length ∧ Ext w w' ∧ Own w' w.heap.size 3 1 s.1 s.2.1 s.2.2 (natsV ((if x.k = 6 then [i] else []) ++ (if 1 ≤ arI x.k then G d x.a.toNat else [])))) ?_ ?_
    · refine index_sls nd_len (h.ext hE2) rfl hi (fun p y hy hc => ?_)
      rw [Option.some.inj (hy.symm.trans hx)] at hc
      refine load (hc 0 _ rfl) ?_
      refine call (operands_fn _ _) ?_
      rintro v w' ⟨rfl, rfl⟩
      refine wif_d (fun h1 => ?_) (fun h1 => ?_)
      · have h1' : 1 ≤ arI x.k := by omega
        refine index_sls nd_len (h.ext hE2) rfl hi (fun p y hy hc => ?_)
        rw [Option.some.inj (hy.symm.trans hx)] at hc
        refine load (hc 3 _ rfl) ?_
        have hal := hnx.a_lt h1'
        have hai : x.a = ((x.a.toNat : Nat) : Int) := by omega
        have hfn := ih x.a.toNat hal.2 w2 (by omega) hn (h.ext hE2)
        rw [← hai] at hfn
        refine call hfn ?_
        rintro v w3 ⟨C, cpc, rfl, hE3, hs3⟩
        rw [if_pos h1'] at hgl'
        refine at_app gx_ok rfl rfl rfl rfl rfl (by decide) rfl rfl ⟨_, rfl⟩ rfl rfl (hown2.ext hE3) hs3 (natsV_scalar _) (by unfold maxLen; omega) (by show _ * 8 ≤ _; omega) (by have := hE2.size; have := hE3.size; omega) ?_
        intro A' c' w8 hm8 hown8 hmv8
        rw [← natsV_append] at hown8
        exact ⟨(A', _, c'), rfl, by rw [if_pos h1'], hm8.ext (hE2.trans hE3) (fun k hk => (hown2.rows k hk).1), by rw [if_pos h1']; exact hown8⟩
      · exact ⟨(B1, m1, cp1), rfl, by rw [if_neg (show ¬ 1 ≤ arI x.k by omega)]; rfl, hE2, by rw [if_neg (show ¬ 1 ≤ arI x.k by omega), List.append_nil]; exact hown2⟩
    rintro ⟨B2, m2, cp2⟩ w3 ⟨hm2, hE3, hown3⟩
    dsimp only at hm2 hown3 ⊢
    refine cutIn [] gx_ok [5] (fun s : Option Addr × Nat × Nat => [.slice s.1 s.2.1 s.2.2]) (fun s w' => s.2.1 = (G d i).length ∧ Ext w w' ∧ Own w' w.heap.size 3 1 s.1 s.2.1 s.2.2 (natsV (G d i))) ?_ ?_
    · refine index_sls nd_len (h.ext hE3) rfl hi (fun p y hy hc => ?_)
      rw [Option.some.inj (hy.symm.trans hx)] at hc
      refine load (hc 0 _ rfl) ?_
      refine call (operands_fn _ _) ?_
      rintro v w' ⟨rfl, rfl⟩
      refine wif_d (fun h1 => ?_) (fun h1 => ?_)
      · have h1' : 2 ≤ arI x.k := by omega
        refine index_sls nd_len (h.ext hE3) rfl hi (fun p y hy hc => ?_)
        rw [Option.some.inj (hy.symm.trans hx)] at hc
        refine load (hc 4 _ rfl) ?_
        have hal := hnx.b_lt h1'
        have hai : x.b = ((x.b.toNat : Nat) : Int) := by omega
        have hfn := ih x.b.toNat hal.2 w3 (by omega) hn (h.ext hE3)
        rw [← hai] at hfn
        refine call hfn ?_
        rintro v w4 ⟨C, cpc, rfl, hE4, hs4⟩
        rw [if_pos h1'] at hgl' hG
        refine at_app gx_ok rfl rfl rfl rfl rfl (by decide) rfl rfl ⟨_, rfl⟩ rfl rfl (hown3.ext hE4) hs4 (natsV_scalar _) (by unfold maxLen; omega) (by show _ * 8 ≤ _; omega) (by have := hE3.size; have := hE4.size; omega) ?_
        intro A' c' w8 hm8 hown8 hmv8
        rw [← natsV_append, ← hG] at hown8
        exact ⟨(A', _, c'), rfl, by dsimp only; omega, hm8.ext (hE3.trans hE4) (fun k hk => (hown3.rows k hk).1), hown8⟩
      · rw [if_neg (show ¬ 2 ≤ arI x.k by omega), List.append_nil] at hG
        rw [← hG] at hown3
        rw [if_neg (show ¬ 2 ≤ arI x.k by omega)] at hgl'
        exact ⟨(B2, m2, cp2), rfl, by dsimp only; simp at hgl'; omega, hE3, hown3⟩
    rintro ⟨B3, m3, cp3⟩ w4 ⟨hm3, hE4, hown4⟩
    dsimp only at hm3 hown4 ⊢
    subst hm3
    exact ⟨B3, cp3, rfl, hE4, hown4.sl⟩

theorem rgroups_fn (A : Option Addr) (n c : Nat) (d : List Nd) (w : World) (h : SD w A n c d) (hs : ∀ x ∈ d, x.t.size ≤ maxLen) :
    Fn Try.prog 43 [.slice A n c] w (GroupsRes w (grp d) (chk d)) := by
  have hlen := h.2
  refine fn_of_exec (c := c43) gx_ok Try.func43 rfl rfl rfl ?_
  refine call (rcheck_fn _ _ _ _ _ h hs) ?_
  rintro v w2 ⟨rfl, hE2⟩
  refine wif_ne (fun h1 => ?_) (fun h1 => ?_)
  · exact ⟨none, 0, 0, rfl, hE2, by rw [grp_no h1]; exact Sl.nil _ _⟩
  have hv : Valid d := chk_zero.1 h1
  have hpos := hv.2.1
  have hle := hv.1
  refine norm_i64_to (((n - 1 : Nat)) : Int) (by omega) (by omega) ?_
  refine call (walk2_fn A n c d hv (n - 1) w2 (by omega) (by omega) (h.ext hE2)) ?_
  rintro v w3 ⟨B, cp, rfl, hE3, hs3⟩
  refine ⟨B, (G d (n - 1)).length, cp, ?_, hE2.trans hE3, ?_⟩
  · rw [h1]
  · rw [grp_ok hv, hlen]; exact hs3
end Go.Proofs.Ytbkadgdhmfolaaa
