/-
  The groups of a document, the program's and the reference's: the contracts.
  Conditions: none.
-/
import Derived.Test.YtbkadgdhmfolaaaTree
import Derived.Test.YtbkadgdhmfolaaaMod
namespace Go.Proofs.Ytbkadgdhmfolaaa
open Go Go.RowKit

def natsV (l : List Nat) : List Value := l.map fun (n : Nat) => .int .i64 (n : Int)
theorem natsV_get {l : List Nat} {j n : Nat} (h : l[j]? = some n) : (natsV l)[j]? = some (.int .i64 n) := by simp [natsV, h]
theorem natsV_length (l : List Nat) : (natsV l).length = l.length := by simp [natsV]
theorem natsV_append (l m : List Nat) : natsV (l ++ m) = natsV l ++ natsV m := by simp [natsV]
theorem natsV_scalar (l : List Nat) : ∀ u ∈ natsV l, scalar u = true := by
  intro u hu; simp only [natsV, List.mem_map] at hu; obtain ⟨x, _, rfl⟩ := hu; rfl

structure GrW (w0 w : World) (base gd go gw : Nat) (A : Option Addr) (n c : Nat) (B : Option Addr) (cp : Nat) (out : List Nat) : Prop where
  ext : Ext w0 w
  gd0 : w0.heap.size ≤ gd
  go0 : w0.heap.size ≤ go
  gw0 : w0.heap.size ≤ gw
  gd1 : gd < base
  go1 : go < base
  gw1 : gw < base
  ne1 : gd ≠ go
  ne2 : gw ≠ go
  top : base ≤ w.heap.size
  cd : Blk w gd 23 [.slice A n c]
  cw : Blk w gw 84 [.func (.func 47) #[] #[.pointer (some ⟨gd, 0, none⟩), .pointer (some ⟨go, 0, none⟩), .pointer (some ⟨gw, 0, none⟩)]]
  co : Blk w go 48 [.slice B out.length cp]
  own : Own w base 3 1 B out.length cp (natsV out)

theorem GrW.grow {w0 w w' : World} {base gd go gw : Nat} {A : Option Addr} {n c : Nat} {B : Option Addr} {cp : Nat} {out : List Nat} (h : GrW w0 w base gd go gw A n c B cp out) (k : Ext w w') : GrW w0 w' base gd go gw A n c B cp out :=
  ⟨h.ext.trans k, h.gd0, h.go0, h.gw0, h.gd1, h.go1, h.gw1, h.ne1, h.ne2, Nat.le_trans h.top k.size, h.cd.ext k, h.cw.ext k, h.co.ext k, h.own.ext k⟩

/-- What the closure may touch. -/
def GrS (go : Nat) (B : Option Addr) : Nat → Prop := fun k => k = go ∨ rowS B k
theorem GrS.moved {w : World} {go : Nat} {B B' : Option Addr} (h : Moved w B B') : ∀ k, GrS go B' k → GrS go B k ∨ w.heap.size ≤ k := by
  rintro k (rfl | hk)
  · exact .inl (.inl rfl)
  · rcases h.rows k hk with h | h
    · exact .inl (.inr h)
    · exact .inr h

theorem walk1_fn (w0 : World) (base gd go gw : Nat) (A : Option Addr) (n c : Nat) (d : List Nd) (hd : NodesOk d) (h : SD w0 A n c d) : ∀ (i : Nat) (B : Option Addr) (cp : Nat) (out : List Nat) (w : World), i < n → out.length + (G d i).length ≤ 65536 → GrW w0 w base gd go gw A n c B cp out →
    Fn Try.prog 47 [.int .i64 i, .pointer (some ⟨gd, 0, none⟩), .pointer (some ⟨go, 0, none⟩), .pointer (some ⟨gw, 0, none⟩)] w
      (fun _ w' => ∃ B' cp', GrW w0 w' base gd go gw A n c B' cp' (out ++ G d i) ∧ Mod (GrS go B) w w' ∧ Moved w B B') := by
  intro i
  induction i using Nat.strongRecOn with
  | _ i ih =>
    intro B cp out w hi hlen hw
    refine fn_of_exec (c := { c47 with cuts := [1, 3] }) gx_ok Try.func47 rfl rfl rfl ?_
    refine load_blk0 hw.cd rfl ?_
    refine index_sls nd_len (h.ext hw.ext) rfl hi (fun p x hx hc => ?_)
    refine loadN_at (vs := x.cells) rfl hc ?_
    refine new (fun w5 hE5 _ hB5 => ?_)
    refine storeN_blk0 hB5 rfl (by simp [Nd.cells, scalar]) (fun w6 hg6 _ hB6 => ?_)
    have hE6 := newBox hE5 hB5 hg6
    have hw6 := hw.grow hE6
    have hwlt : base ≤ w.heap.size := hw.top
    have hrows := hw.own.rows
    have hgo1 := hw.go1
    clear hB5 hE5 hg6
    have hnx := hd i x hx
    have hG := G_eq hd hx
    have nx : ¬ GrS go B w.heap.size := by
      rintro (e | e)
      · omega
      · have := (hrows _ e).2; omega
    have hb6 : w.heap.size < w6.heap.size := hB6.lt
    refine cut0 gx_ok (fun w' => ∃ B' cp', GrW w0 w' base gd go gw A n c B' cp' (out ++ (if x.k = 6 then [i] else [])) ∧ Blk w' w.heap.size 59 x.cells ∧ Mod (GrS go B) w w' ∧ Moved w6 B B' ∧ w6.heap.size ≤ w'.heap.size) ?_ ?_
    · refine load_blk hB6 rfl ?_
      refine wif_eq (fun h1 => ?_) (fun h1 => ?_)
      · refine load_blk0 hw6.co rfl ?_
        refine at_build1 gx_ok rfl rfl rfl rfl rfl rfl rfl rfl ?_
        intro w7 hE7 hsz7 hB7
        have hw7 := hw6.grow hE7
        have hs7 : Sl w7 1 (some ⟨w6.heap.size, 0, none⟩) 1 1 [.int .i64 (i : Int)] := Sl.own' hB7 rfl (by simp [maxLen])
        have hG1 : 1 ≤ (G d i).length := by rw [hG, if_pos h1]; simp
        refine at_app gx_ok rfl rfl rfl rfl rfl (by decide) rfl rfl ⟨_, rfl⟩ rfl rfl hw7.own hs7 (by simp [scalar]) (by unfold maxLen; omega) (by show _ * 8 ≤ _; omega) hw7.top ?_
        intro A' c' w8 hm8 hown8 hmv8
        have nrow : ∀ g, g < base → ¬ rowS B g := fun g hg hr => by have := (hrows g hr).1; omega
        refine store_mod0 (hw7.co.mod hm8 (nrow _ hw.go1)) (by simp) (fun w9 hm9 hB9 => ?_)
        have hm : Mod (GrS go B) w7 w9 := (hm8.mono (S' := GrS go B) (fun i hi => .inl (.inr hi))).trans hm9 (fun i hi => .inl (.inl hi))
        have hE67 := hE6.trans hE7
        refine ⟨rfl, A', c', ⟨hm.ext hw7.ext ?_, hw.gd0, hw.go0, hw.gw0, hw.gd1, hw.go1, hw.gw1, hw.ne1, hw.ne2, ?_, ?_, ?_, ?_, ?_⟩, ?_, ?_, ?_, by have := hE7.size; have := hm.size; omega⟩
        · rintro k (rfl | hk)
          · exact hw.go0
          · have := (hrows k hk).1; have := hw.gd0; have := hw.gd1; omega
        · have := hm.size; have := hw7.top; omega
        · exact (hw7.cd.mod hm (by rintro (e | e); exact hw.ne1 e; exact nrow _ hw.gd1 e))
        · exact (hw7.cw.mod hm (by rintro (e | e); exact hw.ne2 e; exact nrow _ hw.gw1 e))
        · rw [if_pos h1, List.length_append]; exact hB9
        · rw [if_pos h1, List.length_append, natsV_append]
          refine hown8.mod hm9 (fun k hk e => ?_)
          subst e
          have := (hown8.rows _ hk).1
          omega
        · exact (hB6.ext hE7).mod hm nx
        · exact (Mod.of_ext (GrS go B) hE67).trans hm (fun i hi => .inl hi)
        · exact hmv8.back hE7.size
      · exact ⟨rfl, B, cp, by rw [if_neg h1, List.append_nil]; exact hw6, hB6, Mod.of_ext _ hE6, Moved.refl _ _, Nat.le_refl _⟩
    rintro w7 ⟨B1, cp1, hw7, hB7, hm7, hmv7, hsz⟩
    have nx7 : ¬ GrS go B1 w.heap.size := fun hk => by
      rcases GrS.moved hmv7 _ hk with h | h
      · exact nx h
      · omega
    have har := arI_cases x.k
    have hgl : (if x.k = 6 then [i] else []).length + (if 1 ≤ arI x.k then G d x.a.toNat else []).length + (if 2 ≤ arI x.k then G d x.b.toNat else []).length = (G d i).length := by
      rw [hG]; simp only [List.length_append]
    refine cut0 gx_ok (fun w' => ∃ B' cp', GrW w0 w' base gd go gw A n c B' cp' (out ++ (if x.k = 6 then [i] else []) ++ (if 1 ≤ arI x.k then G d x.a.toNat else [])) ∧ Blk w' w.heap.size 59 x.cells ∧ Mod (GrS go B) w w' ∧ Moved w6 B B') ?_ ?_
    · refine load_blk hB7 rfl ?_
      refine call (arity_fn _ _) ?_
      rintro v w' ⟨rfl, rfl⟩
      refine wif_d (fun h1 => ?_) (fun h1 => ?_)
      · have h1' : 1 ≤ arI x.k := by omega
        refine load_blk0 hw7.cw rfl ?_
        refine load_blk hB7 rfl ?_
        have hal := hnx.a_lt h1'
        have hai : x.a = ((x.a.toNat : Nat) : Int) := by omega
        rw [if_pos h1'] at hgl
        have hfn := ih x.a.toNat hal.2 B1 cp1 (out ++ (if x.k = 6 then [i] else [])) w7 (by omega) (by rw [List.length_append]; omega) hw7
        rw [← hai] at hfn
        refine call hfn ?_
        rintro v w8 ⟨B2, cp2, hw8, hm8, hmv8⟩
        refine ⟨rfl, B2, cp2, by rw [if_pos h1']; exact hw8, hB7.mod hm8 nx7, hm7.trans hm8 (fun k hk => ?_), hmv7.trans hmv8 hsz⟩
        rcases GrS.moved hmv7 k hk with h | h
        · exact .inl h
        · exact .inr (by omega)
      · exact ⟨rfl, B1, cp1, by rw [if_neg (show ¬ 1 ≤ arI x.k by omega), List.append_nil]; exact hw7, hB7, hm7, hmv7⟩
    rintro w8 ⟨B2, cp2, hw8, hB8, hm8, hmv8⟩
    refine load_blk hB8 rfl ?_
    refine call (arity_fn _ _) ?_
    rintro v w' ⟨rfl, rfl⟩
    have hmvw : Moved w B B2 := fun ad e => by
      rcases hmv8 ad e with h | h
      · exact .inl h
      · exact .inr (by omega)
    refine wif_d (fun h1 => ?_) (fun h1 => ?_)
    · have h1' : 2 ≤ arI x.k := by omega
      refine load_blk0 hw8.cw rfl ?_
      refine load_blk hB8 rfl ?_
      have hal := hnx.b_lt h1'
      have hai : x.b = ((x.b.toNat : Nat) : Int) := by omega
      rw [if_pos h1', if_pos (show 1 ≤ arI x.k by omega)] at hgl
      have hfn := ih x.b.toNat hal.2 B2 cp2 (out ++ (if x.k = 6 then [i] else []) ++ (if 1 ≤ arI x.k then G d x.a.toNat else [])) w8 (by omega) (by rw [List.length_append, List.length_append, if_pos (show 1 ≤ arI x.k by omega)]; omega) hw8
      rw [← hai] at hfn
      refine call hfn ?_
      rintro v w9 ⟨B3, cp3, hw9, hm9, hmv9⟩
      refine ⟨B3, cp3, ?_, hm8.trans hm9 (fun k hk => ?_), hmvw.trans hmv9 hm8.size⟩
      · rw [hG, if_pos h1', ← List.append_assoc, ← List.append_assoc]; exact hw9
      · rcases GrS.moved hmvw k hk with h | h
        · exact .inl h
        · exact .inr h
    · refine ⟨B2, cp2, ?_, hm8, hmvw⟩
      rw [hG, if_neg (show ¬ 2 ≤ arI x.k by omega), List.append_nil, ← List.append_assoc]; exact hw8
end Go.Proofs.Ytbkadgdhmfolaaa
