/-
  The reference implementation of the layout, and the laws that compare with it.
  Conditions: as each theorem says.
-/
import Derived.Test.YtbkadgdhmfolaaaLh3
namespace Go.Proofs.Ytbkadgdhmfolaaa
open Go Go.RowKit

theorem hard26_fn (A : Option Addr) (n c : Nat) (d : List Nd) (hd : NodesOk d) : ∀ (i : Nat) (w : World), i < n → SD w A n c d →
    Fn Try.prog 55 [.slice A n c, .int .i64 i] w (fun v w' => v = .bool (hasHard (T d i)) ∧ Ext w w') := by
  intro i
  induction i using Nat.strongRecOn with
  | _ i ih =>
    intro w hi h
    have hlen := h.2
    refine fn_of_exec (c := { c55 with cuts := [6] }) gx_ok Try.func55 rfl rfl rfl ?_
    refine index_sls nd_len h rfl hi (fun p x hx hc => ?_)
    have hnx := hd i x hx
    have har := arI_of (k := x.k)
    have hk := arI_kind hnx.1
    have hT := T_eq hd hx
    refine load (hc 0 _ rfl) ?_
    refine wif_eq (fun k2 => ?_) (fun k2 => ?_)
    · rw [if_neg (by omega), if_neg (by omega), if_neg (by omega), if_neg (by omega), if_neg (by omega), if_neg (by omega)] at hT
      exact ⟨by rw [hT]; rfl, Ext.refl _⟩
    refine wif_eq (fun k3 => ?_) (fun k3 => ?_)
    · rw [if_neg (by omega), if_neg (by omega), if_pos k3] at hT
      have ha := hnx.a_lt (by have := har.2.2.2.1 k3; omega)
      have hb := hnx.b_lt (by have := har.2.2.2.1 k3; omega)
      have hai : x.a = ((x.a.toNat : Nat) : Int) := by omega
      have hbi : x.b = ((x.b.toNat : Nat) : Int) := by omega
      refine index_sls nd_len h rfl hi (fun p2 x2 hx2 hc2 => ?_)
      cases Option.some.inj (hx2.symm.trans hx)
      refine load (hc2 3 _ rfl) ?_
      have hf := ih x.a.toNat ha.2 w (by omega) h
      rw [← hai] at hf
      refine call hf ?_
      rintro v w1 ⟨rfl, hE1⟩
      have hval : hasHard (T d i) = (hasHard (T d x.a.toNat) || hasHard (T d x.b.toNat)) := by rw [hT]; rfl
      rw [hval]
      refine wif (fun hb1 => ?_) (fun hb1 => ?_)
      · exact ⟨by rw [hb1]; rfl, hE1⟩
      · refine index_sls nd_len (h.ext hE1) rfl hi (fun p3 x3 hx3 hc3 => ?_)
        cases Option.some.inj (hx3.symm.trans hx)
        refine load (hc3 4 _ rfl) ?_
        have hf2 := ih x.b.toNat hb.2 w1 (by omega) (h.ext hE1)
        rw [← hbi] at hf2
        refine call hf2 ?_
        rintro v w2 ⟨rfl, hE2⟩
        exact ⟨by rw [hb1]; rfl, hE1.trans hE2⟩
    refine cutIn [] gx_ok [30] (fun b : Bool => [.bool b]) (fun b w' => w = w' ∧ (b = true ↔ x.k = 4 ∨ x.k = 5 ∨ x.k = 6)) ?_ ?_
    · refine wif_eq (fun k4 => ?_) (fun k4 => ?_)
      · exact ⟨true, by simp [k4]; rfl, rfl, by simp [k4]⟩
      · refine wif_eq (fun k5 => ?_) (fun k5 => ?_)
        · exact ⟨true, by simp [k5]; rfl, rfl, by simp [k5]⟩
        · exact ⟨_, rfl, rfl, by simp [k4, k5]⟩
    rintro b _ ⟨rfl, hbk⟩
    refine wif (fun hb1 => ?_) (fun hb1 => ?_)
    · have hk456 := hbk.1 hb1
      have har1 : 1 ≤ arI x.k := by
        rcases hk456 with h | h | h
        · have := har.2.2.2.2.1 h; omega
        · have := har.2.2.2.2.2.1 h; omega
        · have := har.2.2.2.2.2.2 h; omega
      have ha := hnx.a_lt har1
      have hai : x.a = ((x.a.toNat : Nat) : Int) := by omega
      have hval : hasHard (T d i) = hasHard (T d x.a.toNat) := by
        rw [hT, if_neg (by omega), if_neg (by omega), if_neg (by omega)]
        split
        · rfl
        split
        · rfl
        split
        · rfl
        · omega
      refine index_sls nd_len h rfl hi (fun p2 x2 hx2 hc2 => ?_)
      cases Option.some.inj (hx2.symm.trans hx)
      refine load (hc2 3 _ rfl) ?_
      have hf := ih x.a.toNat ha.2 w (by omega) h
      rw [← hai] at hf
      refine call hf ?_
      rintro v w1 ⟨rfl, hE1⟩
      exact ⟨by rw [hval], hE1⟩
    · have hn456 : ¬ (x.k = 4 ∨ x.k = 5 ∨ x.k = 6) := fun h => by rw [hbk.2 h] at hb1; cases hb1
      have hval : hasHard (T d i) = false := by
        rw [hT]
        split
        · rfl
        split
        · rfl
        · omega
      exact ⟨by rw [hval], Ext.refl _⟩

theorem groups26_fn (A : Option Addr) (n c : Nat) (d : List Nd) (hv : Valid d) : ∀ (i : Nat) (w : World), i < n → SD w A n c d →
    Fn Try.prog 50 [.slice A n c, .int .i64 i] w (fun v w' => v = .int .i64 (ng (T d i) : Nat) ∧ Ext w w') := by
  intro i
  induction i using Nat.strongRecOn with
  | _ i ih =>
    intro w hi h
    have hd := hv.ok
    have hlen := h.2
    have hle := hv.1
    have hnn := nnT_N hd i (by omega)
    have hnl := N_len hv i
    have hgn := ng_nn (T d i)
    refine fn_of_exec (c := { c50 with cuts := [4] }) gx_ok Try.func50 rfl rfl rfl ?_
    refine index_sls nd_len h rfl hi (fun p x hx hc => ?_)
    have hnx := hd i x hx
    have har := arI_of (k := x.k)
    have hk := arI_kind hnx.1
    have hT := T_eq hd hx
    refine load (hc 0 _ rfl) ?_
    refine wif_eq (fun k3 => ?_) (fun k3 => ?_)
    · rw [if_neg (by omega), if_neg (by omega), if_pos k3] at hT
      have ha := hnx.a_lt (by have := har.2.2.2.1 k3; omega)
      have hb := hnx.b_lt (by have := har.2.2.2.1 k3; omega)
      have hai : x.a = ((x.a.toNat : Nat) : Int) := by omega
      have hbi : x.b = ((x.b.toNat : Nat) : Int) := by omega
      have hng : ng (T d i) = ng (T d x.a.toNat) + ng (T d x.b.toNat) := by rw [hT]; rfl
      have hEd := Ext.drew w
      refine draw_plan gx_ok (Ext w) 16 [(true, 0), (true, 1), (true, 2), (true, 3), (true, 4), (true, 5), (true, 7), (true, 8), (true, 9), (true, 10), (true, 11), (true, 12), (false, 6), (false, 13), (true, 14), (true, 15)] (by kernel_rfl) hEd ?_
      refine index_sls nd_len h rfl hi (fun p2 x2 hx2 hc2 => ?_)
      cases Option.some.inj (hx2.symm.trans hx)
      refine qload (fun w' hw' => hw'.cell (hc2 3 _ rfl)) ?_
      refine index_sls nd_len h rfl hi (fun p3 x3 hx3 hc3 => ?_)
      cases Option.some.inj (hx3.symm.trans hx)
      refine qload (fun w' hw' => hw'.cell (hc3 4 _ rfl)) ?_
      have hf := ih x.a.toNat ha.2 w.drew (by omega) (h.ext hEd)
      rw [← hai] at hf
      refine call hf ?_
      rintro v w1 ⟨rfl, hE1⟩
      refine ⟨hEd.trans hE1, ?_⟩
      have hf2 := ih x.b.toNat hb.2 w1 (by omega) (h.ext (hEd.trans hE1))
      rw [← hbi] at hf2
      refine call hf2 ?_
      rintro v w2 ⟨rfl, hE2⟩
      refine ⟨(hEd.trans hE1).trans hE2, ?_⟩
      refine norm_i64_to ((ng (T d x.a.toNat) + ng (T d x.b.toNat) : Nat) : Int) (by omega) (by omega) ?_
      exact ⟨by rw [hng], (hEd.trans hE1).trans hE2⟩
    refine cutIn [] gx_ok [27] (fun b : Bool => [.bool b]) (fun b w' => w = w' ∧ (b = true ↔ x.k = 4 ∨ x.k = 5)) ?_ ?_
    · refine wif_eq (fun k4 => ?_) (fun k4 => ?_)
      · exact ⟨true, by simp [k4]; rfl, rfl, by simp [k4]⟩
      · exact ⟨_, rfl, rfl, by simp [k4]⟩
    rintro b _ ⟨rfl, hbk⟩
    refine wif (fun hb1 => ?_) (fun hb1 => ?_)
    · have hk45 := hbk.1 hb1
      have har1 : 1 ≤ arI x.k := by
        rcases hk45 with h | h
        · have := har.2.2.2.2.1 h; omega
        · have := har.2.2.2.2.2.1 h; omega
      have ha := hnx.a_lt har1
      have hai : x.a = ((x.a.toNat : Nat) : Int) := by omega
      have hval : ng (T d i) = ng (T d x.a.toNat) := by
        rw [hT, if_neg (by omega), if_neg (by omega), if_neg (by omega)]
        split
        · rfl
        · rw [if_pos (by omega)]; rfl
      refine index_sls nd_len h rfl hi (fun p2 x2 hx2 hc2 => ?_)
      cases Option.some.inj (hx2.symm.trans hx)
      refine load (hc2 3 _ rfl) ?_
      have hf := ih x.a.toNat ha.2 w (by omega) h
      rw [← hai] at hf
      refine call hf ?_
      rintro v w1 ⟨rfl, hE1⟩
      exact ⟨by rw [hval], hE1⟩
    · have hn45 : ¬ (x.k = 4 ∨ x.k = 5) := fun h => by rw [hbk.2 h] at hb1; cases hb1
      refine wif_eq (fun k6 => ?_) (fun k6 => ?_)
      · have ha := hnx.a_lt (by have := har.2.2.2.2.2.2 k6; omega)
        have hai : x.a = ((x.a.toNat : Nat) : Int) := by omega
        have hval : ng (T d i) = ng (T d x.a.toNat) + 1 := by
          rw [hT, if_neg (by omega), if_neg (by omega), if_neg (by omega), if_neg (by omega), if_neg (by omega), if_pos k6]; rfl
        refine index_sls nd_len h rfl hi (fun p2 x2 hx2 hc2 => ?_)
        cases Option.some.inj (hx2.symm.trans hx)
        refine load (hc2 3 _ rfl) ?_
        have hf := ih x.a.toNat ha.2 w (by omega) h
        rw [← hai] at hf
        refine call hf ?_
        rintro v w1 ⟨rfl, hE1⟩
        refine norm_i64_to ((ng (T d x.a.toNat) + 1 : Nat) : Int) (by omega) (by omega) ?_
        exact ⟨by rw [hval], hE1⟩
      · have hval : ng (T d i) = 0 := by
          rw [hT]
          split
          · rfl
          split
          · rfl
          rw [if_neg (by omega), if_neg (by omega)]
          rfl
        exact ⟨by rw [hval]; rfl, Ext.refl _⟩

theorem few26_fn (A : Option Addr) (n c : Nat) (d : List Nd) (hv : Valid d) (w : World) (h : SD w A n c d) :
    Fn Try.prog 34 [.slice A n c, .int .i64 8] w (fun v w' => v = .bool (decide (ng (T d (d.length - 1)) ≤ 8)) ∧ Ext w w') := by
  have hlen := h.2
  have hpos := hv.2.1
  have hle := hv.1
  refine fn_of_exec (c := c34) gx_ok Try.func34 rfl rfl rfl ?_
  refine norm_i64_to ((d.length - 1 : Nat) : Int) (by omega) (by omega) ?_
  refine call (groups26_fn A n c d hv (d.length - 1) w (by omega) h) ?_
  rintro v w1 ⟨rfl, hE1⟩
  refine ⟨?_, hE1⟩
  congr 1
  exact decide_eq_decide.2 (by omega)

theorem less26_fn (a b : Nat × Nat) (w : World) : Fn Try.prog 39 [.agg #[.int .i64 a.1, .int .i64 a.2], .agg #[.int .i64 b.1, .int .i64 b.2]] w (fun v w' => v = .bool (ltC a b) ∧ Ext w w') := by
  refine fn_of_exec (c := c39) gx_ok Try.func39 rfl rfl rfl ?_
  refine new (fun w1 hE1 hz1 hB1 => ?_)
  refine new (fun w2 hE2 hz2 hB2 => ?_)
  have hA := hB1.ext hE2
  have hE := hE1.trans hE2
  unfold ltC
  refine load_blk hA rfl ?_
  refine load_blk hB2 rfl ?_
  refine wif_d (fun h1 => ?_) (fun h1 => ?_)
  · exact ⟨by rw [decide_eq_true (show a.1 < b.1 by omega)]; rfl, hE⟩
  rw [decide_eq_false (show ¬ a.1 < b.1 by omega)]
  refine load_blk hA rfl ?_
  refine load_blk hB2 rfl ?_
  refine wif_eq (fun h2 => ?_) (fun h2 => ?_)
  · rw [decide_eq_true (show a.1 = b.1 by omega)]
    refine load_blk hA rfl ?_
    refine load_blk hB2 rfl ?_
    refine ⟨?_, hE⟩
    simp
  · rw [decide_eq_false (show ¬ a.1 = b.1 by omega)]
    exact ⟨rfl, hE⟩
end Go.Proofs.Ytbkadgdhmfolaaa
namespace Go.Proofs.Ytbkadgdhmfolaaa
open Go Go.RowKit

theorem Mod.cell {S : Nat → Prop} {w w' : World} (k : Mod S w w') {a : Addr} {v : Value} (h : w.cell? a = some v) (hn : ¬ S a.block) : w'.cell? a = some v := by
  have hlt := World.block_lt_of_cell? w a h
  have e := k.block a.block hlt hn
  unfold World.cell? at h ⊢
  rw [e]; exact h
theorem Sl.modS {S : Nat → Prop} {w w' : World} {sz n c : Nat} {A : Option Addr} {cs : List Value} (h : Sl w sz A n c cs) (k : Mod S w w') (hn : 0 < n → ∀ i, rowS A i → ¬ S i) : Sl w' sz A n c cs :=
  ⟨h.len, h.le, h.cap, fun h0 => by
    obtain ⟨ad, rfl, hc⟩ := h.at_ h0
    exact ⟨ad, rfl, fun j u hu => k.cell (hc j u hu) (hn h0 _ ⟨ad, rfl, (blk_add ad j).symm⟩)⟩⟩

/-- The elements of a list of choices; their rows are none of C. -/
structure LLok (w : World) (base : Nat) (C : Option Addr) (ls : List (List Bool)) (vs : List Value) : Prop where
  len : vs.length = ls.length
  el : ∀ (j : Nat) (l : List Bool), ls[j]? = some l → ∃ B cp, vs[j]? = some (.slice B l.length cp) ∧ Sl w 1 B l.length cp (boolsV l) ∧ (0 < l.length → ∀ k, rowS B k → base ≤ k ∧ k < w.heap.size ∧ ¬ rowS C k)
theorem LLok.nil (w : World) (base : Nat) (C : Option Addr) : LLok w base C [] [] := ⟨rfl, fun j l h => by simp at h⟩
theorem LLok.step {S : Nat → Prop} {w w' : World} {base : Nat} {C C' : Option Addr} {ls : List (List Bool)} {vs : List Value} (h : LLok w base C ls vs) (k : Mod S w w') (hs : ∀ i, S i → rowS C i ∨ w.heap.size ≤ i) (hm : ∀ i, rowS C' i → rowS C i ∨ w.heap.size ≤ i) : LLok w' base C' ls vs :=
  ⟨h.len, fun j l hl => by
    obtain ⟨B, cp, h1, h2, h3⟩ := h.el j l hl
    refine ⟨B, cp, h1, h2.modS k (fun h0 i hi hS => ?_), fun h0 i hi => ?_⟩
    · obtain ⟨_, h5, h6⟩ := h3 h0 i hi
      rcases hs i hS with h7 | h7
      · exact h6 h7
      · omega
    · obtain ⟨h4, h5, h6⟩ := h3 h0 i hi
      refine ⟨h4, Nat.lt_of_lt_of_le h5 k.size, fun hC => ?_⟩
      rcases hm i hC with h7 | h7
      · exact h6 h7
      · omega⟩
theorem LLok.push {w : World} {base : Nat} {C : Option Addr} {ls : List (List Bool)} {vs : List Value} (h : LLok w base C ls vs) {l : List Bool} {B : Option Addr} {cp : Nat} (hS : Sl w 1 B l.length cp (boolsV l)) (hr : 0 < l.length → ∀ k, rowS B k → base ≤ k ∧ k < w.heap.size ∧ ¬ rowS C k) : LLok w base C (ls ++ [l]) (vs ++ [.slice B l.length cp]) := by
  refine ⟨by simp [h.len], fun j l' hl' => ?_⟩
  by_cases hj : j < ls.length
  · rw [List.getElem?_append_left hj] at hl'
    obtain ⟨B', cp', h1, h2⟩ := h.el j l' hl'
    exact ⟨B', cp', by rw [List.getElem?_append_left (by rw [h.len]; exact hj)]; exact h1, h2⟩
  · rw [List.getElem?_append_right (by omega)] at hl'
    have hlt := (List.getElem?_eq_some_iff.1 hl').1
    have hj0 : j - ls.length = 0 := by simp at hlt; omega
    rw [hj0] at hl'
    simp at hl'
    subst hl'
    exact ⟨B, cp, by rw [List.getElem?_append_right (by rw [h.len]; omega), h.len, hj0]; rfl, hS, hr⟩

/-- A list of choices that grows. -/
def OutL (base : Nat) (w : World) (C : Option Addr) (cp : Nat) (ls : List (List Bool)) : Prop := ∃ vs, Own w base 32 1 C ls.length cp vs ∧ LLok w base C ls vs
theorem OutL.ext {base : Nat} {w w' : World} {C : Option Addr} {cp : Nat} {ls : List (List Bool)} (h : OutL base w C cp ls) (k : Ext w w') : OutL base w' C cp ls := by
  obtain ⟨vs, h1, h2⟩ := h
  exact ⟨vs, h1.ext k, h2.step (Mod.of_ext (fun _ => False) k) (fun i hi => hi.elim) (fun i hi => .inl hi)⟩
theorem OutL.app {base : Nat} {w w' : World} {C C' : Option Addr} {c' : Nat} {ls : List (List Bool)} {vs : List Value} {l : List Bool} {B : Option Addr} {cB : Nat} (h : LLok w base C ls vs) (hm : Mod (rowS C) w w') (hown : Own w' base 32 1 C' (ls.length + 1) c' (vs ++ [.slice B l.length cB])) (hmv : Moved w C C')
    (hS : Sl w 1 B l.length cB (boolsV l)) (hr : 0 < l.length → ∀ k, rowS B k → base ≤ k ∧ k < w.heap.size ∧ ¬ rowS C k) : OutL base w' C' c' (ls ++ [l]) := by
  refine ⟨vs ++ [.slice B l.length cB], by rw [List.length_append]; exact hown, (h.step hm (fun i hi => .inl hi) hmv.rows).push (hS.modS hm (fun h0 i hi => (hr h0 i hi).2.2)) (fun h0 k hk => ?_)⟩
  obtain ⟨h1, h2, h3⟩ := hr h0 k hk
  refine ⟨h1, Nat.lt_of_lt_of_le h2 hm.size, fun hC => ?_⟩
  rcases hmv.rows k hC with h4 | h4
  · exact h3 h4
  · omega

/-- A list of choices that is handed back. -/
def LRes (ls : List (List Bool)) (w : World) (v : Value) (w' : World) : Prop := ∃ C cp vs, v = .slice C ls.length cp ∧ Ext w w' ∧ Sl w' 1 C ls.length cp vs ∧ LLok w' w.heap.size none ls vs ∧ (0 < ls.length → ∀ k, rowS C k → w.heap.size ≤ k ∧ k < w'.heap.size)
theorem OutL.res {w w' : World} {C : Option Addr} {cp : Nat} {ls : List (List Bool)} (h : OutL w.heap.size w' C cp ls) (hE : Ext w w') : LRes ls w (.slice C ls.length cp) w' := by
  obtain ⟨vs, h1, h2⟩ := h
  refine ⟨C, cp, vs, rfl, hE, h1.sl, ⟨h2.len, fun j l hl => ?_⟩, fun _ k hk => h1.rows k hk⟩
  obtain ⟨B, cB, h3, h4, h5⟩ := h2.el j l hl
  exact ⟨B, cB, h3, h4, fun h0 k hk => ⟨(h5 h0 k hk).1, (h5 h0 k hk).2.1, fun ⟨_, e, _⟩ => by cases e⟩⟩
theorem LRes.up {ls : List (List Bool)} {w0 w w' : World} {v : Value} (h : LRes ls w v w') (hE : Ext w0 w) : LRes ls w0 v w' := by
  obtain ⟨C, cp, vs, rfl, h1, h2, h3, h4⟩ := h
  have := hE.size
  exact ⟨C, cp, vs, rfl, hE.trans h1, h2, ⟨h3.len, fun j l hl => by
    obtain ⟨B, cB, h5, h6, h7⟩ := h3.el j l hl
    exact ⟨B, cB, h5, h6, fun h0 k hk => ⟨by have := (h7 h0 k hk).1; omega, (h7 h0 k hk).2⟩⟩⟩, fun h0 k hk => ⟨by have := (h4 h0 k hk).1; omega, (h4 h0 k hk).2⟩⟩

theorem nrm_pos (t : Dt) : 0 < (nrm t).length := List.length_pos_iff.2 (nrm_ne t)
theorem nrm_le : ∀ (t : Dt), (nrm t).length ≤ 2 ^ ng t
  | .text _ => Nat.le_refl _
  | .line _ => Nat.le_refl _
  | .hard => Nat.le_refl _
  | .seq a b => by
    have h1 := nrm_le a
    have h2 := nrm_le b
    have h3 : ∀ (l : List (List Bool)), (l.flatMap fun x => (nrm b).map fun y => x ++ y).length = l.length * (nrm b).length := by
      intro l
      induction l with
      | nil => simp
      | cons x l ih => simp only [List.flatMap_cons, List.length_append, List.length_map, ih, List.length_cons, Nat.succ_mul]; omega
    simp only [nrm, ng]
    rw [h3, Nat.pow_add]
    exact Nat.mul_le_mul h1 h2
  | .nest _ a => nrm_le a
  | .align a => nrm_le a
  | .group a => by
    have h1 := nrm_le a
    have h2 := nrm_pos a
    simp only [nrm, ng, List.length_append, List.length_map, Nat.pow_succ]
    split <;> simp <;> omega
theorem nrm_256 {t : Dt} (h : ng t ≤ 8) : (nrm t).length ≤ 256 := Nat.le_trans (nrm_le t) (Nat.pow_le_pow_right (n := 2) (by decide) h)
/-- What the two loops have made so far. -/
def seqL (xs ys : List (List Bool)) (i k : Nat) : List (List Bool) := (xs.take i).flatMap (fun x => ys.map fun y => x ++ y) ++ (match xs[i]? with
  | some x => (ys.take k).map fun y => x ++ y
  | none => [])
theorem seqL_next {xs ys : List (List Bool)} {i k : Nat} {x y : List Bool} (hx : xs[i]? = some x) (hy : ys[k]? = some y) : seqL xs ys i k ++ [x ++ y] = seqL xs ys i (k + 1) := by
  unfold seqL
  rw [hx]
  dsimp only
  rw [List.take_add_one, hy]
  simp
theorem seqL_row {xs ys : List (List Bool)} {i : Nat} {x : List Bool} (hx : xs[i]? = some x) : seqL xs ys i ys.length = seqL xs ys (i + 1) 0 := by
  unfold seqL
  rw [hx]
  dsimp only
  rw [List.take_length, List.take_add_one, hx, List.flatMap_append]
  cases xs[i + 1]? <;> simp
theorem seqL_zero (xs ys : List (List Bool)) : seqL xs ys 0 0 = [] := by
  unfold seqL
  cases xs[0]? <;> simp
theorem seqL_all (xs ys : List (List Bool)) : seqL xs ys xs.length 0 = xs.flatMap (fun x => ys.map fun y => x ++ y) := by
  unfold seqL
  rw [List.take_length, List.getElem?_eq_none (Nat.le_refl _)]
  simp
theorem mul_lim {a b i : Nat} (hi : i ≤ a) : i * b ≤ a * b := Nat.mul_le_mul_right b hi
theorem seqL_len (xs ys : List (List Bool)) (i k : Nat) (hi : i ≤ xs.length) (hk : k ≤ ys.length) : (seqL xs ys i k).length ≤ (xs.length + 1) * ys.length := by
  have h3 : ∀ (l : List (List Bool)), (l.flatMap fun x => ys.map fun y => x ++ y).length = l.length * ys.length := by
    intro l
    induction l with
    | nil => simp
    | cons x l ih => simp only [List.flatMap_cons, List.length_append, List.length_map, ih, List.length_cons, Nat.succ_mul]; omega
  unfold seqL
  rw [List.length_append, h3, List.length_take, Nat.min_eq_left hi]
  have h4 := mul_lim (b := ys.length) hi
  have h5 : (match xs[i]? with
    | some x => (ys.take k).map fun y => x ++ y
    | none => ([] : List (List Bool))).length ≤ ys.length := by
    split
    · simp; omega
    · simp
  rw [Nat.succ_mul]
  omega
end Go.Proofs.Ytbkadgdhmfolaaa
namespace Go.Proofs.Ytbkadgdhmfolaaa
open Go Go.RowKit

set_option maxHeartbeats 2000000 in
theorem normal_fn (A : Option Addr) (n c : Nat) (d : List Nd) (hv : Valid d) : ∀ (i : Nat) (w : World), i < n → SD w A n c d → ng (T d i) ≤ 8 →
    Fn Try.prog 38 [.slice A n c, .int .i64 i] w (fun v w' => LRes (nrm (T d i)) w v w') := by
  intro i
  induction i using Nat.strongRecOn with
  | _ i ih =>
    intro w hi h h8
    have hd := hv.ok
    have hlen := h.2
    have hle := hv.1
    have h256 := nrm_256 h8
    refine fn_of_exec (c := { c38 with cuts := [14, 18] }) gx_ok Try.func38 rfl rfl rfl ?_
    refine at_build0 gx_ok rfl rfl rfl rfl rfl rfl ?_
    intro w1 hE1 hz1 hB1
    have hown1 : Own w1 w.heap.size 32 1 (some ⟨w.heap.size, 0, none⟩) 0 0 [] := Own.empty hB1 (Nat.le_refl _)
    have hOut1 : OutL w.heap.size w1 (some ⟨w.heap.size, 0, none⟩) 0 [] := ⟨[], hown1, LLok.nil _ _ _⟩
    have h1 := h.ext hE1
    refine index_sls nd_len h1 rfl hi (fun p x hx hc => ?_)
    have hnx := hd i x hx
    have har := arI_of (k := x.k)
    have hk := arI_kind hnx.1
    have hT := T_eq hd hx
    refine load (hc 0 _ rfl) ?_
    have ldx : ∀ (w' : World), Ext w w' → ∀ (j : Nat) (v : Value), x.cells[j]? = some v → ∀ {K : Addr → Prop}, (∀ ad : Addr, (∀ i v, x.cells[i]? = some v → w'.cell? (ad.add i) = some v) → K ad) → Index A n (i : Int) 5 K := fun w' hE j v _ K hK => by
      refine index_sls nd_len (h.ext hE) rfl hi (fun p2 x2 hx2 hc2 => ?_)
      cases Option.some.inj (hx2.symm.trans hx)
      exact hK _ hc2
    refine wif_eq (fun k3 => ?_) (fun k3 => ?_)
    · rw [if_neg (by omega), if_neg (by omega), if_pos k3] at hT
      have ha := hnx.a_lt (by have := har.2.2.2.1 k3; omega)
      have hb := hnx.b_lt (by have := har.2.2.2.1 k3; omega)
      have hai : x.a = ((x.a.toNat : Nat) : Int) := by omega
      have hbi : x.b = ((x.b.toNat : Nat) : Int) := by omega
      have hng : ng (T d i) = ng (T d x.a.toNat) + ng (T d x.b.toNat) := by rw [hT]; rfl
      have hla := nrm_256 (t := T d x.a.toNat) (by omega)
      have hlb := nrm_256 (t := T d x.b.toNat) (by omega)
      have hnr : nrm (T d i) = (nrm (T d x.a.toNat)).flatMap fun x' => (nrm (T d x.b.toNat)).map fun y => x' ++ y := by rw [hT]; rfl
      have hll : ∀ l ∈ nrm (T d x.a.toNat), l.length ≤ 8 := fun l hl => by rw [nrm_len _ l hl]; omega
      have hlr : ∀ l ∈ nrm (T d x.b.toNat), l.length ≤ 8 := fun l hl => by rw [nrm_len _ l hl]; omega
      refine ldx w1 hE1 3 _ rfl (fun ad hcc => ?_)
      refine load (hcc 3 _ rfl) ?_
      have hf := ih x.a.toNat ha.2 w1 (by omega) h1 (by omega)
      rw [← hai] at hf
      refine call hf ?_
      rintro v w2 ⟨Ca, cpa, va, rfl, hE2, hSa, hLa, hRa⟩
      have hE02 := hE1.trans hE2
      refine ldx w2 hE02 4 _ rfl (fun ad2 hcc2 => ?_)
      refine load (hcc2 4 _ rfl) ?_
      have hf2 := ih x.b.toNat hb.2 w2 (by omega) (h.ext hE02) (by omega)
      rw [← hbi] at hf2
      refine call hf2 ?_
      rintro v w3 ⟨Cb, cpb, vb, rfl, hE3, hSb, hLb, hRb⟩
      have hE03 := hE02.trans hE3
      have hz2 := hE2.size
      have hz3 := hE3.size
      have hSa3 := hSa.ext hE3
      have hLa3 := hLa.step (Mod.of_ext (fun _ => False) hE3) (fun i hi => hi.elim) (C' := none) (fun i hi => .inl hi)
      have hOut3 := hOut1.ext (hE2.trans hE3)
      clear hOut1 hown1 hB1
      generalize hxs : nrm (T d x.a.toNat) = xs at *
      generalize hys : nrm (T d x.b.toNat) = ys at *
      refine loop gx_ok [5, 8] (fun s : Option Addr × Nat × Nat => [.slice s.1 (seqL xs ys s.2.2 0).length s.2.1, .int .i64 s.2.2]) (fun s w' => Mod (· = w.heap.size) w3 w' ∧ OutL w.heap.size w' s.1 s.2.1 (seqL xs ys s.2.2 0) ∧ (∀ k, rowS s.1 k → k = w.heap.size ∨ w3.heap.size ≤ k) ∧ s.2.2 ≤ xs.length) (fun s _ => xs.length - s.2.2) (some ⟨w.heap.size, 0, none⟩, 0, 0) (by rw [seqL_zero]; rfl) ⟨Mod.refl _ _, by rw [seqL_zero]; exact hOut3, fun k hk => by obtain ⟨ad, e, hb⟩ := hk; cases e; exact .inl hb.symm, Nat.zero_le _⟩ ?_
      rintro ⟨C, cp, s⟩ w4 ⟨hm4, hO4, hC4, hs4⟩
      dsimp only at hO4 hC4 hs4 ⊢
      refine wif_d (fun g1 => ?_) (fun g1 => ?_)
      · have hsl : s < xs.length := by omega
        have hxe : xs[s]? = some xs[s] := List.getElem?_eq_getElem hsl
        have hxl := hll _ (List.mem_of_getElem? hxe)
        generalize xs[s] = lx at hxe hxl
        refine loop gx_ok [5, 9] (fun t : Option Addr × Nat × Nat => [.slice t.1 (seqL xs ys s t.2.2).length t.2.1, .int .i64 t.2.2]) (fun t w' => Mod (· = w.heap.size) w3 w' ∧ OutL w.heap.size w' t.1 t.2.1 (seqL xs ys s t.2.2) ∧ (∀ k, rowS t.1 k → k = w.heap.size ∨ w3.heap.size ≤ k) ∧ t.2.2 ≤ ys.length) (fun t _ => ys.length - t.2.2) (C, cp, 0) rfl ⟨hm4, hO4, hC4, Nat.zero_le _⟩ ?_
        rintro ⟨C5, cp5, k⟩ w5 ⟨hm5, ⟨vs5, hown5, hL5⟩, hC5, hk5⟩
        dsimp only at hown5 hL5 hC5 hk5 ⊢
        have hll5 := seqL_len xs ys s k hs4 hk5
        have hmm := Nat.mul_le_mul (show xs.length + 1 ≤ 257 by omega) (show ys.length ≤ 256 by omega)
        refine wif_d (fun g2 => ?_) (fun g2 => ?_)
        · have hkl : k < ys.length := by omega
          have hye : ys[k]? = some ys[k] := List.getElem?_eq_getElem hkl
          have hyl := hlr _ (List.mem_of_getElem? hye)
          generalize ys[k] = ly at hye hyl
          obtain ⟨Bx, cbx, hvx, hSx, hRx⟩ := hLa3.el s lx hxe
          obtain ⟨By, cby, hvy, hSy, hRy⟩ := hLb.el k ly hye
          have hoff : ∀ k, w.heap.size < k → k < w3.heap.size → ¬ rowS C5 k := fun k h1 h2 hr => by
            rcases hC5 k hr with h3 | h3 <;> omega
          have hz5 := hm5.size
          have hSa5 := hSa3.modS hm5 (fun h0 i hi => by have := (hRa (by omega) i hi).1; omega)
          have hSb5 := hSb.modS hm5 (fun h0 i hi => by have := (hRb (by omega) i hi).1; omega)
          have hSx5 := hSx.modS hm5 (fun h0 i hi => by have := (hRx h0 i hi).1; omega)
          have hSy5 := hSy.modS hm5 (fun h0 i hi => by have := (hRy h0 i hi).1; omega)
          have hEd := Ext.drew w5
          refine draw_plan gx_ok (Mod (rowS C5) w5) 15 [(true, 0), (true, 2), (true, 3), (true, 4), (true, 5), (true, 7), (true, 8), (true, 9), (true, 10), (false, 1), (false, 6), (false, 11), (false, 12), (false, 13), (true, 14)] (by kernel_rfl) (Mod.of_ext _ hEd) ?_
          refine index_sl hSa5 hsl (fun ad u hA hu hcell => ?_)
          cases Option.some.inj (hu.symm.trans hvx)
          have hnoa : ¬ rowS C5 ad.block := hoff _ (by have := (hRa (by omega) _ ⟨ad, hA, rfl⟩).1; omega) (by have := (hRa (by omega) _ ⟨ad, hA, rfl⟩).2; omega)
          refine qload (fun w' hw' => hw'.cell hcell (by rw [blk_add]; exact hnoa)) ?_
          refine index_sl hSb5 hkl (fun ad2 u2 hA2 hu2 hcell2 => ?_)
          cases Option.some.inj (hu2.symm.trans hvy)
          have hnob : ¬ rowS C5 ad2.block := hoff _ (by have := (hRb (by omega) _ ⟨ad2, hA2, rfl⟩).1; omega) (by have := (hRb (by omega) _ ⟨ad2, hA2, rfl⟩).2; omega)
          refine qload (fun w' hw' => hw'.cell hcell2 (by rw [blk_add]; exact hnob)) ?_
          refine at_build0 gx_ok rfl rfl rfl rfl rfl rfl ?_
          intro w6 hE6 hz6 hB6
          have hE56 := hEd.trans hE6
          have hzd := hEd.size
          refine ⟨Mod.of_ext _ hE56, ?_⟩
          have hown6 : Own w6 w5.heap.size 4 1 (some ⟨w5.drew.heap.size, 0, none⟩) 0 0 [] := Own.empty hB6 hzd
          refine at_app gx_ok rfl rfl rfl rfl rfl (by decide) rfl rfl ⟨_, rfl⟩ rfl rfl hown6 (hSx5.ext hE56) (boolsV_scalar _) (by unfold maxLen; omega) (by show _ * 1 ≤ _; omega) (by have := hE56.size; omega) ?_
          intro A7 c7 w7 hm7 hown7 _
          have hE57 : Ext w5 w7 := hm7.ext hE56 (fun k hk => (hown6.rows k hk).1)
          refine ⟨Mod.of_ext _ hE57, ?_⟩
          refine at_app gx_ok rfl rfl rfl rfl rfl (by decide) rfl rfl ⟨_, rfl⟩ rfl rfl hown7 (hSy5.ext hE57) (boolsV_scalar _) (by unfold maxLen; omega) (by show _ * 1 ≤ _; omega) (by have := hE57.size; omega) ?_
          intro A8 c8 w8 hm8 hown8 _
          have hE58 : Ext w5 w8 := hm8.ext hE57 (fun k hk => (hown7.rows k hk).1)
          refine ⟨Mod.of_ext _ hE58, ?_⟩
          have hlenxy : 0 + lx.length + ly.length = (lx ++ ly).length := by simp
          rw [hlenxy] at hown8
          rw [hlenxy]
          refine at_build1 gx_ok rfl rfl rfl rfl rfl rfl rfl rfl ?_
          intro w9 hE9 hz9 hB9
          have hE59 := hE58.trans hE9
          refine ⟨Mod.of_ext _ hE59, ?_⟩
          have hrow8 : ∀ k, rowS A8 k → w5.heap.size ≤ k ∧ k < w8.heap.size := fun k hk => hown8.rows k hk
          refine at_app gx_ok rfl rfl rfl rfl rfl (by decide) rfl rfl ⟨_, rfl⟩ rfl rfl (hown5.ext hE59) (Sl.own' hB9 rfl (by simp [maxLen])) (by simp [scalar]) (by unfold maxLen; omega) (by show _ * 24 ≤ _; omega) (by have := hE59.size; have := hm5.size; omega) ?_
          intro C10 c10 w10 hm10 hown10 hmv10
          have hm510 : Mod (rowS C5) w5 w10 := (Mod.of_ext (rowS C5) hE59).trans hm10 (fun i hi => .inl hi)
          refine ⟨hm510, ?_⟩
          have hL9 := hL5.step (Mod.of_ext (fun _ => False) hE59) (fun i hi => hi.elim) (C' := C5) (fun i hi => .inl hi)
          have hS8 : Sl w8 1 A8 (lx ++ ly).length c8 (boolsV (lx ++ ly)) := by
            have := hown8.sl
            simpa [boolsV] using this
          have hout10 : OutL w.heap.size w10 C10 c10 (seqL xs ys s k ++ [lx ++ ly]) := OutL.app hL9 hm10 hown10 hmv10 (hS8.ext hE9) (fun h0 k hk => by
            have h7 := hrow8 k hk
            have h8 := hE9.size
            have h9 := (hE03.size)
            refine ⟨by omega, by omega, fun hC => ?_⟩
            have := (hown5.rows k hC).2
            omega)
          rw [seqL_next hxe hye] at hout10
          have hlen10 : (seqL xs ys s k).length + 1 = (seqL xs ys s (k + 1)).length := by rw [← seqL_next hxe hye]; simp
          rw [hlen10]
          refine norm_i64_to ((k + 1 : Nat) : Int) (by omega) (by omega) ?_
          refine ⟨(C10, c10, k + 1), rfl, ⟨hm5.trans hm510 (fun i hi => hC5 i hi), hout10, fun k hk => ?_, by dsimp only; omega⟩, by show ys.length - (k + 1) < ys.length - k; omega⟩
          rcases hmv10.rows k hk with h7 | h7
          · exact hC5 k h7
          · exact .inr (by have := hE59.size; omega)
        · have hke : k = ys.length := by omega
          subst hke
          rw [seqL_row hxe] at hown5 hL5 ⊢
          refine norm_i64_to ((s + 1 : Nat) : Int) (by omega) (by omega) ?_
          exact ⟨(C5, cp5, s + 1), rfl, ⟨hm5, ⟨vs5, hown5, hL5⟩, hC5, by dsimp only; omega⟩, by show xs.length - (s + 1) < xs.length - s; omega⟩
      · have hse : s = xs.length := by omega
        subst hse
        rw [seqL_all, ← hnr] at hO4 ⊢
        exact hO4.res (hm4.ext hE03 (fun i hi => by omega))
    refine cutIn [] gx_ok [63] (fun b : Bool => [.bool b]) (fun b w' => w1 = w' ∧ (b = true ↔ x.k = 4 ∨ x.k = 5)) ?_ ?_
    · refine wif_eq (fun k4 => ?_) (fun k4 => ?_)
      · exact ⟨true, by simp [k4]; rfl, rfl, by simp [k4]⟩
      · exact ⟨_, rfl, rfl, by simp [k4]⟩
    rintro b _ ⟨rfl, hbk⟩
    refine wif (fun hb1 => ?_) (fun hb1 => ?_)
    · have hk45 := hbk.1 hb1
      have har1 : 1 ≤ arI x.k := by
        rcases hk45 with h | h
        · have := har.2.2.2.2.1 h; omega
        · have := har.2.2.2.2.2.1 h; omega
      have ha := hnx.a_lt har1
      have hai : x.a = ((x.a.toNat : Nat) : Int) := by omega
      have hval : nrm (T d i) = nrm (T d x.a.toNat) ∧ ng (T d i) = ng (T d x.a.toNat) := by
        rw [hT, if_neg (by omega), if_neg (by omega), if_neg (by omega)]
        split
        · exact ⟨rfl, rfl⟩
        · rw [if_pos (by omega)]; exact ⟨rfl, rfl⟩
      refine ldx w1 hE1 3 _ rfl (fun ad hcc => ?_)
      refine load (hcc 3 _ rfl) ?_
      have hf := ih x.a.toNat ha.2 w1 (by omega) h1 (by omega)
      rw [← hai] at hf
      refine call hf ?_
      rintro v w2 hres
      rw [hval.1]
      exact hres.up hE1
    · have hn45 : ¬ (x.k = 4 ∨ x.k = 5) := fun h => by rw [hbk.2 h] at hb1; cases hb1
      refine wif_eq (fun k6 => ?_) (fun k6 => ?_)
      · have ha := hnx.a_lt (by have := har.2.2.2.2.2.2 k6; omega)
        have hai : x.a = ((x.a.toNat : Nat) : Int) := by omega
        have hTg : T d i = .group (T d x.a.toNat) := by
          rw [hT, if_neg (by omega), if_neg (by omega), if_neg (by omega), if_neg (by omega), if_neg (by omega), if_pos k6]
        have hnr : nrm (T d i) = (if hasHard (T d x.a.toNat) then [] else [List.replicate (ng (T d x.a.toNat) + 1) true]) ++ (nrm (T d x.a.toNat)).map fun x => false :: x := by rw [hTg]; rfl
        have hng : ng (T d i) = ng (T d x.a.toNat) + 1 := by rw [hTg]; rfl
        have hla := nrm_256 (t := T d x.a.toNat) (by omega)
        have hll : ∀ l ∈ nrm (T d x.a.toNat), l.length ≤ 8 := fun l hl => by rw [nrm_len _ l hl]; omega
        refine cutIn [] gx_ok [5] (fun s : Option Addr × Nat => [.slice s.1 (if hasHard (T d x.a.toNat) then [] else [List.replicate (ng (T d x.a.toNat) + 1) true] : List (List Bool)).length s.2]) (fun s w' => Ext w w' ∧ OutL w.heap.size w' s.1 s.2 (if hasHard (T d x.a.toNat) then [] else [List.replicate (ng (T d x.a.toNat) + 1) true])) ?_ ?_
        · refine call (hard26_fn A n c d hd i w1 hi h1) ?_
          rintro v w2 ⟨rfl, hE2⟩
          have hhd : hasHard (T d i) = hasHard (T d x.a.toNat) := by rw [hTg]; rfl
          rw [hhd]
          have hE02 := hE1.trans hE2
          cases hh : hasHard (T d x.a.toNat) with
          | true =>
            refine wif_f rfl ?_
            exact ⟨(some ⟨w.heap.size, 0, none⟩, 0), rfl, hE02, by simpa using hOut1.ext hE2⟩
          | false =>
            refine wif_t rfl ?_
            refine at_build0 gx_ok rfl rfl rfl rfl rfl rfl ?_
            intro w3 hE3 hz3 hB3
            have hE03 := hE02.trans hE3
            have hown3 : Own w3 w2.heap.size 4 1 (some ⟨w2.heap.size, 0, none⟩) 0 0 [] := Own.empty hB3 (Nat.le_refl _)
            refine loop gx_ok [10, 11] (fun s : Option Addr × Nat × Nat => [.slice s.1 s.2.2 s.2.1, .int .i64 s.2.2]) (fun s w' => Ext w2 w' ∧ Own w' w2.heap.size 4 1 s.1 s.2.2 s.2.1 (boolsV (List.replicate s.2.2 true)) ∧ s.2.2 ≤ ng (T d i)) (fun s _ => ng (T d i) - s.2.2) (some ⟨w2.heap.size, 0, none⟩, 0, 0) rfl ⟨hE3, hown3, Nat.zero_le _⟩ ?_
            rintro ⟨C, cp, s⟩ w4 ⟨hE4, hown4, hs4⟩
            dsimp only at hown4 hs4 ⊢
            refine call (groups26_fn A n c d hv i w4 hi (h.ext (hE02.trans hE4))) ?_
            rintro v w5 ⟨rfl, hE5⟩
            have hE25 := hE4.trans hE5
            have hown5 := hown4.ext hE5
            refine wif_d (fun g1 => ?_) (fun g1 => ?_)
            · refine at_build1 gx_ok rfl rfl rfl rfl rfl rfl rfl rfl ?_
              intro w6 hE6 hz6 hB6
              refine at_app gx_ok rfl rfl rfl rfl rfl (by decide) rfl rfl ⟨_, rfl⟩ rfl rfl (hown5.ext hE6) (Sl.own' hB6 rfl (by simp [maxLen])) (by simp [scalar]) (by unfold maxLen; omega) (by show _ * 1 ≤ _; omega) (by have := hE25.size; have := hE6.size; omega) ?_
              intro A' c' w7 hm7 hown7 _
              have hstep : boolsV (List.replicate s true) ++ [Value.bool true] = boolsV (List.replicate (s + 1) true) := by simp [boolsV, List.replicate_succ']
              rw [hstep] at hown7
              refine norm_i64_to ((s + 1 : Nat) : Int) (by omega) (by omega) ?_
              exact ⟨(A', c', s + 1), rfl, ⟨hm7.ext (hE25.trans hE6) (fun k hk => (hown5.rows k hk).1), hown7, (by omega : s + 1 ≤ ng (T d i))⟩, by show ng (T d i) - (s + 1) < ng (T d i) - s; omega⟩
            · have hse : s = ng (T d x.a.toNat) + 1 := by omega
              subst hse
              refine at_build1 gx_ok rfl rfl rfl rfl rfl rfl rfl rfl ?_
              intro w6 hE6 hz6 hB6
              obtain ⟨vs0, hown0, hL0⟩ := hOut1.ext ((hE2.trans hE25).trans hE6)
              have hz25 := hE25.size
              have hz2 := hE2.size
              refine at_app gx_ok rfl rfl rfl rfl rfl (by decide) rfl rfl ⟨_, rfl⟩ rfl rfl hown0 (Sl.own' hB6 rfl (by simp [maxLen])) (by simp [scalar]) (by unfold maxLen; simp) (by simp) (by have := hE1.size; have := hE6.size; omega) ?_
              intro C' c' w7 hm7 hown7 hmv7
              have hrow5 := fun k hk => hown5.rows k hk
              have hout := OutL.app (l := List.replicate (ng (T d x.a.toNat) + 1) true) hL0 hm7 (by rw [List.length_replicate]; exact hown7) hmv7 (by rw [List.length_replicate]; exact hown5.sl.ext hE6) (fun _ k hk => by
                have h7 := hrow5 k hk
                have h8 := hE6.size
                refine ⟨by omega, by omega, ?_⟩
                rintro ⟨ad, e, hb⟩
                cases e
                dsimp only at hb
                omega)
              exact ⟨(C', c'), rfl, hm7.ext ((hE02.trans hE25).trans hE6) (fun k hk => by
                obtain ⟨ad, e, hb⟩ := hk
                cases e
                dsimp only at hb
                omega), hout⟩
        · rintro ⟨C0, cp0⟩ w2 ⟨hE2, hO2⟩
          dsimp only at hO2 ⊢
          generalize hL0 : (if hasHard (T d x.a.toNat) then [] else [List.replicate (ng (T d x.a.toNat) + 1) true] : List (List Bool)) = L0 at *
          have hL0l : L0.length ≤ 1 := by
            rw [← hL0]
            split <;> simp
          have hrow0 : ∀ k, rowS C0 k → w.heap.size ≤ k ∧ k < w2.heap.size := fun k hk => by
            obtain ⟨vs0, hown0, _⟩ := hO2
            exact hown0.rows k hk
          refine ldx w2 hE2 3 _ rfl (fun ad hcc => ?_)
          refine load (hcc 3 _ rfl) ?_
          have hf := ih x.a.toNat ha.2 w2 (by omega) (h.ext hE2) (by omega)
          rw [← hai] at hf
          refine call hf ?_
          rintro v w3 ⟨Ca, cpa, va, rfl, hE3, hSa, hLa, hRa⟩
          have hE03 := hE2.trans hE3
          have hz2 := hE2.size
          have hz3 := hE3.size
          have hO3 := hO2.ext hE3
          generalize hxs : nrm (T d x.a.toNat) = xs at *
          have hlen0 : ∀ s, s ≤ xs.length → (L0 ++ (xs.take s).map fun z => false :: z).length ≤ 257 := fun s hs => by
            rw [List.length_append, List.length_map, List.length_take]; omega
          refine loop gx_ok [5, 13] (fun s : Option Addr × Nat × Nat => [.slice s.1 (L0 ++ (xs.take s.2.2).map fun z => false :: z).length s.2.1, .int .i64 s.2.2]) (fun s w' => Mod (rowS C0) w3 w' ∧ OutL w.heap.size w' s.1 s.2.1 (L0 ++ (xs.take s.2.2).map fun z => false :: z) ∧ (∀ k, rowS s.1 k → rowS C0 k ∨ w3.heap.size ≤ k) ∧ s.2.2 ≤ xs.length) (fun s _ => xs.length - s.2.2) (C0, cp0, 0) (by simp; rfl) ⟨Mod.refl _ _, by simpa using hO3, fun k hk => .inl hk, Nat.zero_le _⟩ ?_
          rintro ⟨C5, cp5, s⟩ w5 ⟨hm5, ⟨vs5, hown5, hL5⟩, hC5, hs5⟩
          dsimp only at hown5 hL5 hC5 hs5 ⊢
          have hll5 := hlen0 s hs5
          refine wif_d (fun g1 => ?_) (fun g1 => ?_)
          · have hsl : s < xs.length := by omega
            have hxe : xs[s]? = some xs[s] := List.getElem?_eq_getElem hsl
            have hxl := hll _ (List.mem_of_getElem? hxe)
            generalize xs[s] = lx at hxe hxl
            obtain ⟨Bx, cbx, hvx, hSx, hRx⟩ := hLa.el s lx hxe
            have hoff : ∀ k, w2.heap.size ≤ k → k < w3.heap.size → ¬ rowS C5 k := fun k h1 h2 hr => by
              rcases hC5 k hr with h3 | h3
              · have := (hrow0 k h3).2; omega
              · omega
            have hz5 := hm5.size
            have hSa5 := hSa.modS hm5 (fun h0 i hi hc => by have := (hRa (by omega) i hi).1; have := (hrow0 i hc).2; omega)
            have hSx5 := hSx.modS hm5 (fun h0 i hi hc => by have := (hRx h0 i hi).1; have := (hrow0 i hc).2; omega)
            refine at_build1 gx_ok rfl rfl rfl rfl rfl rfl rfl rfl ?_
            intro w6 hE6 hz6 hB6
            have hown6 : Own w6 w5.heap.size 4 1 (some ⟨w5.heap.size, 0, none⟩) 1 1 (boolsV [false]) := Own.ofN (n := 1) (sz := 1) hB6 (Nat.le_refl _) rfl (by simp [maxLen])
            refine index_sl (hSa5.ext hE6) hsl (fun ad3 u hA hu hcell => ?_)
            cases Option.some.inj (hu.symm.trans hvx)
            refine load hcell ?_
            refine at_app gx_ok rfl rfl rfl rfl rfl (by decide) rfl rfl ⟨_, rfl⟩ rfl rfl hown6 (hSx5.ext hE6) (boolsV_scalar _) (by unfold maxLen; omega) (by show _ * 1 ≤ _; omega) (by have := hE6.size; omega) ?_
            intro A7 c7 w7 hm7 hown7 _
            have hE57 : Ext w5 w7 := hm7.ext hE6 (fun k hk => (hown6.rows k hk).1)
            have hlenx : 1 + lx.length = (false :: lx).length := by simp; omega
            rw [hlenx] at hown7
            rw [hlenx]
            refine at_build1 gx_ok rfl rfl rfl rfl rfl rfl rfl rfl ?_
            intro w9 hE9 hz9 hB9
            have hE59 := hE57.trans hE9
            have hrow7 : ∀ k, rowS A7 k → w5.heap.size ≤ k ∧ k < w7.heap.size := fun k hk => hown7.rows k hk
            refine at_app gx_ok rfl rfl rfl rfl rfl (by decide) rfl rfl ⟨_, rfl⟩ rfl rfl (hown5.ext hE59) (Sl.own' hB9 rfl (by simp [maxLen])) (by simp [scalar]) (by unfold maxLen; omega) (by show _ * 24 ≤ _; omega) (by have := hE59.size; omega) ?_
            intro C10 c10 w10 hm10 hown10 hmv10
            have hm510 : Mod (rowS C5) w5 w10 := (Mod.of_ext (rowS C5) hE59).trans hm10 (fun i hi => .inl hi)
            have hL9 := hL5.step (Mod.of_ext (fun _ => False) hE59) (fun i hi => hi.elim) (C' := C5) (fun i hi => .inl hi)
            have hS7 : Sl w7 1 A7 (false :: lx).length c7 (boolsV (false :: lx)) := hown7.sl
            have hout10 := OutL.app hL9 hm10 hown10 hmv10 (hS7.ext hE9) (fun h0 k hk => by
              have h7 := hrow7 k hk
              have h8 := hE9.size
              refine ⟨by omega, by omega, fun hC => ?_⟩
              have := (hown5.rows k hC).2
              omega)
            have hnext : (L0 ++ (xs.take s).map fun z => false :: z) ++ [false :: lx] = L0 ++ (xs.take (s + 1)).map fun z => false :: z := by
              rw [List.take_add_one, hxe]; simp
            rw [hnext] at hout10
            have hlen10 : (L0 ++ (xs.take s).map fun z => false :: z).length + 1 = (L0 ++ (xs.take (s + 1)).map fun z => false :: z).length := by rw [← hnext]; simp only [List.length_append, List.length_singleton]
            rw [hlen10]
            refine norm_i64_to ((s + 1 : Nat) : Int) (by omega) (by omega) ?_
            refine ⟨(C10, c10, s + 1), rfl, ⟨hm5.trans hm510 (fun i hi => hC5 i hi), hout10, fun k hk => ?_, by dsimp only; omega⟩, by show xs.length - (s + 1) < xs.length - s; omega⟩
            rcases hmv10.rows k hk with h7 | h7
            · exact hC5 k h7
            · exact .inr (by have := hE59.size; omega)
          · have hse : s = xs.length := by omega
            subst hse
            rw [List.take_length, ← hnr] at hown5 hL5 ⊢
            exact OutL.res ⟨vs5, hown5, hL5⟩ (hm5.ext hE03 (fun i hi => (hrow0 i hi).1))
      · have hk012 : x.k = 0 ∨ x.k = 1 ∨ x.k = 2 := by omega
        have hnr : nrm (T d i) = [[]] := by
          rw [hT]
          split
          · rfl
          split
          · rfl
          rw [if_neg (by omega), if_neg (by omega)]
          rfl
        rw [hnr]
        refine at_build0 gx_ok rfl rfl rfl rfl rfl rfl ?_
        intro w2 hE2 hz2 hB2
        refine at_build1 gx_ok rfl rfl rfl rfl rfl rfl rfl rfl ?_
        intro w3 hE3 hz3 hB3
        have hE13 := hE1.trans (hE2.trans hE3)
        have hz1' := hE1.size
        have hz2' := hE2.size
        refine ⟨some ⟨w2.heap.size, 0, none⟩, 1, [.slice (some ⟨w1.heap.size, 0, none⟩) 0 0], rfl, hE13, Sl.own' hB3 rfl (by simp [maxLen]), ⟨rfl, fun j l hl => ?_⟩, fun _ k hk => ?_⟩
        · cases j with
          | zero =>
            simp at hl
            subst hl
            exact ⟨some ⟨w1.heap.size, 0, none⟩, 0, rfl, Sl.empty _ _ _ _ (by unfold maxLen; omega), fun h0 => absurd h0 (by decide)⟩
          | succ j => simp at hl
        · obtain ⟨ad, e, hb⟩ := hk
          cases e
          dsimp only at hb
          omega
end Go.Proofs.Ytbkadgdhmfolaaa
namespace Go.Proofs.Ytbkadgdhmfolaaa
open Go Go.RowKit

/-! ### Normal choices come in order -/
def ltL (x y : List Bool) : Prop := leC x y ∧ x ≠ y
theorem leC_app_lt : ∀ (x x' y y' : List Bool), x.length = x'.length → leC x x' → x ≠ x' → leC (x ++ y) (x' ++ y')
  | [], [], _, _, _, _, hn => absurd rfl hn
  | [], _ :: _, _, _, h, _, _ => by simp at h
  | _ :: _, [], _, _, h, _, _ => by simp at h
  | a :: x, b :: x', y, y', h, hl, hn => by
    rw [List.cons_append, List.cons_append, leC_cons]
    rcases (leC_cons _ _ _ _).1 hl with ⟨rfl, h2⟩ | h2
    · exact .inl ⟨rfl, leC_app_lt x x' y y' (by simpa using h) h2 (fun e => hn (by rw [e]))⟩
    · exact .inr h2
theorem nrm_sorted : ∀ (t : Dt), (nrm t).Pairwise ltL
  | .text _ => by simp [nrm]
  | .line _ => by simp [nrm]
  | .hard => by simp [nrm]
  | .seq a b => by
    simp only [nrm]
    rw [List.pairwise_flatMap]
    refine ⟨fun x _ => ?_, ?_⟩
    · rw [List.pairwise_map]
      exact (nrm_sorted b).imp fun {y y'} h => ⟨leC_app x x y y' rfl (leC_refl x) h.1, fun e => h.2 (List.append_cancel_left e)⟩
    · refine (nrm_sorted a).imp_of_mem fun {x x'} hx hx' h => ?_
      intro z hz z' hz'
      simp only [List.mem_map] at hz hz'
      obtain ⟨y, _, rfl⟩ := hz
      obtain ⟨y', _, rfl⟩ := hz'
      have hl : x.length = x'.length := by rw [nrm_len a x hx, nrm_len a x' hx']
      exact ⟨leC_app_lt x x' y y' hl h.1 h.2, fun e => h.2 (List.append_inj e hl).1⟩
  | .nest _ a => nrm_sorted a
  | .align a => nrm_sorted a
  | .group a => by
    simp only [nrm]
    rw [List.pairwise_append]
    refine ⟨by split <;> simp, ?_, ?_⟩
    · rw [List.pairwise_map]
      exact (nrm_sorted a).imp fun {y y'} h => ⟨(leC_cons _ _ _ _).2 (.inl ⟨rfl, h.1⟩), fun e => h.2 (by simpa using e)⟩
    · intro x hx y hy
      split at hx
      · simp at hx
      · simp only [List.mem_singleton] at hx
        simp only [List.mem_map] at hy
        obtain ⟨z, _, rfl⟩ := hy
        subst hx
        rw [List.replicate_succ]
        exact ⟨(leC_cons _ _ _ _).2 (.inr ⟨rfl, rfl⟩), by simp⟩
theorem nrm_before {t : Dt} {i j : Nat} {x y : List Bool} (hx : (nrm t)[i]? = some x) (hy : (nrm t)[j]? = some y) (h : i < j) : leC x y := by
  have hp := List.pairwise_iff_getElem.1 (nrm_sorted t)
  obtain ⟨hi, rfl⟩ := List.getElem?_eq_some_iff.1 hx
  obtain ⟨hj, rfl⟩ := List.getElem?_eq_some_iff.1 hy
  exact (hp i j hi hj h).1

/-- The least of the first i normal choices; it lies at place b. -/
structure Fst (W : Nat) (t : Dt) (i b : Nat) (l : List Bool) : Prop where
  lt : b < i
  at_ : (nrm t)[b]? = some l
  le : ∀ j x, j < i → (nrm t)[j]? = some x → leR (resR W t l 0 (0, false)) (resR W t x 0 (0, false))
theorem Fst.one (W : Nat) (t : Dt) {l : List Bool} (h : (nrm t)[0]? = some l) : Fst W t 1 0 l :=
  ⟨by omega, h, fun j x hj hx => by
    have : j = 0 := by omega
    subst this
    rw [h] at hx
    cases hx
    exact leR_refl _⟩
theorem ltC_iff (a b : Nat × Nat) : ltC a b = true ↔ a.1 < b.1 ∨ (a.1 = b.1 ∧ a.2 < b.2) := by
  unfold ltC
  simp
theorem Fst.keep {W : Nat} {t : Dt} {i b : Nat} {l x : List Bool} (ho : noT t) (h : Fst W t i b l) (hx : (nrm t)[i]? = some x) (hc : ltC (costT W (txtN t x)) (costT W (txtN t l)) = false) : Fst W t (i + 1) b l := by
  refine ⟨by have := h.lt; omega, h.at_, fun j y hj hy => ?_⟩
  by_cases hji : j < i
  · exact h.le j y hji hy
  · have : j = i := by omega
    subst this
    rw [hx] at hy
    cases hy
    rw [costT_run ho (List.mem_of_getElem? hx), costT_run ho (List.mem_of_getElem? h.at_)] at hc
    have hn : ¬ ((runT W t x 0 (0, false)).2.1 < (runT W t l 0 (0, false)).2.1 ∨ ((runT W t x 0 (0, false)).2.1 = (runT W t l 0 (0, false)).2.1 ∧ (runT W t x 0 (0, false)).2.2 < (runT W t l 0 (0, false)).2.2)) := fun hh => by
      rw [(ltC_iff _ _).2 hh] at hc
      cases hc
    have hle := nrm_before h.at_ hx h.lt
    rw [leR_iff]
    simp only [resR]
    by_cases h1 : (runT W t l 0 (0, false)).2.1 < (runT W t x 0 (0, false)).2.1
    · exact .inl h1
    · by_cases h2 : (runT W t l 0 (0, false)).2.2 < (runT W t x 0 (0, false)).2.2
      · exact .inr ⟨by omega, .inl h2⟩
      · exact .inr ⟨by omega, .inr ⟨by omega, hle⟩⟩
theorem Fst.take {W : Nat} {t : Dt} {i b : Nat} {l x : List Bool} (ho : noT t) (h : Fst W t i b l) (hx : (nrm t)[i]? = some x) (hc : ltC (costT W (txtN t x)) (costT W (txtN t l)) = true) : Fst W t (i + 1) i x := by
  rw [costT_run ho (List.mem_of_getElem? hx), costT_run ho (List.mem_of_getElem? h.at_)] at hc
  have hlt := (ltC_iff _ _).1 hc
  have hle : leR (resR W t x 0 (0, false)) (resR W t l 0 (0, false)) := by
    rw [leR_iff]
    simp only [resR]
    rcases hlt with h1 | ⟨h1, h2⟩
    · exact .inl h1
    · exact .inr ⟨h1, .inl h2⟩
  refine ⟨by omega, hx, fun j y hj hy => ?_⟩
  by_cases hji : j < i
  · exact leR_trans hle (h.le j y hji hy)
  · have : j = i := by omega
    subst this
    rw [hx] at hy
    cases hy
    exact leR_refl _
theorem Fst.least {W : Nat} {t : Dt} {b : Nat} {l : List Bool} (h : Fst W t (nrm t).length b l) : Least W t l :=
  ⟨List.mem_of_getElem? h.at_, fun x hx => by
    obtain ⟨j, hj⟩ := List.mem_iff_getElem?.1 hx
    exact h.le j x (List.getElem?_eq_some_iff.1 hj).1 hj⟩
end Go.Proofs.Ytbkadgdhmfolaaa
namespace Go.Proofs.Ytbkadgdhmfolaaa
open Go Go.RowKit

theorem rcost_t (l : List Nat) (width : Int) (w : World) (hl : l.length ≤ 70368744177664) (h8 : ∀ x ∈ l, x < 256) :
    Fn Try.prog 37 [.string (strOf l), .int .i64 width] w (fun v w' => v = .agg #[.int .i64 (costT width.toNat l).1, .int .i64 (costT width.toNat l).2] ∧ Ext w w') := by
  refine Fn.mono (rcost_fn (strOf l) width w (by rw [strOf_size]; omega)) ?_
  rintro v w' ⟨rfl, hE⟩
  rw [bytesOf_strOf h8]
  exact ⟨rfl, hE⟩

set_option maxHeartbeats 1000000 in
theorem rchoices_fn (A : Option Addr) (n c : Nat) (d : List Nd) (width : Int) (w : World) (h : SD w A n c d) (hs : ∀ x ∈ d, x.t.size ≤ maxLen) (ht : Valid d → TxtOk d) (h8 : Valid d → ng (T d (d.length - 1)) ≤ 8) :
    Fn Try.prog 17 [.slice A n c, .int .i64 width] w (ChoRes d width w) := by
  have hlen := h.2
  refine fn_of_exec (c := c17) gx_ok Try.func17 rfl rfl rfl ?_
  refine call (rcheck_fn A n c d w h hs) ?_
  rintro v w1 ⟨rfl, hE1⟩
  refine wif_ne (fun h1 => ?_) (fun h1 => ?_)
  · refine ⟨hE1, ?_⟩
    rw [if_pos h1]
  have hv := chk_zero.1 h1
  have hle := hv.1
  have hpos := hv.2.1
  have ht := ht hv
  have h8 := h8 hv
  have hno := noT_T hv.ok (d.length - 1)
  refine wif_d (fun h2 => ?_) (fun h2 => ?_)
  · refine ⟨hE1, ?_⟩
    rw [if_neg (by simpa using h1), if_pos (.inl h2)]
  refine wif_d (fun h3 => ?_) (fun h3 => ?_)
  · refine ⟨hE1, ?_⟩
    rw [if_neg (by simpa using h1), if_pos (.inr h3)]
  refine norm_i64_to ((d.length - 1 : Nat) : Int) (by omega) (by omega) ?_
  refine call (normal_fn A n c d hv (d.length - 1) w1 (by omega) (h.ext hE1) h8) ?_
  rintro v w2 ⟨C, cp, vs, rfl, hE2, hSC, hLC, hRC⟩
  have hE02 := hE1.trans hE2
  have hpos2 := nrm_pos (T d (d.length - 1))
  have h256 := nrm_256 h8
  have hl0 : (nrm (T d (d.length - 1)))[0]? = some (nrm (T d (d.length - 1)))[0] := List.getElem?_eq_getElem hpos2
  generalize (nrm (T d (d.length - 1)))[0] = l0 at hl0
  have hm0 := List.mem_of_getElem? hl0
  obtain ⟨B0, cb0, hv0, hS0, hR0⟩ := hLC.el 0 l0 hl0
  refine index_sl (j := 0) hSC hpos2 (fun ad u hA hu hcell => ?_)
  cases Option.some.inj (hu.symm.trans hv0)
  refine load hcell ?_
  have hlim : ∀ l ∈ nrm (T d (d.length - 1)), rnd d l = (txtN (T d (d.length - 1)) l, 0) ∧ (txtN (T d (d.length - 1)) l).length ≤ 70368744177664 ∧ ∀ x ∈ txtN (T d (d.length - 1)) l, x < 256 := fun l hl => by
    have e : rnd d l = (txtN (T d (d.length - 1)) l, 0) := by rw [rnd_T hv, rndT_nrm hl]
    have := rnd_lim hv ht l
    rw [e] at this
    exact ⟨e, this⟩
  refine call (rrender_fn A B0 n c l0.length cb0 d l0 w2 (h.ext hE02) hS0 ht) ?_
  rintro v w3 ⟨rfl, hE3⟩
  rw [(hlim l0 hm0).1]
  refine call (rcost_t (txtN (T d (d.length - 1)) l0) width w3 (hlim l0 hm0).2.1 (hlim l0 hm0).2.2) ?_
  rintro v w4 ⟨rfl, hE4⟩
  refine new (fun w5 hE5 hz5 hB5 => ?_)
  refine storeN_blk0 hB5 rfl (sc rfl) (fun w6 hg6 _ hB6 => ?_)
  have hE46 := newBox hE5 hB5 hg6
  have hE26 := (hE3.trans hE4).trans hE46
  have hE06 := hE02.trans hE26
  have hz1 := hE1.size
  have hz2 := hE2.size
  have hz3 := hE3.size
  have hz4 := hE4.size
  have hb6 := hB6.lt
  refine loop gx_ok [8, 12] (fun s : Option Addr × Nat × List Bool × Nat × Nat => [.slice s.1 s.2.2.1.length s.2.1, .int .i64 s.2.2.2.1]) (fun s w' => Mod (· = w4.heap.size) w6 w' ∧ Blk w' w4.heap.size 29 [.int .i64 (costT width.toNat (txtN (T d (d.length - 1)) s.2.2.1)).1, .int .i64 (costT width.toNat (txtN (T d (d.length - 1)) s.2.2.1)).2] ∧ Sl w2 1 s.1 s.2.2.1.length s.2.1 (boolsV s.2.2.1) ∧ (0 < s.2.2.1.length → ∀ k, rowS s.1 k → k < w2.heap.size) ∧ Fst width.toNat (T d (d.length - 1)) s.2.2.2.1 s.2.2.2.2 s.2.2.1 ∧ s.2.2.2.1 ≤ (nrm (T d (d.length - 1))).length) (fun s _ => (nrm (T d (d.length - 1))).length - s.2.2.2.1) (B0, cb0, l0, 1, 0) rfl ⟨Mod.refl _ _, hB6, hS0, fun h0 k hk => (hR0 h0 k hk).2.1, Fst.one _ _ hl0, hpos2⟩ ?_
  rintro ⟨B, cb, lb, i, bi⟩ w7 ⟨hm7, hB7, hS7, hR7, hF7, hi7⟩
  dsimp only at hB7 hS7 hR7 hF7 hi7 ⊢
  have hz6 := hE46.size
  have hz7 := hm7.size
  have hE07 : Ext w w7 := hm7.ext hE06 (fun i hi => by omega)
  have hm27 : Mod (· = w4.heap.size) w2 w7 := (Mod.of_ext _ hE26).trans hm7 (fun i hi => .inl hi)
  refine wif_d (fun g1 => ?_) (fun g1 => ?_)
  · have hil : i < (nrm (T d (d.length - 1))).length := by omega
    have hli : (nrm (T d (d.length - 1)))[i]? = some (nrm (T d (d.length - 1)))[i] := List.getElem?_eq_getElem hil
    generalize (nrm (T d (d.length - 1)))[i] = li at hli
    have hmi := List.mem_of_getElem? hli
    obtain ⟨Bi, cbi, hvi, hSi, hRi⟩ := hLC.el i li hli
    have hSC7 := hSC.modS hm27 (fun h0 k hk => by have := (hRC h0 k hk).2; omega)
    have hSi7 := hSi.modS hm27 (fun h0 k hk => by have := (hRi h0 k hk).2.1; omega)
    refine index_sl hSC7 hil (fun ad2 u2 hA2 hu2 hcell2 => ?_)
    cases Option.some.inj (hu2.symm.trans hvi)
    refine load hcell2 ?_
    refine call (rrender_fn A Bi n c li.length cbi d li w7 (h.ext hE07) hSi7 ht) ?_
    rintro v w8 ⟨rfl, hE8⟩
    rw [(hlim li hmi).1]
    have hB8 := hB7.ext hE8
    have hEd := Ext.drew w8
    refine draw_plan gx_ok (Ext w8) 5 [(true, 0), (true, 1), (true, 3), (false, 2), (false, 4)] (by kernel_rfl) hEd ?_
    refine qloadN (vs := [.int .i64 (costT width.toNat (txtN (T d (d.length - 1)) lb)).1, .int .i64 (costT width.toNat (txtN (T d (d.length - 1)) lb)).2]) rfl (fun w' hw' j v hj => by rw [(hB8.ext hw').cell]; exact hj) ?_
    refine call (rcost_t (txtN (T d (d.length - 1)) li) width _ (hlim li hmi).2.1 (hlim li hmi).2.2) ?_
    rintro v w9 ⟨rfl, hE9⟩
    refine ⟨hEd.trans hE9, ?_⟩
    refine call (less26_fn (costT width.toNat (txtN (T d (d.length - 1)) li)) (costT width.toNat (txtN (T d (d.length - 1)) lb)) _) ?_
    rintro v w10 ⟨rfl, hE10⟩
    have hE810 := (hEd.trans hE9).trans hE10
    refine ⟨hE810, ?_⟩
    have hE710 := hE8.trans hE810
    have hm10 := hm7.trans (Mod.of_ext (fun _ => False) hE710) (fun i hi => hi.elim)
    have hB10 := hB7.ext hE710
    refine wif (fun hc => ?_) (fun hc => ?_)
    · refine index_sl (hSC7.ext hE710) hil (fun ad3 u3 hA3 hu3 hcell3 => ?_)
      cases Option.some.inj (hu3.symm.trans hvi)
      refine load hcell3 ?_
      refine call (rcost_t (txtN (T d (d.length - 1)) li) width _ (hlim li hmi).2.1 (hlim li hmi).2.2) ?_
      rintro v w11 ⟨rfl, hE11⟩
      refine storeN_blk0 (hB10.ext hE11) rfl (sc rfl) (fun w12 hg12 _ hB12 => ?_)
      have hm12 : Mod (· = w4.heap.size) w11 w12 := Mod.of_grown hg12 rfl
      refine norm_i64_to ((i + 1 : Nat) : Int) (by omega) (by omega) ?_
      exact ⟨(Bi, cbi, li, i + 1, i), rfl, ⟨(hm10.trans (Mod.of_ext (fun _ => False) hE11) (fun i hi => hi.elim)).trans hm12 (fun i hi => .inl hi), hB12, hSi, fun h0 k hk => (hRi h0 k hk).2.1, hF7.take hno hli hc, hil⟩, by show (nrm (T d (d.length - 1))).length - (i + 1) < (nrm (T d (d.length - 1))).length - i; omega⟩
    · refine norm_i64_to ((i + 1 : Nat) : Int) (by omega) (by omega) ?_
      exact ⟨(B, cb, lb, i + 1, bi), rfl, ⟨hm10, hB10, hS7, hR7, hF7.keep hno hli hc, hil⟩, by show (nrm (T d (d.length - 1))).length - (i + 1) < (nrm (T d (d.length - 1))).length - i; omega⟩
  · have hie : i = (nrm (T d (d.length - 1))).length := by omega
    subst hie
    refine ⟨hE07, ?_⟩
    rw [if_neg (by simpa using h1), if_neg (by omega)]
    exact ⟨B, cb, lb, rfl, hS7.modS hm27 (fun h0 k hk => by have := hR7 h0 k hk; omega), hF7.least⟩

theorem rbest_fn (A : Option Addr) (n c : Nat) (d : List Nd) (width : Int) (w : World) (h : SD w A n c d) (hs : ∀ x ∈ d, x.t.size ≤ maxLen) (ht : Valid d → TxtOk d) (h8 : Valid d → ng (T d (d.length - 1)) ≤ 8) :
    Fn Try.prog 15 [.slice A n c, .int .i64 width] w (BestR d width w) := by
  refine fn_of_exec (c := c15) gx_ok Try.func15 rfl rfl rfl ?_
  refine new (fun w0 hE0 hz0 hB0 => ?_)
  refine call (rchoices_fn A n c d width w0 (h.ext hE0) hs ht h8) ?_
  rintro v w1 ⟨hE1, hv⟩
  have hE01 := hE0.trans hE1
  have hB1 := hB0.ext hE1
  split at hv
  · rename_i h0
    subst hv
    refine wif_net (by simpa using h0) ?_
    refine storeN_blk0 hB1 rfl (sc rfl) (fun w2 hg2 _ hB2 => ?_)
    refine loadN_blk0 hB2 rfl ?_
    exact ⟨hE01.own hg2 (Nat.le_refl _), by rw [if_pos h0]; rfl⟩
  · rename_i h0
    split at hv
    · rename_i h1
      subst hv
      refine wif_net (by decide) ?_
      refine storeN_blk0 hB1 rfl (sc rfl) (fun w2 hg2 _ hB2 => ?_)
      refine loadN_blk0 hB2 rfl ?_
      exact ⟨hE01.own hg2 (Nat.le_refl _), by rw [if_neg h0, if_pos h1]; rfl⟩
    · rename_i h1
      obtain ⟨A', c', l, rfl, h3, h4⟩ := hv
      refine wif_nef rfl ?_
      have hvd := chk_zero.1 (show chk d = 0 by simpa using h0)
      refine call (rrender_fn A A' n c l.length c' d l w1 (h.ext hE01) h3 (ht hvd)) ?_
      rw [rnd_T hvd, rndT_nrm h4.1]
      have hlim := rnd_lim hvd (ht hvd) l
      rw [rnd_T hvd, rndT_nrm h4.1] at hlim
      dsimp only at hlim
      rintro v w2 ⟨rfl, hE2⟩
      refine call (rcost_fn (strOf (txtN (T d (d.length - 1)) l)) width w2 (by rw [strOf_size]; omega)) ?_
      rintro v w3 ⟨rfl, hE3⟩
      rw [bytesOf_strOf hlim.2, cost_nrm _ (noT_T hvd.ok _) h4.1]
      refine storeN_blk0 (hB1.ext (hE2.trans hE3)) rfl (sc rfl) (fun w4 hg4 _ hB4 => ?_)
      refine loadN_blk0 hB4 rfl ?_
      exact ⟨(hE01.trans (hE2.trans hE3)).own hg4 (Nat.le_refl _), by rw [if_neg h0, if_neg h1]; exact ⟨l, h4, rfl⟩⟩
end Go.Proofs.Ytbkadgdhmfolaaa
namespace Go.Proofs.Ytbkadgdhmfolaaa
open Go Go.RowKit

/-- The answer of Best. -/
def bestQ (d : List Nd) (width : Int) (q : ByteArray × Nat × Nat × Int) : Prop :=
  if chk d ≠ 0 then q = (⟨#[]⟩, 0, 0, chk d) else if width < 0 ∨ 1000 < width then q = (⟨#[]⟩, 0, 0, 1) else
    ∃ l, Least width.toNat (T d (d.length - 1)) l ∧ q = (strOf (txtN (T d (d.length - 1)) l), (runT width.toNat (T d (d.length - 1)) l 0 (0, false)).2.1, (runT width.toNat (T d (d.length - 1)) l 0 (0, false)).2.2, 0)
theorem bestQ.uniq {d : List Nd} {width : Int} {q q' : ByteArray × Nat × Nat × Int} (h : bestQ d width q) (h' : bestQ d width q') : q = q' := by
  unfold bestQ at h h'
  split at h
  · rename_i h0
    rw [if_pos h0] at h'
    rw [h, h']
  · rename_i h0
    rw [if_neg h0] at h'
    split at h
    · rename_i h1
      rw [if_pos h1] at h'
      rw [h, h']
    · rename_i h1
      rw [if_neg h1] at h'
      obtain ⟨l, hl, rfl⟩ := h
      obtain ⟨l', hl', rfl⟩ := h'
      rw [hl.uniq hl']
theorem BestR.q {d : List Nd} {width : Int} {w w' : World} {v : Value} (h : BestR d width w v w') : Ext w w' ∧ ∃ q, bestQ d width q ∧ v = .tuple #[.string q.1, .agg #[.int .i64 q.2.1, .int .i64 q.2.2.1], .int .i64 q.2.2.2] := by
  obtain ⟨hE, hv⟩ := h
  refine ⟨hE, ?_⟩
  unfold bestQ
  split at hv
  · rename_i h0
    subst hv
    exact ⟨(⟨#[]⟩, 0, 0, chk d), by rw [if_pos h0], rfl⟩
  · rename_i h0
    split at hv
    · rename_i h1
      subst hv
      exact ⟨(⟨#[]⟩, 0, 0, 1), by rw [if_neg h0, if_pos h1], rfl⟩
    · rename_i h1
      obtain ⟨l, hl, rfl⟩ := hv
      exact ⟨_, by rw [if_neg h0, if_neg h1]; exact ⟨l, hl, rfl⟩, rfl⟩

/-- The answer of Choices. -/
def choQ (d : List Nd) (width : Int) (q : List Bool × Int) : Prop :=
  if chk d ≠ 0 then q = ([], chk d) else if width < 0 ∨ 1000 < width then q = ([], 1) else ∃ l, Least width.toNat (T d (d.length - 1)) l ∧ q = (l, 0)
theorem choQ.uniq {d : List Nd} {width : Int} {q q' : List Bool × Int} (h : choQ d width q) (h' : choQ d width q') : q = q' := by
  unfold choQ at h h'
  split at h
  · rename_i h0
    rw [if_pos h0] at h'
    rw [h, h']
  · rename_i h0
    rw [if_neg h0] at h'
    split at h
    · rename_i h1
      rw [if_pos h1] at h'
      rw [h, h']
    · rename_i h1
      rw [if_neg h1] at h'
      obtain ⟨l, hl, rfl⟩ := h
      obtain ⟨l', hl', rfl⟩ := h'
      rw [hl.uniq hl']
theorem ChoRes.q {d : List Nd} {width : Int} {w w' : World} {v : Value} (h : ChoRes d width w v w') : Ext w w' ∧ ∃ q A c, choQ d width q ∧ v = .tuple #[.slice A q.1.length c, .int .i64 q.2] ∧ Sl w' 1 A q.1.length c (boolsV q.1) := by
  obtain ⟨hE, hv⟩ := h
  refine ⟨hE, ?_⟩
  unfold choQ
  split at hv
  · rename_i h0
    subst hv
    exact ⟨([], chk d), none, 0, by rw [if_pos h0], rfl, Sl.nil w' 1⟩
  · rename_i h0
    split at hv
    · rename_i h1
      subst hv
      exact ⟨([], 1), none, 0, by rw [if_neg h0, if_pos h1], rfl, Sl.nil w' 1⟩
    · rename_i h1
      obtain ⟨A, c, l, rfl, hS, hl⟩ := hv
      exact ⟨(l, 0), A, c, by rw [if_neg h0, if_neg h1]; exact ⟨l, hl, rfl⟩, rfl, hS⟩

theorem few_fn (A : Option Addr) (n c : Nat) (d : List Nd) (w : World) (h : SD w A n c d) (hs : ∀ x ∈ d, x.t.size ≤ maxLen) :
    Fn Try.prog 13 [.slice A n c] w (fun v w' => Ext w w' ∧ ∃ b, v = .bool b ∧ (b = true ↔ d.length ≤ 40 ∧ Valid d ∧ ng (T d (d.length - 1)) ≤ 8)) := by
  have hlen := h.2
  refine fn_of_exec (c := c13) gx_ok Try.func13 rfl rfl rfl ?_
  refine wif_d (fun h1 => ?_) (fun h1 => ?_)
  · refine call (rcheck_fn A n c d w h hs) ?_
    rintro v w1 ⟨rfl, hE1⟩
    refine wif_eq (fun h2 => ?_) (fun h2 => ?_)
    · have hv := chk_zero.1 h2
      refine call (few26_fn A n c d hv w1 (h.ext hE1)) ?_
      rintro v w2 ⟨rfl, hE2⟩
      exact ⟨hE1.trans hE2, _, rfl, by rw [decide_eq_true_eq]; exact ⟨fun h3 => ⟨by omega, hv, h3⟩, fun h3 => h3.2.2⟩⟩
    · exact ⟨hE1, _, rfl, by
        constructor
        · intro h3; cases h3
        · intro h3; exact absurd (chk_zero.2 h3.2.1) h2⟩
  · exact ⟨Ext.refl _, _, rfl, by
      constructor
      · intro h3; cases h3
      · intro h3; omega⟩

theorem made_matches_law (L : Option Addr) (n cl x : Nat) (bs : List Nat) (w : World) (hL : Sl w 1 L n cl (u8V bs)) (hb : ∀ b ∈ bs, b ≤ 255) (hx : x ≤ 255) :
    Fn Try.prog 4 [.slice L n cl, .int .u8 x] w (fun v w' => v = .bool true ∧ Ext w w') := by
  refine fn_of_exec (c := c4) gx_ok Try.func4 rfl rfl rfl ?_
  refine call (sanity_fn w) ?_
  rintro v w1 ⟨rfl, hE1⟩
  have hmade : Fn Try.prog 19 [.slice L n cl] w1 (fun v w' => ∃ t A c d b, v = .tuple #[.slice A d.length c, .bool b] ∧ Ext w1 w' ∧ Doc w' A c d t 30 ∧ (b = true → ng t ≤ 8)) := by
    refine fn_of_exec (c := c19) gx_ok Try.func19 rfl rfl rfl ?_
    refine call (made_dr 30 (hL.ext hE1) hb (by decide) (by decide)) ?_
    rintro v w2 ⟨t, ho, A, c, d, rfl, hE2, hd⟩
    refine call (few_fn A d.length c d w2 hd.sd (fun x hx => by have := hd.rep.txt x hx; unfold maxLen; omega)) ?_
    rintro v w3 ⟨hE3, b, rfl, hbb⟩
    exact ⟨t, A, c, d, b, rfl, hE2.trans hE3, hd.ext hE3, fun h => by have := (hbb.1 h).2.2; rwa [hd.rep.tree] at this⟩
  refine call hmade ?_
  rintro v w2 ⟨t, A, c, d, b, rfl, hE2, hd, hb8⟩
  have hE02 := hE1.trans hE2
  cases b with
  | false =>
    refine wif_t rfl ?_
    exact ⟨rfl, hE02⟩
  | true =>
    refine wif_f rfl ?_
    have h8 : Valid d → ng (T d (d.length - 1)) ≤ 8 := fun _ => by rw [hd.rep.tree]; exact hb8 rfl
    have hs : ∀ x ∈ d, x.t.size ≤ maxLen := fun x hx => by have := hd.rep.txt x hx; unfold maxLen; omega
    have ht : Valid d → TxtOk d := fun _ => hd.rep.txt
    have hx21 : x % 21 < 21 := Nat.mod_lt _ (by decide)
    generalize hW : x % 21 = W at hx21
    refine rem_c 21 rfl (by decide) ?_
    rw [hW]
    refine norm_i64_to ((W : Nat) : Int) rfl (by omega) ?_
    refine call (Best_fn A _ c d W w2 hd.sd hd.rep.txt) ?_
    rintro v w3 hr3
    obtain ⟨hE3, q, hq, rfl⟩ := hr3.q
    refine new (fun w4 hE4 hz4 hB4 => ?_)
    refine storeN_blk0 hB4 rfl (sc rfl) (fun w5 hg5 _ hB5 => ?_)
    have hE25 := hE3.trans (newBox hE4 hB4 hg5)
    refine rem_c 21 rfl (by decide) ?_
    rw [hW]
    refine norm_i64_to ((W : Nat) : Int) rfl (by omega) ?_
    refine call (rbest_fn A _ c d W w5 (hd.ext hE25).sd hs ht h8) ?_
    rintro v w6 hr6
    obtain ⟨hE6, q', hq', rfl⟩ := hr6.q
    cases hq.uniq hq'
    refine new (fun w7 hE7 hz7 hB7 => ?_)
    refine storeN_blk0 hB7 rfl (sc rfl) (fun w8 hg8 _ hB8 => ?_)
    have hE58 := hE6.trans (newBox hE7 hB7 hg8)
    have hE28 := hE25.trans hE58
    refine rem_c 21 rfl (by decide) ?_
    rw [hW]
    refine norm_i64_to ((W : Nat) : Int) rfl (by omega) ?_
    refine call (Choices_fn A _ c d W w8 (hd.ext hE28).sd (wtT_lim hd.rep.txt)) ?_
    rintro v w9 hr9
    obtain ⟨hE9, p, B, c9, hp, rfl, hS9⟩ := hr9.q
    refine rem_c 21 rfl (by decide) ?_
    rw [hW]
    refine norm_i64_to ((W : Nat) : Int) rfl (by omega) ?_
    refine call (rchoices_fn A _ c d W w9 (hd.ext (hE28.trans hE9)).sd hs ht h8) ?_
    rintro v w10 hr10
    obtain ⟨hE10, p', B', c10, hp', rfl, hS10⟩ := hr10.q
    cases hp.uniq hp'
    have hE210 := hE28.trans (hE9.trans hE10)
    have hB5' := hB5.ext (hE58.trans (hE9.trans hE10))
    have hB8' := hB8.ext (hE9.trans hE10)
    refine wif_t (by simp) ?_
    refine loadN_blk0 hB5' rfl ?_
    refine loadN_blk0 hB8' rfl ?_
    refine wif_t (by simp) ?_
    refine wif_t (by simp) ?_
    refine call (sameb_fn B B' _ c9 _ c10 _ _ w10 (hS9.ext hE10) hS10) ?_
    rintro v w11 ⟨rfl, hE11⟩
    refine wif_t (by simp) ?_
    refine wif_t (by simp) ?_
    exact ⟨rfl, hE02.trans (hE210.trans hE11)⟩
end Go.Proofs.Ytbkadgdhmfolaaa
