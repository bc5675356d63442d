/-
  formula: which formulas are valid; arity.
  formula: Check.
  formula: Check: the contract.
  Conditions: none.
-/
import Derived.Test.YtedopgkbajhanaaGreatDoorKb
namespace Go.Proofs.YtedopgkbajhanaaGreatDoor
section
open Go Go.RowKit

def fAr (o : Int) : Int := if o = 0 ∨ o = 1 ∨ o = 2 then 0 else if o = 3 then 1 else if o = 4 ∨ o = 5 then 2 else -1
theorem fAr_cases (o : Int) : ((o = 0 ∨ o = 1 ∨ o = 2) ∧ fAr o = 0) ∨ (o = 3 ∧ fAr o = 1) ∨ ((o = 4 ∨ o = 5) ∧ fAr o = 2) ∨ (fAr o = -1 ∧ o ≠ 0 ∧ o ≠ 1 ∧ o ≠ 2 ∧ o ≠ 3 ∧ o ≠ 4 ∧ o ≠ 5) := by
  unfold fAr
  split
  · left; omega
  · split
    · right; left; omega
    · split
      · right; right; left; omega
      · right; right; right; omega
/-- Is this node well-formed at place i? -/
def fzP (x : Fz) (i : Nat) : Prop := 0 ≤ fAr x.o ∧ (if x.o = 2 then 0 ≤ x.v ∧ x.v < 64 else x.v = 0) ∧ (if 0 < fAr x.o then 0 ≤ x.a ∧ x.a < i else x.a = 0) ∧ (if 1 < fAr x.o then 0 ≤ x.b ∧ x.b < i else x.b = 0)
instance (x : Fz) (i : Nat) : Decidable (fzP x i) := by unfold fzP; infer_instance
/-- The same node, without what its operator does not use. -/
def plainOf (x : Fz) : Fz := ⟨x.o, if x.o = 2 then x.v else 0, if 0 < fAr x.o then x.a else 0, if 1 < fAr x.o then x.b else 0⟩

theorem eq4 (a b c d a' b' c' d' : Int) : (a == a' && (b == b' && (c == c' && (d == d' && true)))) = decide (a = a' ∧ b = b' ∧ c = c' ∧ d = d') := by
  rw [Bool.eq_iff_iff]
  simp only [Bool.and_eq_true, beq_iff_eq, decide_eq_true_eq, and_true]
theorem plain_eq (x : Fz) : (x.o = (plainOf x).o ∧ x.v = (plainOf x).v ∧ x.a = (plainOf x).a ∧ x.b = (plainOf x).b) ↔ ((x.o ≠ 2 → x.v = 0) ∧ (fAr x.o ≤ 0 → x.a = 0) ∧ (fAr x.o ≤ 1 → x.b = 0)) := by
  unfold plainOf
  simp only
  constructor
  · rintro ⟨_, h1, h2, h3⟩
    split at h1 <;> split at h2 <;> split at h3 <;> omega
  · rintro ⟨h1, h2, h3⟩
    refine ⟨trivial, ?_, ?_, ?_⟩ <;> split <;> omega

theorem arity_fn (x : Fz) (i : Nat) (w : World) : Fn Tryz.prog 172 [.agg x.cells.toArray, .int .i64 i] w (fun v w' => v = .int .i64 (if fzP x i then fAr x.o else -1) ∧ Ext w w') := by
  refine fn_of_exec (c := { c172 with cuts := [3] }) gx_ok Tryz.func172 rfl rfl rfl ?_
  refine new (fun w1 hE1 hz1 hB1 => ?_)
  refine load_blk0 hB1 rfl ?_
  refine new (fun w2 hE2 hz2 hB2 => ?_)
  refine storeN_blk0 hB2 rfl (sc rfl) (fun w3 hg3 _ hB3 => ?_)
  have hm3 : Mod (· = w1.heap.size) w2 w3 := Mod.of_grown hg3 rfl
  replace hB3 : Blk w3 w1.heap.size 205 [.int .i64 x.o, .int .i64 0, .int .i64 0, .int .i64 0] := hB3
  have hX3 := (hB1.ext hE2).mod hm3 (by omega)
  have hE3 : Ext w w3 := hm3.ext (hE1.trans hE2) (fun i hi => by omega)
  refine cutIn [] gx_ok [6] (fun k : Int => [.int .i64 k]) (fun k w' => Ext w w' ∧ Blk w' w.heap.size 205 x.cells ∧ Blk w' w1.heap.size 205 (plainOf x).cells ∧ k = fAr x.o ∧ 0 ≤ fAr x.o ∧ (x.o = 2 → 0 ≤ x.v ∧ x.v < 64)) ?_ ?_
  · refine load_blk0 hX3 rfl ?_
    refine wif_eq (fun h => ?_) (fun h => ?_)
    · refine ⟨_, rfl, hE3, hX3, ?_, ?_, ?_, ?_⟩
      · rw [show (plainOf x).cells = [.int .i64 x.o, .int .i64 0, .int .i64 0, .int .i64 0] from by simp [plainOf, Fz.cells, h, fAr]]; exact hB3
      · rw [h]; rfl
      · rw [h]; decide
      · intro h2; omega
    refine wif_eq (fun h1 => ?_) (fun h1 => ?_)
    · refine ⟨_, rfl, hE3, hX3, ?_, ?_, ?_, ?_⟩
      · rw [show (plainOf x).cells = [.int .i64 x.o, .int .i64 0, .int .i64 0, .int .i64 0] from by simp [plainOf, Fz.cells, h1, fAr]]; exact hB3
      · rw [h1]; rfl
      · rw [h1]; decide
      · intro h2; omega
    refine wif_eq (fun h2 => ?_) (fun h2 => ?_)
    · refine load_blk hX3 rfl ?_
      refine store_mod hB3 (by simp) (fun w4 hm4 hB4 => ?_)
      have hX4 := hX3.mod hm4 (by omega)
      have hE4 := hm4.ext hE3 (fun i hi => by omega)
      refine load_blk hX4 rfl ?_
      refine wif_d (fun h3 => ?_) (fun h3 => ?_)
      · exact ⟨by rw [if_neg (fun hf => by have := hf.2.1; rw [if_pos h2] at this; omega)], hE4⟩
      refine load_blk hX4 rfl ?_
      refine wif_d (fun h4 => ?_) (fun h4 => ?_)
      · exact ⟨by rw [if_neg (fun hf => by have := hf.2.1; rw [if_pos h2] at this; omega)], hE4⟩
      refine ⟨_, rfl, hE4, hX4, ?_, ?_, ?_, ?_⟩
      · rw [show (plainOf x).cells = [.int .i64 x.o, .int .i64 x.v, .int .i64 0, .int .i64 0] from by simp [plainOf, Fz.cells, h2, fAr]]; exact hB4
      · rw [h2]; rfl
      · rw [h2]; decide
      · intro _; omega
    refine wif_eq (fun h3 => ?_) (fun h3 => ?_)
    · refine load_blk hX3 rfl ?_
      refine store_mod hB3 (by simp) (fun w4 hm4 hB4 => ?_)
      have hX4 := hX3.mod hm4 (by omega)
      have hE4 := hm4.ext hE3 (fun i hi => by omega)
      refine ⟨_, rfl, hE4, hX4, ?_, ?_, ?_, ?_⟩
      · rw [show (plainOf x).cells = [.int .i64 x.o, .int .i64 0, .int .i64 x.a, .int .i64 0] from by simp [plainOf, Fz.cells, h3, fAr]]; exact hB4
      · rw [h3]; rfl
      · rw [h3]; decide
      · intro _; omega
    have two : (x.o = 4 ∨ x.o = 5) → ∀ w4, Mod (· = w1.heap.size) w3 w4 → Blk w4 w1.heap.size 205 [.int .i64 x.o, .int .i64 0, .int .i64 x.a, .int .i64 x.b] → Ext w w4 ∧ Blk w4 w.heap.size 205 x.cells ∧ Blk w4 w1.heap.size 205 (plainOf x).cells ∧ (2 : Int) = fAr x.o ∧ 0 ≤ fAr x.o ∧ (x.o = 2 → 0 ≤ x.v ∧ x.v < 64) := fun ho w4 hm4 hB4 => by
      have e : fAr x.o = 2 := by rcases ho with h | h <;> rw [h] <;> rfl
      refine ⟨hm4.ext hE3 (fun i hi => by omega), hX3.mod hm4 (by omega), ?_, e.symm, by omega, by omega⟩
      rw [show (plainOf x).cells = [.int .i64 x.o, .int .i64 0, .int .i64 x.a, .int .i64 x.b] from by simp [plainOf, Fz.cells, h2, e]]
      exact hB4
    refine wif_eq (fun h4 => ?_) (fun h4 => ?_)
    · refine load_blk hX3 rfl ?_
      refine store_mod hB3 (by simp) (fun w4 hm4 hB4 => ?_)
      have hX4 := hX3.mod hm4 (by omega)
      refine load_blk hX4 rfl ?_
      refine store_mod hB4 (by simp) (fun w5 hm5 hB5 => ?_)
      exact ⟨_, rfl, two (.inl h4) w5 (hm4.trans hm5 (fun i hi => .inl hi)) hB5⟩
    refine wif_eq (fun h5 => ?_) (fun h5 => ?_)
    · refine load_blk hX3 rfl ?_
      refine store_mod hB3 (by simp) (fun w4 hm4 hB4 => ?_)
      have hX4 := hX3.mod hm4 (by omega)
      refine load_blk hX4 rfl ?_
      refine store_mod hB4 (by simp) (fun w5 hm5 hB5 => ?_)
      exact ⟨_, rfl, two (.inr h5) w5 (hm4.trans hm5 (fun i hi => .inl hi)) hB5⟩
    · have hm1 : fAr x.o = -1 := by rcases fAr_cases x.o with h | h | h | h <;> omega
      exact ⟨by rw [if_neg (fun hf => by have := hf.1; omega)], hE3⟩
  rintro k w4 ⟨hE4, hX4, hP4, rfl, h0, hv⟩
  have no : ¬ fzP x i → ∀ w', Ext w w' → (Value.int .i64 (-1)) = .int .i64 (if fzP x i then fAr x.o else -1) ∧ Ext w w' := fun h w' hE => ⟨by rw [if_neg h], hE⟩
  have yes : fzP x i → ∀ w', Ext w w' → (Value.int .i64 (fAr x.o)) = .int .i64 (if fzP x i then fAr x.o else -1) ∧ Ext w w' := fun h w' hE => ⟨by rw [if_pos h], hE⟩
  have hcs := fAr_cases x.o
  refine loadN_blk0 hX4 rfl ?_
  refine loadN_blk0 hP4 rfl ?_
  by_cases hp : x.o = (plainOf x).o ∧ x.v = (plainOf x).v ∧ x.a = (plainOf x).a ∧ x.b = (plainOf x).b
  rotate_left
  · refine wif_t (by rw [eq4, decide_eq_false hp]; rfl) ?_
    refine no (fun hf => hp ((plain_eq x).2 ?_)) _ hE4
    obtain ⟨f1, f2, f3, f4⟩ := hf
    split at f2 <;> split at f3 <;> split at f4 <;> omega
  refine wif_f (by rw [eq4, decide_eq_true hp]; rfl) ?_
  have hq := (plain_eq x).1 hp
  have bad : (x.a < 0 ∨ x.b < 0 ∨ (0 < fAr x.o ∧ (i ≤ x.a ∨ i ≤ x.b))) → ¬ fzP x i := fun hb hf => by
    obtain ⟨f1, f2, f3, f4⟩ := hf
    split at f3 <;> split at f4 <;> omega
  refine load_blk hX4 rfl ?_
  refine wif_d (fun h1 => ?_) (fun h1 => ?_)
  · exact no (bad (.inl h1)) _ hE4
  refine load_blk hX4 rfl ?_
  refine wif_d (fun h2 => ?_) (fun h2 => ?_)
  · exact no (bad (.inr (.inl h2))) _ hE4
  refine wif_d (fun h3 => ?_) (fun h3 => ?_)
  · refine load_blk hX4 rfl ?_
    refine load_blk hX4 rfl ?_
    refine norm (m := max x.a x.b) (by rw [Int.max_def]; split <;> split <;> omega) ?_
    refine wif_d (fun h4 => ?_) (fun h4 => ?_)
    · refine no (bad (.inr (.inr ⟨h3, ?_⟩))) _ hE4
      rw [Int.max_def] at h4; split at h4 <;> omega
    · rw [Int.max_def] at h4
      refine yes ⟨h0, ?_, ?_, ?_⟩ _ hE4
      · split
        · rename_i h; exact hv h
        · rename_i h; exact hq.1 h
      · rw [if_pos h3]; split at h4 <;> omega
      · split
        · split at h4 <;> omega
        · exact hq.2.2 (by omega)
  · refine yes ⟨h0, ?_, ?_, ?_⟩ _ hE4
    · split
      · rename_i h; exact hv h
      · rename_i h; exact hq.1 h
    · rw [if_neg h3]; exact hq.2.1 (by omega)
    · rw [if_neg (by omega)]; exact hq.2.2 (by omega)
end

section
open Go Go.RowKit

def boolsV (l : List Bool) : List Value := l.map .bool
theorem boolsV_get {l : List Bool} {j : Nat} {b : Bool} (h : l[j]? = some b) : (boolsV l)[j]? = some (.bool b) := by simp [boolsV, h]
theorem boolsV_length (l : List Bool) : (boolsV l).length = l.length := by simp [boolsV]
theorem boolsV_set (l : List Bool) (i : Nat) (b : Bool) : boolsV (l.set i b) = (boolsV l).set i (.bool b) := by simp [boolsV, List.map_set]
theorem boolsV_scalar (l : List Bool) : ∀ u ∈ boolsV l, scalar u = true := by
  intro u hu; simp only [boolsV, List.mem_map] at hu; obtain ⟨x, _, rfl⟩ := hu; rfl
theorem boolsV_replicate (n : Nat) : List.replicate n (Value.bool false) = boolsV (List.replicate n false) := by simp [boolsV]

def fKids (x : Fz) : List Nat := if fAr x.o = 2 then [x.a.toNat, x.b.toNat] else if fAr x.o = 1 then [x.a.toNat] else []
def fkids (f : List Fz) : List Nat := f.flatMap fKids
/-- Is this formula valid? -/
def FV (f : List Fz) : Prop := f.length ≤ 512 ∧ 0 < f.length ∧ (∀ i x, f[i]? = some x → fzP x i) ∧ ∀ i, i + 1 < f.length → (fkids f).count i = 1
open Classical in
noncomputable def chkF (f : List Fz) : Int := if FV f then 0 else 30
theorem chkF_ok {f : List Fz} (h : FV f) : chkF f = 0 := if_pos h
theorem chkF_no {f : List Fz} (h : ¬ FV f) : chkF f = 30 := if_neg h
theorem chkF_zero {f : List Fz} : chkF f = 0 ↔ FV f := by
  constructor
  · intro h
    unfold chkF at h
    split at h
    · assumption
    · cases h
  · exact chkF_ok

theorem fkids_snoc (d : List Fz) {i : Nat} {x : Fz} (h : d[i]? = some x) : fkids (d.take (i + 1)) = fkids (d.take i) ++ fKids x := by
  simp [fkids, List.take_add_one, h]
theorem fKids_lt {x : Fz} {i : Nat} (h : fzP x i) : ∀ j ∈ fKids x, j < i := by
  intro j hj
  obtain ⟨_, _, h3, h4⟩ := h
  unfold fKids at hj
  split at hj
  · rename_i h2
    rw [if_pos (by omega)] at h3 h4
    simp at hj
    omega
  · split at hj
    · rename_i h2
      rw [if_pos (by omega)] at h3
      simp at hj
      omega
    · simp at hj
theorem fkids_lt {d : List Fz} {i : Nat} (h : ∀ j x, j < i → d[j]? = some x → fzP x j) : ∀ j ∈ fkids (d.take i), j + 1 < i := by
  intro j hj
  simp only [fkids, List.mem_flatMap] at hj
  obtain ⟨x, hx, hk⟩ := hj
  obtain ⟨m, hm, hx'⟩ := List.mem_iff_getElem.1 hx
  have hlen : m < i := by simp at hm; omega
  have hx2 : d[m]? = some x := by
    rw [List.getElem_take] at hx'
    rw [← hx']
    exact List.getElem?_eq_getElem _
  have := fKids_lt (h m x hlen hx2) j hk
  omega

/-- Which of the first n numbers are in the list. -/
def usedL (l : List Nat) (n : Nat) : List Bool := (List.range n).map fun j => decide (j ∈ l)
theorem usedL_get (l : List Nat) (n j : Nat) (hj : j < n) : (usedL l n)[j]? = some (decide (j ∈ l)) := by simp [usedL, hj]
theorem usedL_len (l : List Nat) (n : Nat) : (usedL l n).length = n := by simp [usedL]
theorem usedL_set (l : List Nat) (n k : Nat) : (usedL l n).set k true = usedL (l ++ [k]) n := by
  unfold usedL
  apply List.ext_getElem
  · simp
  · intro i h1 h2
    simp at h1
    simp only [List.getElem_set, List.getElem_map, List.getElem_range, List.mem_append, List.mem_singleton]
    split
    · rename_i h; subst h; simp
    · rename_i h
      have : ¬ i = k := fun e => h e.symm
      simp [this]
theorem usedL_nil (n : Nat) : usedL [] n = List.replicate n false := by
  apply List.ext_getElem
  · simp [usedL]
  · intro i h1 h2; simp [usedL]

theorem nFV_nd {d : List Fz} {s : Nat} {x : Fz} (hx : d[s]? = some x) (h : ¬ fzP x s) : ¬ FV d := fun hv => h (hv.2.2.1 s x hx)
theorem nFV_dup {d : List Fz} {s : Nat} (hnd : ∀ j x, j < s → d[j]? = some x → fzP x j) (hs : s ≤ d.length) (h : ¬ (fkids (d.take s)).Nodup) : ¬ FV d := fun hv => by
  apply h
  rw [List.nodup_iff_count]
  intro a
  by_cases ha : a ∈ fkids (d.take s)
  · have h1 := fkids_lt hnd a ha
    have h2 := hv.2.2.2 a (by omega)
    rw [← h2]
    have hsub : (fkids (d.take s)).Sublist (fkids d) := by
      have : fkids d = fkids (d.take s) ++ fkids (d.drop s) := by
        unfold fkids
        rw [← List.flatMap_append, List.take_append_drop]
      rw [this]
      exact List.sublist_append_left _ _
    exact hsub.count_le a
  · rw [List.count_eq_zero.2 ha]; omega
theorem FV_of {d : List Fz} (h1 : d.length ≤ 512) (h2 : 0 < d.length) (hnd : ∀ j x, j < d.length → d[j]? = some x → fzP x j) (hn : (fkids d).Nodup) (hu : ∀ j, j + 1 < d.length → j ∈ fkids d) : FV d :=
  ⟨h1, h2, fun i x hx => hnd i x (List.getElem?_eq_some_iff.1 hx).1 hx, fun i hi => by
    have h3 := List.nodup_iff_count.1 hn i
    have h4 := List.count_pos_iff.2 (hu i hi)
    omega⟩

theorem new_eq {w : World} {t : TypeId} {cs cs' : List Value} {K : Addr → World → Prop} (h : cs = cs') (k : ∀ w1, Ext w w1 → w1.heap.size = w.heap.size + 1 → Blk w1 w.heap.size t cs' → K ⟨w.heap.size, 0, none⟩ w1) : New w t cs K := by
  subst h; exact new k

abbrev SF (w : World) (A : Option Addr) (n c : Nat) (f : List Fz) : Prop := SlS Fz.cells 4 w A n c f

/-- The operands of a node, as the program lists them. -/
def opds (x : Fz) : List Int := [x.a, x.b].take (fAr x.o).toNat
theorem opds_kids {x : Fz} {i : Nat} (h : fzP x i) : (opds x).length = (fAr x.o).toNat ∧ ∀ j : Nat, ∀ a : Int, (opds x)[j]? = some a → 0 ≤ a ∧ a < i ∧ (fKids x)[j]? = some a.toNat := by
  obtain ⟨h1, _, h3, h4⟩ := h
  unfold opds fKids
  rcases fAr_cases x.o with ⟨_, e⟩ | ⟨_, e⟩ | ⟨_, e⟩ | ⟨e, _⟩
  · rw [e]; simp
  · rw [e] at h3 ⊢
    simp at h3
    simp
    intro j a ha
    cases j with
    | zero => simp at ha; subst ha; simp; omega
    | succ j => simp at ha
  · rw [e] at h3 h4 ⊢
    simp at h3 h4
    simp
    intro j a ha
    match j, ha with
    | 0, ha => simp at ha; subst ha; simp; omega
    | 1, ha => simp at ha; subst ha; simp; omega
    | j + 2, ha => simp at ha
  · rw [e] at h1; omega
theorem fKids_len (x : Fz) (_ : 0 ≤ fAr x.o) : (fKids x).length = (fAr x.o).toNat := by
  unfold fKids
  rcases fAr_cases x.o with ⟨_, e⟩ | ⟨_, e⟩ | ⟨_, e⟩ | ⟨e, _⟩ <;> rw [e] <;> first | rfl | omega
end

section
open Go Go.RowKit

theorem check_fn (A : Option Addr) (n c : Nat) (f : List Fz) (w : World) (h : SF w A n c f) :
    Fn Tryz.prog 147 [.slice A n c] w (fun v w' => v = .int .i64 (chkF f) ∧ Ext w w') := by
  have hlen := h.2
  refine fn_of_exec (c := { c147 with cuts := [4] }) gx_ok Tryz.func147 rfl rfl rfl ?_
  refine wif_eq (fun h1 => ?_) (fun h1 => ?_)
  · exact ⟨by rw [chkF_no (fun hv => by have := hv.2.1; omega)], Ext.refl w⟩
  refine wif_d (fun h2 => ?_) (fun h2 => ?_)
  · exact ⟨by rw [chkF_no (fun hv => by have := hv.1; omega)], Ext.refl w⟩
  refine new_eq (cs' := boolsV (List.replicate 512 false)) (by kernel_rfl) (fun w1 hE1 hz1 hB1 => ?_)
  rw [← usedL_nil] at hB1
  refine cutIn [] gx_ok [] (fun _ : Unit => []) (fun _ w' => Ext w w' ∧ Blk w' w.heap.size 232 (boolsV (usedL (fkids f) 512)) ∧ (∀ j x, j < n → f[j]? = some x → fzP x j) ∧ (fkids f).Nodup) ?_ ?_
  · refine loop gx_ok [20] (fun s : Nat => [.int .i64 s]) (fun s w' => Ext w w' ∧ Blk w' w.heap.size 232 (boolsV (usedL (fkids (f.take s)) 512)) ∧ s ≤ n ∧ (∀ j x, j < s → f[j]? = some x → fzP x j) ∧ (fkids (f.take s)).Nodup) (fun s _ => n - s) 0 rfl ⟨hE1, hB1, Nat.zero_le _, fun j x hj => absurd hj (by omega), by simp [fkids]⟩ ?_
    rintro s w2 ⟨hE2, hU2, hs, hnd, hnn⟩
    refine wif_d (fun h3 => ?_) (fun h3 => ?_)
    · refine index_sls fz_len (h.ext hE2) rfl (by omega) (fun p x hx hc => ?_)
      refine loadN_at (vs := x.cells) rfl hc ?_
      refine new (fun w3 hE3 hz3 hB3 => ?_)
      refine storeN_blk0 hB3 rfl (sc rfl) (fun w4 hg4 hz4 hB4 => ?_)
      have hE24 : Ext w2 w4 := newBox hE3 hB3 hg4
      have hE4 := hE2.trans hE24
      have hU4 := hU2.ext hE24
      refine loadN_blk0 hB4 rfl ?_
      refine call (arity_fn x s w4) ?_
      rintro v w5 ⟨rfl, hE5⟩
      have hB5 := hB4.ext hE5
      have bad : ¬ (fzP x s ∧ (fkids (f.take (s + 1))).Nodup) → chkF f = 30 := fun hno => by
        refine chkF_no ?_
        by_cases hx1 : fzP x s
        · refine nFV_dup (s := s + 1) (fun j y hj hy => ?_) (by omega) (fun h => hno ⟨hx1, h⟩)
          by_cases hjs : j < s
          · exact hnd j y hjs hy
          · have : j = s := by omega
            subst this
            rw [Option.some.inj (hy.symm.trans hx)]; exact hx1
        · exact nFV_nd hx hx1
      by_cases hxp : ¬ fzP x s
      · refine wif_dt (by rw [if_neg hxp]; decide) ?_
        exact ⟨by rw [bad (fun hh => hxp hh.1)], hE4.trans hE5⟩
      replace hxp := Decidable.not_not.1 hxp
      have h0 := hxp.1
      have e5 : (if fzP x s then fAr x.o else -1) = ((fAr x.o).toNat : Int) := by rw [if_pos hxp]; omega
      rw [e5]
      refine wif_df (by omega) ?_
      refine load_blk hB5 rfl ?_
      refine load_blk hB5 rfl ?_
      refine at_build2 gx_ok rfl rfl rfl rfl rfl rfl rfl rfl rfl rfl (fun w6 hE6 hz6 hB6 => ?_)
      have har : (fAr x.o).toNat ≤ 2 := by rcases fAr_cases x.o with h | h | h | h <;> omega
      refine at_slice_h gx_ok rfl rfl rfl rfl rfl rfl har ?_
      have hE56 := hE5.trans hE6
      have hU6 := hU4.ext hE56
      have hE06 := hE4.trans hE56
      obtain ⟨ol, ok⟩ := opds_kids hxp
      have hfl := fKids_len x h0
      have hsl : Sl w6 1 (some ⟨w5.heap.size, 0, none⟩) (fAr x.o).toNat 2 ((opds x).map (Value.int .i64)) := by
        have := Sl.own (sz := 1) (n := (fAr x.o).toNat) (c := 2) hB6 har (by decide) (by simpa using har)
        rw [Nat.mul_one] at this
        simpa [opds, List.map_take] using this
      have hkz : fkids (f.take (s + 1)) = fkids (f.take s) ++ fKids x := fkids_snoc f hx
      refine loop gx_ok [38] (fun t : Nat => [.int .i64 t]) (fun t w' => Mod (· = w.heap.size) w6 w' ∧ Blk w' w.heap.size 232 (boolsV (usedL (fkids (f.take s) ++ (fKids x).take t) 512)) ∧ t ≤ (fAr x.o).toNat ∧ (fkids (f.take s) ++ (fKids x).take t).Nodup) (fun t _ => (fAr x.o).toNat - t) 0 rfl ⟨Mod.refl _ _, by simpa using hU6, Nat.zero_le _, by simpa using hnn⟩ ?_
      rintro t w7 ⟨hm7, hU7, ht, hn7⟩
      have hE7 : Ext w w7 := hm7.ext hE06 (fun i hi => by omega)
      refine wif_d (fun h7 => ?_) (fun h7 => ?_)
      · have htl : t < (opds x).length := by omega
        have hot : (opds x)[t]? = some (opds x)[t] := List.getElem?_eq_getElem htl
        generalize (opds x)[t] = a at hot
        obtain ⟨a0, ai, ak⟩ := ok t a hot
        refine index_sl hsl (by omega) (fun ad u hA hu hcell => ?_)
        simp only [List.getElem?_map, hot, Option.map_some] at hu
        cases hu
        have hcell7 : w7.cell? (ad.add t) = some (.int .i64 a) := World.grownBy.cell (hm7.grown (row := some w.heap.size) (fun i hi => by rw [hi])) hcell (by
          rw [block_add]
          cases hA
          intro e
          have := (Option.some.inj e)
          have := hE4.size
          have := hE5.size
          have := hE1.size
          have := hU2.lt
          simp only at *
          omega)
        refine load hcell7 ?_
        have hal : a.toNat < 512 := by omega
        refine index_i (j := a.toNat) (by omega) hal ?_
        refine load_blk hU7 (boolsV_get (usedL_get _ _ _ hal)) ?_
        have htk : (fKids x).take (t + 1) = (fKids x).take t ++ [a.toNat] := by rw [List.take_add_one, ak]; rfl
        refine wif_d (fun h8 => ?_) (fun h8 => ?_)
        · refine ⟨?_, hE7⟩
          rw [bad]
          rintro ⟨_, hnd2⟩
          rw [hkz] at hnd2
          have hsub : (fkids (f.take s) ++ (fKids x).take (t + 1)).Nodup := hnd2.sublist ((List.Sublist.refl _).append (List.take_sublist _ _))
          rw [htk, ← List.append_assoc, List.nodup_append] at hsub
          exact hsub.2.2 _ h8 _ (by simp) rfl
        · refine index_i (j := a.toNat) (by omega) hal ?_
          refine store_mod hU7 (by rw [boolsV_length, usedL_len]; exact hal) (fun w8 hm8 hB8 => ?_)
          rw [← boolsV_set, usedL_set, List.append_assoc, ← htk] at hB8
          refine norm_i64_to ((t + 1 : Nat) : Int) (by omega) (by omega) ?_
          refine ⟨t + 1, rfl, ⟨hm7.trans hm8 (fun i hi => .inl hi), hB8, by omega, ?_⟩, by show (fAr x.o).toNat - (t + 1) < (fAr x.o).toNat - t; omega⟩
          rw [htk, ← List.append_assoc, List.nodup_append]
          refine ⟨hn7, by simp, fun u hu v hv e => ?_⟩
          simp only [List.mem_singleton] at hv
          subst hv; subst e
          exact h8 hu
      · have e : (fKids x).take t = fKids x := List.take_of_length_le (by omega)
        rw [e, ← hkz] at hU7 hn7
        refine norm_i64_to ((s + 1 : Nat) : Int) (by omega) (by omega) ?_
        refine ⟨s + 1, rfl, ⟨hE7, hU7, by omega, fun j y hj hy => ?_, hn7⟩, by show n - (s + 1) < n - s; omega⟩
        by_cases hjs : j < s
        · exact hnd j y hjs hy
        · have : j = s := by omega
          subst this
          rw [Option.some.inj (hy.symm.trans hx)]; exact hxp
    · have : s = n := by omega
      subst this
      rw [List.take_of_length_le (by omega)] at hU2 hnn
      exact ⟨(), rfl, hE2, hU2, hnd, hnn⟩
  rintro ⟨⟩ w2 ⟨hE2, hU2, hnd, hnn⟩
  refine norm_i64_to ((n - 1 : Nat) : Int) (by omega) (by omega) ?_
  refine at_slice_h gx_ok rfl rfl rfl rfl rfl rfl (by have := h.1.le; omega) ?_
  refine loop gx_ok [55] (fun s : Nat => [.int .i64 s]) (fun s w' => w2 = w' ∧ s ≤ n - 1 ∧ ∀ j, j < s → j ∈ fkids f) (fun s _ => n - s) 0 rfl ⟨rfl, Nat.zero_le _, fun j hj => absurd hj (by omega)⟩ ?_
  rintro s _ ⟨rfl, hs, hu⟩
  refine wif_d (fun h3 => ?_) (fun h3 => ?_)
  · refine index (by omega) ?_
    refine load_blk hU2 (boolsV_get (usedL_get _ _ s (by omega))) ?_
    refine wif_not (wif_d (fun hm => ?_) (fun hm => ?_))
    · refine norm_i64_to ((s + 1 : Nat) : Int) (by omega) (by omega) ?_
      refine ⟨s + 1, rfl, ⟨rfl, by omega, fun j hj => ?_⟩, by show n - (s + 1) < n - s; omega⟩
      by_cases hjs : j < s
      · exact hu j hjs
      · have : j = s := by omega
        rw [this]; exact hm
    · refine ⟨?_, hE2⟩
      rw [chkF_no (fun hv => ?_)]
      have := hv.2.2.2 s (by omega)
      rw [List.count_eq_zero.2 hm] at this
      cases this
  · exact ⟨by rw [chkF_ok (FV_of (by omega) (by omega) (fun j x hj hx => hnd j x (by omega) hx) hnn (fun j hj => hu j (by omega)))], hE2⟩
end
end Go.Proofs.YtedopgkbajhanaaGreatDoor
