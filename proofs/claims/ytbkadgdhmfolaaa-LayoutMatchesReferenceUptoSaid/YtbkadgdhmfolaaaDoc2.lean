/-
  The documents' Check, the program's and the reference's: the contracts.
  Conditions: none.
-/
import Derived.Test.YtbkadgdhmfolaaaDoc1
namespace Go.Proofs.Ytbkadgdhmfolaaa
open Go Go.RowKit

def boolsV (l : List Bool) : List Value := l.map .bool
theorem boolsV_get {l : List Bool} {j : Nat} {b : Bool} (h : l[j]? = some b) : (boolsV l)[j]? = some (.bool b) := by simp [boolsV, h]
theorem boolsV_length (l : List Bool) : (boolsV l).length = l.length := by simp [boolsV]
theorem boolsV_set (l : List Bool) (i : Nat) (b : Bool) : boolsV (l.set i b) = (boolsV l).set i (.bool b) := by simp [boolsV, List.map_set]
theorem boolsV_scalar (l : List Bool) : ∀ u ∈ boolsV l, scalar u = true := by
  intro u hu; simp only [boolsV, List.mem_map] at hu; obtain ⟨x, _, rfl⟩ := hu; rfl
theorem boolsV_replicate (n : Nat) : List.replicate n (Value.bool false) = boolsV (List.replicate n false) := by simp [boolsV]
def intsV (l : List Int) : List Value := l.map (.int .i64)
theorem intsV_get {l : List Int} {j : Nat} {b : Int} (h : l[j]? = some b) : (intsV l)[j]? = some (.int .i64 b) := by simp [intsV, h]
theorem intsV_length (l : List Int) : (intsV l).length = l.length := by simp [intsV]
theorem intsV_set (l : List Int) (i : Nat) (b : Int) : intsV (l.set i b) = (intsV l).set i (.int .i64 b) := by simp [intsV, List.map_set]
theorem intsV_append (l m : List Int) : intsV (l ++ m) = intsV l ++ intsV m := by simp [intsV]
theorem intsV_scalar (l : List Int) : ∀ u ∈ intsV l, scalar u = true := by
  intro u hu; simp only [intsV, List.mem_map] at hu; obtain ⟨x, _, rfl⟩ := hu; rfl

/-! ### Which nodes are used -/
def usedOf (d : List Nd) (i n : Nat) : List Bool := (List.range n).map fun j => decide (j ∈ kids (d.take i))
def countsOf (d : List Nd) (i n : Nat) : List Int := (List.range n).map fun j => ((kids (d.take i)).count j : Int)
theorem kids_snoc (d : List Nd) {i : Nat} {x : Nd} (h : d[i]? = some x) : kids (d.take (i + 1)) = kids (d.take i) ++ kidsOf x := by
  simp [kids, List.take_add_one, h]

def useF (u : List Bool) (nd : Bool) (i at_ : Int) : Bool × List Bool :=
  if nd = false then (decide (i = 0), u) else if i < 0 ∨ at_ ≤ i ∨ u[i.toNat]?.getD true = true then (false, u) else (true, u.set i.toNat true)

structure CkW (w0 w : World) (gc gu n : Nat) (u : List Bool) : Prop where
  ext : Ext w0 w
  ge : w0.heap.size ≤ gu
  ne : gc ≠ gu
  cell : Blk w gc 32 [.slice (some ⟨gu, 0, none⟩) n n]
  row : Blk w gu 4 (boolsV u)
  len : u.length = n

theorem CkW.grow {w0 w w' : World} {gc gu n : Nat} {u : List Bool} (h : CkW w0 w gc gu n u) (k : Ext w w') : CkW w0 w' gc gu n u := ⟨h.ext.trans k, h.ge, h.ne, h.cell.ext k, h.row.ext k, h.len⟩

theorem use_fn (w0 w : World) (gc gu n : Nat) (u : List Bool) (nd : Bool) (i at_ : Int) (h : CkW w0 w gc gu n u) (ha : at_ ≤ n) :
    Fn Try.prog 58 [.bool nd, .int .i64 i, .int .i64 at_, .pointer (some ⟨gc, 0, none⟩)] w (fun v w' => v = .bool (useF u nd i at_).1 ∧ w.grownBy w' (some gu) ∧ CkW w0 w' gc gu n (useF u nd i at_).2) := by
  have hr := World.grownBy.refl w (some gu)
  refine fn_of_exec (c := c58) gx_ok Try.func58 rfl rfl rfl ?_
  refine wif_not (wif (fun hn => ?_) (fun hn => ?_))
  · have hget : ∀ (hi : ¬ i < 0) (hj : ¬ i ≥ at_), ∃ b, u[i.toNat]? = some b := fun hi hj => by
      have : i.toNat < u.length := by rw [h.len]; omega
      exact ⟨u[i.toNat], List.getElem?_eq_getElem this⟩
    refine wif_d (fun hi => ?_) (fun hi => ?_)
    · exact ⟨by simp [useF, hn, hi], hr, by simpa [useF, hn, hi] using h⟩
    refine wif_d (fun hj => ?_) (fun hj => ?_)
    · have hj' : at_ ≤ i := hj
      exact ⟨by simp [useF, hn, hj'], hr, by simpa [useF, hn, hj'] using h⟩
    obtain ⟨b, hb⟩ := hget hi hj
    have hlt : i.toNat < n := by omega
    refine load_blk0 h.cell rfl ?_
    refine index_i (j := i.toNat) (by omega) hlt ?_
    refine load_blk h.row (boolsV_get hb) ?_
    have hj' : ¬ at_ ≤ i := hj
    refine wif (fun hbt => ?_) (fun hbf => ?_)
    · subst hbt
      exact ⟨by simp [useF, hn, hb], hr, by simpa [useF, hn, hb] using h⟩
    · subst hbf
      refine load_blk0 h.cell rfl ?_
      refine index_i (j := i.toNat) (by omega) hlt ?_
      refine store_blk h.row (by rw [boolsV_length, h.len]; exact hlt) (fun w1 hg hB => ?_)
      rw [← boolsV_set] at hB
      have hu : useF u nd i at_ = (true, u.set i.toNat true) := by simp [useF, hn, hi, hj', hb]
      rw [hu]
      exact ⟨rfl, hg, h.ext.own hg h.ge, h.ge, h.ne, h.cell.other hg h.ne, hB, by simp [h.len]⟩
  · exact ⟨by simp [useF, hn]; rfl, hr, by simpa [useF, hn] using h⟩

/-! ### What a round of Check decides -/
theorem kidsOf_lt {x : Nd} {i : Nat} (h : ndP x i) : ∀ j ∈ kidsOf x, j < i := by
  intro j hj
  have h3 := h.2.2.1
  have h4 := h.2.2.2
  unfold kidsOf at hj
  split at hj
  · rename_i h2
    rw [if_pos (by omega)] at h3 h4
    simp at hj
    omega
  · split at hj
    · rename_i h2
      rw [if_pos (by omega)] at h3
      simp at hj
      omega
    · simp at hj

theorem kids_lt {d : List Nd} {i : Nat} (h : ∀ j x, j < i → d[j]? = some x → ndP x j) : ∀ j ∈ kids (d.take i), j + 1 < i := by
  intro j hj
  simp only [kids, List.mem_flatMap] at hj
  obtain ⟨x, hx, hk⟩ := hj
  obtain ⟨m, hm, hx'⟩ := List.mem_iff_getElem.1 hx
  have hlen : m < i := by simp at hm; omega
  have hx2 : d[m]? = some x := by
    rw [List.getElem_take] at hx'
    rw [← hx']
    exact List.getElem?_eq_getElem _
  have := kidsOf_lt (h m x hlen hx2) j hk
  omega

theorem used_get (d : List Nd) (i n j : Nat) (hj : j < n) : (usedOf d i n)[j]? = some (decide (j ∈ kids (d.take i))) := by
  simp [usedOf, hj]
theorem used_len (d : List Nd) (i n : Nat) : (usedOf d i n).length = n := by simp [usedOf]

theorem used_set (l : List Nat) (n k : Nat) : ((List.range n).map fun j => decide (j ∈ l)).set k true = (List.range n).map fun j => decide (j ∈ l ++ [k]) := by
  apply List.ext_getElem
  · simp
  · intro i h1 h2
    simp at h1
    simp only [List.getElem_set, List.getElem_map, List.getElem_range, List.mem_append, List.mem_singleton]
    split
    · rename_i h; subst h; simp
    · rename_i h
      have : ¬ i = k := fun e => h e.symm
      simp [this]

theorem useF_on (l : List Nat) (n : Nat) (a : Int) (s : Nat) (hs : s ≤ n) :
    useF ((List.range n).map fun j => decide (j ∈ l)) true a s = if 0 ≤ a ∧ a < s ∧ a.toNat ∉ l then (true, (List.range n).map fun j => decide (j ∈ l ++ [a.toNat])) else (false, (List.range n).map fun j => decide (j ∈ l)) := by
  unfold useF
  rw [if_neg (by decide)]
  by_cases h1 : a < 0
  · rw [if_pos (.inl h1), if_neg (by omega)]
  · by_cases h2 : (s : Int) ≤ a
    · rw [if_pos (.inr (.inl h2)), if_neg (by omega)]
    · have hlt : a.toNat < n := by omega
      have hg : ((List.range n).map fun j => decide (j ∈ l))[a.toNat]? = some (decide (a.toNat ∈ l)) := by simp [hlt]
      rw [hg]
      simp only [Option.getD_some, decide_eq_true_eq]
      by_cases h3 : a.toNat ∈ l
      · rw [if_pos (.inr (.inr h3)), if_neg (fun h => h.2.2 h3)]
      · rw [if_neg (by rintro (h | h | h) <;> first | omega | exact h3 h), if_pos ⟨by omega, by omega, h3⟩, used_set]
theorem useF_off (u : List Bool) (a : Int) (s : Int) : useF u false a s = (decide (a = 0), u) := by simp [useF]

/-- Both uses of a node's operands. -/
theorem use_step {d : List Nd} {s n : Nat} {x : Nd} (hs : s ≤ n) (hx : d[s]? = some x) (h0 : 0 ≤ arI x.k) (hf : fldP x) (hnd : (kids (d.take s)).Nodup) :
    (((useF (usedOf d s n) (decide (arI x.k > 0)) x.a s).1 = true ∧ (useF (useF (usedOf d s n) (decide (arI x.k > 0)) x.a s).2 (decide (arI x.k > 1)) x.b s).1 = true) ↔ ndP x s ∧ (kids (d.take (s + 1))).Nodup) ∧
    (ndP x s ∧ (kids (d.take (s + 1))).Nodup → (useF (useF (usedOf d s n) (decide (arI x.k > 0)) x.a s).2 (decide (arI x.k > 1)) x.b s).2 = usedOf d (s + 1) n) := by
  rw [kids_snoc d hx]
  have e : usedOf d (s + 1) n = (List.range n).map fun j => decide (j ∈ kids (d.take s) ++ kidsOf x) := by simp only [usedOf, kids_snoc d hx]
  rw [e]
  unfold usedOf
  generalize kids (d.take s) = l at *
  rcases arI_cases x.k with h | h | h | h
  · simp only [h, ndP, kidsOf, fldP] at hf ⊢
    rw [show decide ((0 : Int) > 0) = false from rfl, show decide ((0 : Int) > 1) = false from rfl, useF_off, useF_off]
    simp [hnd, hf]
  · simp only [h, ndP, kidsOf, fldP] at hf ⊢
    rw [show decide ((1 : Int) > 0) = true from rfl, show decide ((1 : Int) > 1) = false from rfl, useF_off, useF_on _ _ _ _ hs]
    by_cases hc : 0 ≤ x.a ∧ x.a < s ∧ x.a.toNat ∉ l
    · rw [if_pos hc]
      simp [hnd, hf, hc, List.nodup_append]
      intro _ a ha e; subst e; exact hc.2.2 ha
    · rw [if_neg hc]
      simp only [Bool.false_eq_true, false_and, false_iff, List.nodup_append, decide_eq_true_eq]
      have key : ¬ ((0 ≤ x.a ∧ x.a < s) ∧ x.a.toNat ∉ l) := fun h => hc ⟨h.1.1, h.1.2, h.2⟩
      refine ⟨?_, ?_⟩
      · rintro ⟨⟨_, _, h5, _⟩, _, _, h7⟩
        rw [if_pos (by decide)] at h5
        exact key ⟨h5, fun hm => h7 _ hm _ (by simp) rfl⟩
      · rintro ⟨⟨_, _, h5, _⟩, _, _, h7⟩
        rw [if_pos (by decide)] at h5
        exact absurd ⟨h5, fun hm => h7 _ hm _ (by simp) rfl⟩ key
  · simp only [h, ndP, kidsOf, fldP] at hf ⊢
    rw [show decide ((2 : Int) > 0) = true from rfl, show decide ((2 : Int) > 1) = true from rfl, useF_on _ _ _ _ hs]
    by_cases hc : 0 ≤ x.a ∧ x.a < s ∧ x.a.toNat ∉ l
    · rw [if_pos hc]
      simp only
      rw [useF_on _ _ _ _ hs]
      by_cases hc2 : 0 ≤ x.b ∧ x.b < s ∧ x.b.toNat ∉ l ++ [x.a.toNat]
      · rw [if_pos hc2]
        have hab : ¬ x.a.toNat = x.b.toNat := fun e => hc2.2.2 (by simp [e])
        have hb : x.b.toNat ∉ l := fun hm => hc2.2.2 (by simp [hm])
        simp only [and_true, true_iff, List.append_assoc, List.cons_append, List.nil_append, if_true, implies_true]
        refine ⟨⟨by omega, hf, by rw [if_pos (by decide)]; omega, by rw [if_pos (by decide)]; omega⟩, ?_⟩
        rw [List.nodup_append]
        refine ⟨hnd, by simpa using hab, ?_⟩
        intro u hu v hv e
        subst e
        simp at hv
        rcases hv with rfl | rfl
        · exact hc.2.2 hu
        · exact hb hu
      · rw [if_neg hc2]
        have key : ¬ ((0 ≤ x.b ∧ x.b < s) ∧ x.b.toNat ∉ l ++ [x.a.toNat]) := fun h => hc2 ⟨h.1.1, h.1.2, h.2⟩
        have no : ¬ ((0 ≤ (2 : Int) ∧ ((x.t = ⟨#[]⟩ ∨ x.k = 0 ∨ x.k = 1) ∧ 10 ∉ bytesOf x.t ∧ (x.n = 0 ∨ x.k = 4) ∧ 0 ≤ x.n ∧ x.n ≤ 1000) ∧ (if (0 : Int) < 2 then 0 ≤ x.a ∧ x.a < s else x.a = 0) ∧ (if (1 : Int) < 2 then 0 ≤ x.b ∧ x.b < s else x.b = 0)) ∧ (l ++ (if (2 : Int) = 2 then [x.a.toNat, x.b.toNat] else if (2 : Int) = 1 then [x.a.toNat] else [])).Nodup) := by
          rintro ⟨⟨_, _, _, h6⟩, h7⟩
          rw [if_pos (by decide)] at h6
          rw [if_pos rfl, List.nodup_append] at h7
          refine key ⟨h6, fun hm => ?_⟩
          simp only [List.mem_append, List.mem_singleton] at hm
          rcases hm with hm | hm
          · exact h7.2.2 _ hm x.b.toNat (by simp) rfl
          · have := h7.2.1; simp [hm] at this
        exact ⟨⟨fun h => by simp at h, fun h => absurd h no⟩, fun h => absurd h no⟩
    · rw [if_neg hc]
      have key : ¬ ((0 ≤ x.a ∧ x.a < s) ∧ x.a.toNat ∉ l) := fun h => hc ⟨h.1.1, h.1.2, h.2⟩
      have no : ¬ ((0 ≤ (2 : Int) ∧ ((x.t = ⟨#[]⟩ ∨ x.k = 0 ∨ x.k = 1) ∧ 10 ∉ bytesOf x.t ∧ (x.n = 0 ∨ x.k = 4) ∧ 0 ≤ x.n ∧ x.n ≤ 1000) ∧ (if (0 : Int) < 2 then 0 ≤ x.a ∧ x.a < s else x.a = 0) ∧ (if (1 : Int) < 2 then 0 ≤ x.b ∧ x.b < s else x.b = 0)) ∧ (l ++ (if (2 : Int) = 2 then [x.a.toNat, x.b.toNat] else if (2 : Int) = 1 then [x.a.toNat] else [])).Nodup) := by
        rintro ⟨⟨_, _, h5, _⟩, h7⟩
        rw [if_pos (by decide)] at h5
        rw [if_pos rfl, List.nodup_append] at h7
        exact key ⟨h5, fun hm => h7.2.2 _ hm x.a.toNat (by simp) rfl⟩
      exact ⟨⟨fun h => by simp at h, fun h => absurd h no⟩, fun h => absurd h no⟩
  · omega

theorem not_valid_nd {d : List Nd} {s : Nat} {x : Nd} (hx : d[s]? = some x) (h : ¬ ndP x s) : ¬ Valid d := fun hv => h (hv.2.2.1 s x hx)
theorem not_valid_dup {d : List Nd} {s : Nat} (hnd : ∀ j x, j < s → d[j]? = some x → ndP x j) (hs : s ≤ d.length) (h : ¬ (kids (d.take s)).Nodup) : ¬ Valid d := fun hv => by
  apply h
  rw [List.nodup_iff_count]
  intro a
  by_cases ha : a ∈ kids (d.take s)
  · have h1 := kids_lt hnd a ha
    have h2 := hv.2.2.2 a (by omega)
    rw [← h2]
    have hsub : (kids (d.take s)).Sublist (kids d) := by
      have : kids d = kids (d.take s) ++ kids (d.drop s) := by
        unfold kids
        rw [← List.flatMap_append, List.take_append_drop]
      rw [this]
      exact List.sublist_append_left _ _
    exact hsub.count_le a
  · rw [List.count_eq_zero.2 ha]; omega
theorem valid_of {d : List Nd} (h1 : d.length ≤ 65536) (h2 : 0 < d.length) (hnd : ∀ j x, j < d.length → d[j]? = some x → ndP x j) (hn : (kids d).Nodup) (hu : ∀ j, j + 1 < d.length → j ∈ kids d) : Valid d :=
  ⟨h1, h2, fun i x hx => hnd i x (List.getElem?_eq_some_iff.1 hx).1 hx, fun i hi => by
    have h3 := List.nodup_iff_count.1 hn i
    have h4 := List.count_pos_iff.2 (hu i hi)
    omega⟩

theorem check_fn (A : Option Addr) (n c : Nat) (d : List Nd) (w : World) (h : SD w A n c d) :
    Fn Try.prog 46 [.slice A n c] w (fun v w' => v = .int .i64 (chk d) ∧ Ext w w') := by
  have hlen := h.2
  refine fn_of_exec (c := { c46 with cuts := [5, 12] }) gx_ok Try.func46 rfl rfl rfl ?_
  refine wif_d (fun h1 => ?_) (fun h1 => ?_)
  · exact ⟨by rw [chk_large (by omega)], Ext.refl w⟩
  refine at_make gx_ok rfl rfl rfl rfl rfl rfl rfl rfl (by show 1 * n ≤ _; omega) (by unfold maxLen; omega) (fun w1 hE1 hsz1 hB1 => ?_)
  refine new (fun w2 hE2 hsz2 hB2 => ?_)
  refine store_blk0 hB2 (by decide) (fun w3 hg3 hB3 => ?_)
  have hB13 := (hB1.ext hE2).other hg3 (by omega)
  rw [boolsV_replicate] at hB13
  have h0 : usedOf d 0 n = List.replicate n false := by
    apply List.ext_getElem
    · simp [usedOf]
    · intro i h1 h2; simp [usedOf, kids]
  have hw3 : CkW w w3 w1.heap.size w.heap.size n (usedOf d 0 n) :=
    ⟨(hE1.trans hE2).own hg3 (by omega), Nat.le_refl _, by omega, hB3, by rw [h0]; exact hB13, used_len _ _ _⟩
  clear hB1 hB2 hB3 hB13 hg3
  refine cut0 gx_ok (fun w' => CkW w w' w1.heap.size w.heap.size n (usedOf d n n) ∧ (∀ j x, j < n → d[j]? = some x → ndP x j) ∧ (kids d).Nodup) ?_ ?_
  · refine loop gx_ok [18] (fun s : Nat => [.int .i64 s]) (fun s w' => CkW w w' w1.heap.size w.heap.size n (usedOf d s n) ∧ s ≤ n ∧ (∀ j x, j < s → d[j]? = some x → ndP x j) ∧ (kids (d.take s)).Nodup) (fun s _ => n - s) 0 rfl ⟨hw3, Nat.zero_le _, fun j x hj => absurd hj (by omega), by simp [kids]⟩ ?_
    rintro s w4 ⟨hk, hs, hnd, hnn⟩
    refine wif_d (fun h2 => ?_) (fun h2 => ?_)
    · refine index_sls nd_len (h.ext hk.ext) rfl (by omega) (fun p x hx hc => ?_)
      refine loadN_at (vs := x.cells) rfl hc ?_
      refine new (fun w5 hE5 _ hB5 => ?_)
      refine storeN_blk0 hB5 rfl (by simp [Nd.cells, scalar]) (fun w6 hg6 _ hB6 => ?_)
      have hk6 := hk.grow ((Ext.refl w4).own (hE5.grown (some w4.heap.size) |> fun a => grown_trans a hg6) (Nat.le_refl _))
      clear hE5 hB5 hg6
      have bad : ¬ (ndP x s ∧ (kids (d.take (s + 1))).Nodup) → chk d = 250 := fun hno => by
        refine chk_no (by omega) ?_
        by_cases hx1 : ndP x s
        · refine not_valid_dup (s := s + 1) (fun j y hj hy => ?_) (by omega) (fun h => hno ⟨hx1, h⟩)
          by_cases hjs : j < s
          · exact hnd j y hjs hy
          · have : j = s := by omega
            subst this
            rw [Option.some.inj (hy.symm.trans hx)]; exact hx1
        · exact not_valid_nd hx hx1
      refine load_blk hB6 rfl ?_
      refine call (arity_fn _ _) ?_
      rintro v w' ⟨rfl, rfl⟩
      refine wif_d (fun h3 => ?_) (fun h3 => ?_)
      · exact ⟨by rw [bad (fun hh => by have := hh.1.1; omega)], hk6.ext⟩
      refine loadN_blk0 hB6 rfl ?_
      refine call (fields_fn _ _) ?_
      rintro v w7 ⟨b, rfl, hb, hE7⟩
      refine wif_not (wif (fun hbt => ?_) (fun hbf => ?_))
      case refine_2 =>
        exact ⟨by rw [bad (fun hh => by have := hb.2 hh.1.2.1; rw [hbf] at this; cases this)], hk6.ext.trans hE7⟩
      have hfx := hb.1 hbt
      have hB7 := hB6.ext hE7
      refine load_blk hB7 rfl ?_
      refine call (use_fn w w7 _ _ n _ _ _ _ (hk6.grow hE7) (by omega)) ?_
      rintro v w8 ⟨rfl, hg8, hk8⟩
      have hB8 := hB7.other hg8 (by have := hk.row.lt; omega)
      have hus := use_step (d := d) (s := s) (n := n) hs hx (by omega) hfx hnn
      refine wif_not (wif (fun hu1 => ?_) (fun hu1 => ?_))
      case refine_2 =>
        exact ⟨by rw [bad (fun hh => by have := (hus.1.2 hh).1; rw [hu1] at this; cases this)], hk8.ext⟩
      refine load_blk hB8 rfl ?_
      refine call (use_fn w w8 _ _ n _ _ _ _ hk8 (by omega)) ?_
      rintro v w9 ⟨rfl, hg9, hk9⟩
      refine wif_not (wif (fun hu2 => ?_) (fun hu2 => ?_))
      case refine_2 =>
        exact ⟨by rw [bad (fun hh => by have := (hus.1.2 hh).2; rw [hu2] at this; cases this)], hk9.ext⟩
      have hok := hus.1.1 ⟨hu1, hu2⟩
      rw [hus.2 hok] at hk9
      refine norm_i64_to ((s + 1 : Nat) : Int) (by omega) (by omega) ?_
      refine ⟨s + 1, rfl, ⟨hk9, by omega, fun j y hj hy => ?_, hok.2⟩, by show n - (s + 1) < n - s; omega⟩
      by_cases hjs : j < s
      · exact hnd j y hjs hy
      · have : j = s := by omega
        subst this
        rw [Option.some.inj (hy.symm.trans hx)]; exact hok.1
    · have : s = n := by omega
      subst this
      exact ⟨rfl, hk, hnd, by rwa [List.take_of_length_le (by omega)] at hnn⟩
  rintro w4 ⟨hk, hnd, hnn⟩
  refine cut0 gx_ok (fun w' => w4 = w' ∧ ∀ j, j + 1 < n → j ∈ kids d) ?_ ?_
  · refine norm_i64_to ((n : Int) - 1) rfl (by omega) ?_
    refine loop gx_ok [57] (fun s : Nat => [.int .i64 s]) (fun s w' => w4 = w' ∧ (s + 1 ≤ n ∨ s = 0) ∧ ∀ j, j < s → j ∈ kids d) (fun s _ => n - s) 0 rfl ⟨rfl, .inr rfl, fun j hj => absurd hj (by omega)⟩ ?_
    rintro s w' ⟨rfl, hs, hu⟩
    refine wif_d (fun h2 => ?_) (fun h2 => ?_)
    · refine load_blk0 hk.cell rfl ?_
      refine index (by omega) ?_
      refine load_blk hk.row (boolsV_get (used_get d n n s (by omega))) ?_
      rw [List.take_of_length_le (by omega)]
      refine wif_not (wif_d (fun hm => ?_) (fun hm => ?_))
      · refine norm_i64_to ((s + 1 : Nat) : Int) (by omega) (by omega) ?_
        refine ⟨s + 1, rfl, ⟨rfl, by omega, fun j hj => ?_⟩, by show n - (s + 1) < n - s; omega⟩
        by_cases hjs : j < s
        · exact hu j hjs
        · have : j = s := by omega
          rw [this]; exact hm
      · refine ⟨?_, hk.ext⟩
        rw [chk_no (by omega) (fun hv => ?_)]
        have := hv.2.2.2 s (by omega)
        rw [List.count_eq_zero.2 hm] at this
        cases this
    · exact ⟨rfl, rfl, fun j hj => hu j (by omega)⟩
  rintro w' ⟨rfl, hu⟩
  refine wif_eq (fun h2 => ?_) (fun h2 => ?_)
  · exact ⟨by rw [chk_no (by omega) (fun hv => by have := hv.2.1; omega)], hk.ext⟩
  · exact ⟨by rw [chk_ok (valid_of (by omega) (by omega) (fun j x hj hx => hnd j x (by omega) hx) hnn (fun j hj => hu j (by omega)))], hk.ext⟩
end Go.Proofs.Ytbkadgdhmfolaaa
