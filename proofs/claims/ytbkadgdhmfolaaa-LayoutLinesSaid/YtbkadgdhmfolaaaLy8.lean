/-
  layout: the least normal choice; bytes of a string in memory; a look into a map.
  Conditions: none.
-/
import Derived.Test.YtbkadgdhmfolaaaLy7
import Derived.Test.YtbkadgdhmfolaaaPlT
import Derived.Laws.IdiomStrings
namespace Go.Proofs.Ytbkadgdhmfolaaa
open Go Go.RowKit

theorem at_lookupQ {α : Type} [DecidableEq α] {kv : α → Value} {c : Cx} {o : Oper} {S : Env} {w : World} {K : Env → World → Prop} {Q : Post} {t ke e : Nat} {r re : TyRow} {x y : Operand} {q : Nat} {m : List (α × Value)} {a : α} (hg : c.g.Ok) (ho : o.op = .lookup t x y false) (hr : rowOf c.g.tys t = some r) (hd : r.d = .map ke e) (hre : rowOf c.g.tys e = some re) (hk : KeyQ c.g.P ke kv)
    (hx : S.ev x = some (.map (some q))) (hy : S.ev y = some (kv a)) (hm : MapQ kv w q m) {v : Value} (hv : assoc a m = some v)
    (k : putK c S o.dst (.v v) (fun S => K S w)) : AtOp c o S w K Q := by
  refine at_run (w' := w) (fun b hf => ?_) k
  have e1 := hf.ev hx
  have e2 := hf.ev hy
  have := run_lookupQ (w := w) (a := a) hg hr hd hre hk hm false
  rw [hv] at this
  simp only [execOp, ho, e1, e2]
  simp only [Sem.run_bind, this, Result.andThen_ok]
  simp

/-- The bytes of a string, as a new slice. -/
theorem at_bytes {c : Cx} (hg : c.g.Ok) {o : Oper} {S : Env} {w : World} {K : Env → World → Prop} {Q : Post} {t t2 e : Nat} {x : Operand} {s : ByteArray} {r re r2 : TyRow}
    (ho : o.op = .convert t2 t x) (hr : rowOf c.g.tys t = some r) (hd : r.d = .slice e) (hre : rowOf c.g.tys e = some re) (hde : re.d = .int .u8) (hr2 : rowOf c.g.tys t2 = some r2) (hd2 : r2.d = .string)
    (hx : S.ev x = some (.string s)) (hs : s.size ≤ maxLen)
    (k : ∀ A cp w1, Ext w w1 → Sl w1 1 A s.size cp (bytesV (bytesOf s)) → putK c S o.dst (.v (.slice A s.size cp)) (fun S => K S w1)) : AtOp c o S w K Q := by
  have hr' := (hg.row hr).1
  have hre' := (hg.row hre).1
  have hr2' := (hg.row hr2).1
  rw [hd] at hr'; rw [hde] at hre'; rw [hd2] at hr2'
  have hrun := run_bytes_of_string (P := c.g.P) w t2 t e s hr2' hr' hre'
  have hE : Ext w (w.drew.alloc (.cells (bytesRow s (grownCap w s.size 0 e)) e ((bytesRow s (grownCap w s.size 0 e)).size, (bytesRow s (grownCap w s.size 0 e)).size + 1))) := (Ext.drew w).trans (Ext.alloc _ _)
  refine at_run (fun a hf => ?_) (k (some ⟨w.heap.size, 0, none⟩) (grownCap w s.size 0 e) _ hE ⟨by rw [bytesV_length, bytesOf_length]; omega, grownCap_ge _ _ _ _, grownCap_le_maxLen _ _ _ _ hs, fun _ => ⟨_, rfl, fun j u hu => ?_⟩⟩)
  · have e1 := hf.ev hx
    simp only [execOp, ho, e1, Sem.run_bind, hrun, Result.andThen_ok]
    simp
  · obtain ⟨y, hy, rfl⟩ := bytesV_get hu
    have hjl : j < s.size := by
      have := (List.getElem?_eq_some_iff.1 hy).1
      rw [bytesOf_length] at this; exact this
    rw [bytesOf_get hjl] at hy
    cases hy
    rw [add_own]
    have hh : (w.drew.alloc (.cells (bytesRow s (grownCap w s.size 0 e)) e ((bytesRow s (grownCap w s.size 0 e)).size, (bytesRow s (grownCap w s.size 0 e)).size + 1))).heap[w.heap.size]? = some (.cells (bytesRow s (grownCap w s.size 0 e)) e ((bytesRow s (grownCap w s.size 0 e)).size, (bytesRow s (grownCap w s.size 0 e)).size + 1)) := heap_alloc_new w.drew _
    simp only [World.cell?, hh]
    unfold bytesRow
    rw [Array.getElem?_append_left (by simpa using hjl)]
    have hjd : j < s.data.size := hjl
    rw [Array.getElem?_map, Array.getElem?_eq_getElem hjd]
    rfl

/-- The least of the normal choices. -/
def Least (W : Nat) (t : Dt) (l : List Bool) : Prop := l ∈ nrm t ∧ ∀ l' ∈ nrm t, leR (resR W t l 0 (0, false)) (resR W t l' 0 (0, false))
theorem Least.uniq {W : Nat} {t : Dt} {l l' : List Bool} (h : Least W t l) (h' : Least W t l') : l = l' := by
  have := leR_anti (h.2 l' h'.1) (h'.2 l h.1)
  have h2 := congrArg Rs.c this
  exact h2

/-- On the way through the best results: the least one so far. -/
def MinInv (done : List (Pl × Rs)) (m : List (Bool × Rs)) : Prop := (done = [] ∧ m = []) ∨ ∃ q r, m = [(true, r)] ∧ (q, r) ∈ done ∧ ∀ q' r', (q', r') ∈ done → leR r r'
theorem MinInv.step {done : List (Pl × Rs)} {m : List (Bool × Rs)} (h : MinInv done m) (q : Pl) (r : Rs) : MinInv ((q, r) :: done) (kpM true r m) := by
  right
  rcases h with ⟨rfl, rfl⟩ | ⟨q0, r0, rfl, h1, h2⟩
  · exact ⟨q, r, rfl, by simp, fun q' r' hm => by simp at hm; rw [hm.2]; exact leR_refl _⟩
  · cases hl : lessR r r0 with
    | true =>
      refine ⟨q, r, by simp [kpM, getM, putM, hl], by simp, fun q' r' hm => ?_⟩
      rcases List.mem_cons.1 hm with e | hm
      · cases e; exact leR_refl _
      · exact leR_trans (lessR_le hl) (h2 _ _ hm)
    | false =>
      refine ⟨q0, r0, by simp [kpM, getM, hl], by simp [h1], fun q' r' hm => ?_⟩
      rcases List.mem_cons.1 hm with e | hm
      · cases e; exact hl
      · exact h2 _ _ hm
theorem MinInv.least {W : Nat} {t : Dt} {ma : List (Pl × Rs)} {m : List (Bool × Rs)} (h : MinInv ma m) (hb : IsBest W t 0 (0, false) ma) : ∃ r, m = [(true, r)] ∧ Least W t r.c := by
  rcases h with ⟨rfl, _⟩ | ⟨q, r, rfl, h1, h2⟩
  · exact absurd rfl hb.ne
  · refine ⟨r, rfl, ?_⟩
    obtain ⟨l, hl, rfl, _⟩ := hb.snd _ _ h1
    refine ⟨hl, fun l' hl' => ?_⟩
    obtain ⟨r', hr', hle⟩ := hb.cpl l' hl'
    exact leR_trans (h2 _ _ hr') hle
theorem MinInv.perm {a b : List (Pl × Rs)} {m : List (Bool × Rs)} (h : MinInv a m) (hp : a.Perm b) : MinInv b m := by
  rcases h with ⟨rfl, rfl⟩ | ⟨q, r, rfl, h1, h2⟩
  · exact .inl ⟨List.nil_perm.1 hp, rfl⟩
  · exact .inr ⟨q, r, rfl, hp.mem_iff.1 h1, fun q' r' hm => h2 _ _ (hp.mem_iff.2 hm)⟩

/-- The numbers of groups of the nodes so far. -/
def ngL (d : List Nd) (i : Nat) : List Nat := (List.range d.length).map fun j => if j < i then ng (T d j) else 0
def hdL (d : List Nd) (i : Nat) : List Bool := (List.range d.length).map fun j => decide (j < i) && hasHard (T d j)
theorem ngL_get {d : List Nd} {i j : Nat} (hj : j < d.length) : (ngL d i)[j]? = some (if j < i then ng (T d j) else 0) := by
  unfold ngL; rw [List.getElem?_map, List.getElem?_range hj]; rfl
theorem hdL_get {d : List Nd} {i j : Nat} (hj : j < d.length) : (hdL d i)[j]? = some (decide (j < i) && hasHard (T d j)) := by
  unfold hdL; rw [List.getElem?_map, List.getElem?_range hj]; rfl
theorem ngL_len (d : List Nd) (i : Nat) : (ngL d i).length = d.length := by simp [ngL]
theorem hdL_len (d : List Nd) (i : Nat) : (hdL d i).length = d.length := by simp [hdL]
theorem ngL_set {d : List Nd} {i : Nat} : (natsV (ngL d i)).set i (.int .i64 (ng (T d i) : Nat)) = natsV (ngL d (i + 1)) := by
  have : (ngL d i).set i (ng (T d i)) = ngL d (i + 1) := by
    apply List.ext_getElem?
    intro j
    by_cases hj : j < d.length
    · rw [List.getElem?_set, ngL_get hj, ngL_get hj]
      by_cases hij : i = j
      · subst hij
        rw [if_pos rfl, if_pos (by rw [ngL_len]; exact hj), if_pos (by omega)]
      · rw [if_neg hij]
        by_cases h1 : j < i
        · rw [if_pos h1, if_pos (by omega)]
        · rw [if_neg h1, if_neg (by omega)]
    · rw [List.getElem?_eq_none (by rw [List.length_set, ngL_len]; omega), List.getElem?_eq_none (by rw [ngL_len]; omega)]
  rw [← this]; simp [natsV, List.map_set]
theorem hdL_set {d : List Nd} {i : Nat} : (boolsV (hdL d i)).set i (.bool (hasHard (T d i))) = boolsV (hdL d (i + 1)) := by
  have : (hdL d i).set i (hasHard (T d i)) = hdL d (i + 1) := by
    apply List.ext_getElem?
    intro j
    by_cases hj : j < d.length
    · rw [List.getElem?_set, hdL_get hj, hdL_get hj]
      by_cases hij : i = j
      · subst hij
        rw [if_pos rfl, if_pos (by rw [hdL_len]; exact hj)]
        simp
      · rw [if_neg hij]
        by_cases h1 : j < i
        · rw [decide_eq_true h1, decide_eq_true (show j < i + 1 by omega)]
        · rw [decide_eq_false h1, decide_eq_false (show ¬ j < i + 1 by omega)]
    · rw [List.getElem?_eq_none (by rw [List.length_set, hdL_len]; omega), List.getElem?_eq_none (by rw [hdL_len]; omega)]
  rw [← this]; simp [boolsV, List.map_set]
theorem set_same {α : Type} {l : List α} {i : Nat} {x : α} (h : l[i]? = some x) : l.set i x = l := by
  apply List.ext_getElem?
  intro j
  rw [List.getElem?_set]
  split
  · rename_i e
    subst e
    rw [h, if_pos (List.getElem?_eq_some_iff.1 h).1]
  · rfl
theorem ngL_keep {d : List Nd} {i : Nat} (h : i < d.length) (h0 : ng (T d i) = 0) : natsV (ngL d i) = natsV (ngL d (i + 1)) := by
  rw [← ngL_set, h0]
  refine (set_same ?_).symm
  rw [natsV_get (ngL_get h), if_neg (by omega)]
theorem hdL_keep {d : List Nd} {i : Nat} (h : i < d.length) (h0 : hasHard (T d i) = false) : boolsV (hdL d i) = boolsV (hdL d (i + 1)) := by
  rw [← hdL_set, h0]
  refine (set_same ?_).symm
  rw [boolsV_get (hdL_get h)]
  simp
theorem ngL_all (d : List Nd) : ngL d d.length = (List.range d.length).map fun i => ng (T d i) := by
  unfold ngL
  apply List.map_congr_left
  intro j hj
  rw [if_pos (List.mem_range.1 hj)]
theorem hdL_all (d : List Nd) : hdL d d.length = (List.range d.length).map fun i => hasHard (T d i) := by
  unfold hdL
  apply List.map_congr_left
  intro j hj
  rw [decide_eq_true (List.mem_range.1 hj), Bool.true_and]
theorem ngL_zero (d : List Nd) : natsV (ngL d 0) = List.replicate d.length (.int .i64 0) := by
  unfold ngL natsV
  rw [List.map_map]
  apply List.ext_getElem?
  intro j
  by_cases hj : j < d.length
  · rw [List.getElem?_map, List.getElem?_range hj, List.getElem?_replicate, if_pos hj]; rfl
  · rw [List.getElem?_eq_none (by simp; omega), List.getElem?_eq_none (by simp; omega)]
theorem hdL_zero (d : List Nd) : boolsV (hdL d 0) = List.replicate d.length (.bool false) := by
  unfold hdL boolsV
  rw [List.map_map]
  apply List.ext_getElem?
  intro j
  by_cases hj : j < d.length
  · rw [List.getElem?_map, List.getElem?_range hj, List.getElem?_replicate, if_pos hj]; rfl
  · rw [List.getElem?_eq_none (by simp; omega), List.getElem?_eq_none (by simp; omega)]
end Go.Proofs.Ytbkadgdhmfolaaa
