/-
  Maps whose keys are structs; ranging over a map.
  Conditions: none.
-/
import Derived.Test.YtedopgkbajhanaaGreatDoorMod
import Derived.Maps.RangeRun
namespace Go.Proofs.YtedopgkbajhanaaGreatDoor
open Go Go.RowKit

/-! ### Keys -/
structure KeyQ {α : Type} [DecidableEq α] (P : Program) (ke : Nat) (kv : α → Value) : Prop where
  find : ∀ (a : α) (m : List (α × Value)) (bs : List Nat) (w : World), bs.length = m.length →
    ∃ r, (Instr.findKey ke (kv a) (entsOf kv m bs)).run P w = .ok r w ∧ r.map (·.2) = assoc a m ∧ (∀ j v, r = some (j, v) → ∀ v', entsOf kv (assocSet a v' m) bs = (entsOf kv m bs).modify j (fun e => { e with key := kv a, val := v' }) ∧ ((entsOf kv m bs)[j]?).map (·.key) = some (kv a)) ∧ (r = none → ∀ v', assocSet a v' m = m ++ [(a, v')])
  check : ∀ b a w, (Instr.checkKey b 10000 ke (kv a)).run P w = .ok () w
  bits : ∀ a, Instr.sameBits 10000 (kv a) (kv a) = true

theorem findAsking_ents {α : Type} [DecidableEq α] {P : Program} {ke : Nat} {kv : α → Value} (a : α) (w : World) (heq : ∀ b : α, (Op.equal ke (kv a) (kv b)).run P w = .ok (decide (a = b)) w) : ∀ (m : List (α × Value)) (bs : List Nat) (i : Nat), bs.length = m.length →
    ∃ r, (Instr.findAsking ke (kv a) (entsOf kv m bs) i).run P w = .ok r w ∧ r.map (·.2) = assoc a m ∧ (∀ j v, r = some (j, v) → i ≤ j ∧ ∀ v', entsOf kv (assocSet a v' m) bs = (entsOf kv m bs).modify (j - i) (fun e => { e with key := kv a, val := v' }) ∧ ((entsOf kv m bs)[j - i]?).map (·.key) = some (kv a)) ∧ (r = none → ∀ v', assocSet a v' m = m ++ [(a, v')])
  | [], bs, i, h => ⟨none, by simp [entsOf, Instr.findAsking], rfl, (fun j v h => by cases h), fun _ v' => rfl⟩
  | (b, u) :: m, [], i, h => by simp at h
  | (b, u) :: m, s :: bs, i, h => by
    have e : entsOf kv ((b, u) :: m) (s :: bs) = { key := kv b, val := u, born := s } :: entsOf kv m bs := rfl
    rw [e]
    unfold Instr.findAsking
    simp only [Sem.run_bind, heq, Result.andThen_ok]
    by_cases hab : a = b
    · subst hab
      simp only [decide_true, if_true]
      refine ⟨some (i, u), by simp, by simp [assoc], fun j v hj => ?_, fun h => by cases h⟩
      cases hj
      refine ⟨Nat.le_refl _, fun v' => ?_⟩
      simp [assocSet, entsOf]
    · simp only [hab, decide_false, Bool.false_eq_true, if_false]
      obtain ⟨r, h1, h2, h3, h4⟩ := findAsking_ents a w heq m bs (i + 1) (by simpa using h)
      refine ⟨r, h1, by simp [assoc, hab, h2], fun j v hj => ?_, fun hn v' => by simp [assocSet, hab, h4 hn v']⟩
      obtain ⟨h5, h7⟩ := h3 j v hj
      refine ⟨by omega, fun v' => ?_⟩
      obtain ⟨h8, h9⟩ := h7 v'
      rw [show j - i = (j - (i + 1)) + 1 by omega]
      refine ⟨?_, by simpa using h9⟩
      simp only [assocSet, hab, if_false]
      rw [show entsOf kv ((b, u) :: assocSet a v' m) (s :: bs) = { key := kv b, val := u, born := s } :: entsOf kv (assocSet a v' m) bs from rfl, h8]
      simp

theorem KeyQ.asking {α : Type} [DecidableEq α] {P : Program} {ke : Nat} {kv : α → Value} {fs : Array Field} (hu : P.underlying ke = some (.struct fs))
    (heq : ∀ (a b : α) (w : World), (Op.equal ke (kv a) (kv b)).run P w = .ok (decide (a = b)) w) (hc : ∀ b a w, (Instr.checkKey b 10000 ke (kv a)).run P w = .ok () w) (hb : ∀ a, Instr.sameBits 10000 (kv a) (kv a) = true) : KeyQ P ke kv := by
  refine ⟨fun a m bs w hl => ?_, hc, hb⟩
  have key := findAsking_ents (P := P) (ke := ke) (kv := kv) a w (fun b => heq a b w) m bs 0 hl
  obtain ⟨r, h1, h2, h3, h4⟩ := key
  refine ⟨r, ?_, h2, fun j v hj v' => by simpa using (h3 j v hj).2 v', h4⟩
  unfold Instr.findKey
  simp only [Sem.run_bind, run_underlying hu, Result.andThen_ok]
  cases m with
  | nil =>
    simp only [entsOf, List.zip_nil_left, List.map_nil, Instr.findNow, Sem.run_pure]
    simp [entsOf, Instr.findAsking] at h1
    rw [h1]
  | cons p m =>
    cases bs with
    | nil => simp at hl
    | cons s bs =>
      have e : entsOf kv (p :: m) (s :: bs) = { key := kv p.1, val := p.2, born := s } :: entsOf kv m bs := rfl
      rw [e] at h1 ⊢
      have hn : Instr.findNow (.struct fs) (kv a) ({ key := kv p.1, val := p.2, born := s } :: entsOf kv m bs) 0 = none := by
        simp [Instr.findNow, Instr.sameNow]
      rw [hn]
      exact h1

/-- A map in memory; stamps are not shown. -/
structure MapQ {α : Type} (kv : α → Value) (w : World) (r : Nat) (m : List (α × Value)) : Prop where
  ex : ∃ bs ck, bs.length = m.length ∧ bs.Nodup ∧ (∀ b ∈ bs, b < ck) ∧ w.heap[r]? = some (.map (entsOf kv m bs).toArray ck)
theorem MapQ.lt {α : Type} {kv : α → Value} {w : World} {r : Nat} {m : List (α × Value)} (h : MapQ kv w r m) : r < w.heap.size := by
  obtain ⟨bs, ck, hl, _, _, hb⟩ := h.ex
  exact (Array.getElem?_eq_some_iff.1 hb).1
theorem MapQ.ext {α : Type} {kv : α → Value} {w w' : World} {r : Nat} {m : List (α × Value)} (h : MapQ kv w r m) (k : Ext w w') : MapQ kv w' r m := by
  obtain ⟨bs, ck, hl, h1, h2, hb⟩ := h.ex
  exact ⟨bs, ck, hl, h1, h2, (k.block r (Array.getElem?_eq_some_iff.1 hb).1 (by simp)).trans hb⟩
theorem MapQ.mod {α : Type} {kv : α → Value} {S : Nat → Prop} {w w' : World} {r : Nat} {m : List (α × Value)} (h : MapQ kv w r m) (k : Mod S w w') (hn : ¬ S r) : MapQ kv w' r m := by
  obtain ⟨bs, ck, hl, h1, h2, hb⟩ := h.ex
  exact ⟨bs, ck, hl, h1, h2, (k.block r (Array.getElem?_eq_some_iff.1 hb).1 hn).trans hb⟩

theorem at_makeMapQ {α : Type} {c : Cx} (_ : c.g.Ok) {o : Oper} {S : Env} {w : World} {K : Env → World → Prop} {Q : Post} {t : Nat} (kv : α → Value) (ho : o.op = .makeMap t none)
    (k : ∀ w1, Ext w w1 → w1.heap.size = w.heap.size + 1 → MapQ kv w1 w.heap.size [] → putK c S o.dst (.v (.map (some w.heap.size))) (fun S => K S w1)) : AtOp c o S w K Q := by
  refine at_run (w' := w.alloc (.map #[] 0)) (fun a hf => ?_) (k _ (Ext.alloc w _) (by simp) ⟨[], 0, rfl, List.nodup_nil, by simp, heap_alloc_new w _⟩)
  simp [execOp, ho, Instr.makeMap]

section
variable {α : Type} [DecidableEq α] {kv : α → Value} {c : Cx} {o : Oper} {S : Env} {w : World} {K : Env → World → Prop} {Q : Post} {t ke e : Nat} {r re : TyRow} {x y : Operand} {q : Nat} {m : List (α × Value)} {a : α}

theorem run_lookupQ (hg : c.g.Ok) (hr : rowOf c.g.tys t = some r) (hd : r.d = .map ke e) (hre : rowOf c.g.tys e = some re) (hk : KeyQ c.g.P ke kv) (hm : MapQ kv w q m) (ok : Bool) :
    (Instr.lookup t (.map (some q)) (kv a) ok).run c.g.P w = .ok (if ok then .tuple #[(assoc a m).getD re.z, .bool (assoc a m).isSome] else (assoc a m).getD re.z) w := by
  have hr' := (hg.row hr).1
  rw [hd] at hr'
  obtain ⟨_, i, hi, _, _, hiz⟩ := hg.row hre
  obtain ⟨bs, ck, hl, _, _, hb⟩ := hm.ex
  obtain ⟨res, h1, h2, _, _⟩ := hk.find a m bs w hl
  have hgo : (getObj q).run c.g.P w = .ok (.map (entsOf kv m bs).toArray ck) w := by simp [getObj, Sem.run, hb]
  have hz : (zeroValue e).run c.g.P w = .ok re.z w := by simp [zeroValue, typeInfo, hi, hiz]
  simp only [Instr.lookup, Sem.run_bind, run_underlying hr', Result.andThen_ok, hgo, Sem.run_pure, hk.check, h1]
  rw [← h2]
  cases res with
  | none => cases ok <;> simp [hz]
  | some p => cases ok <;> simp

theorem at_lookupQ_ok (hg : c.g.Ok) (ho : o.op = .lookup t x y true) (hr : rowOf c.g.tys t = some r) (hd : r.d = .map ke e) (hre : rowOf c.g.tys e = some re) (hk : KeyQ c.g.P ke kv)
    (hx : S.ev x = some (.map (some q))) (hy : S.ev y = some (kv a)) (hm : MapQ kv w q m)
    (k : putK c S o.dst (.v (.tuple #[(assoc a m).getD re.z, .bool (assoc a m).isSome])) (fun S => K S w)) : AtOp c o S w K Q := by
  refine at_run (w' := w) (fun b hf => ?_) k
  have e1 := hf.ev hx
  have e2 := hf.ev hy
  have := run_lookupQ (w := w) (a := a) hg hr hd hre hk hm true
  simp only [execOp, ho, e1, e2]
  simp only [Sem.run_bind, this, Result.andThen_ok]
  simp

theorem entsOf_length {α : Type} (kv : α → Value) (m : List (α × Value)) (bs : List Nat) (h : bs.length = m.length) : (entsOf kv m bs).length = m.length := by simp [entsOf, h]
theorem assocSet_len {α : Type} [DecidableEq α] (a : α) (v : Value) : ∀ (m : List (α × Value)), (assoc a m).isSome → (assocSet a v m).length = m.length
  | [], h => by simp [assoc] at h
  | (b, x) :: m, h => by
    simp only [assocSet]
    split
    · simp
    · rename_i hab; simp [assocSet_len a v m (by simpa [assoc, hab] using h)]

theorem at_mapUpdateQ {v : Value} {z : Operand} (hg : c.g.Ok) (ho : o.op = .mapUpdate t x y z) (hdst : o.dst = none) (hr : rowOf c.g.tys t = some r) (hd : r.d = .map ke e) (hk : KeyQ c.g.P ke kv)
    (hx : S.ev x = some (.map (some q))) (hy : S.ev y = some (kv a)) (hz : S.ev z = some v) (hm : MapQ kv w q m)
    (k : ∀ w1, Mod (· = q) w w1 → w1.heap.size = w.heap.size → MapQ kv w1 q (assocSet a v m) → K S w1) : AtOp c o S w K Q := by
  have hr' := (hg.row hr).1
  rw [hd] at hr'
  obtain ⟨bs, ck, hl, hnd, hck, hb⟩ := hm.ex
  have hlt : q < w.heap.size := (Array.getElem?_eq_some_iff.1 hb).1
  obtain ⟨res, h1, h2, h3, h4⟩ := hk.find a m bs w hl
  have hgo : (getObj q).run c.g.P w = .ok (.map (entsOf kv m bs).toArray ck) w := by simp [getObj, Sem.run, hb]
  have hset : ∀ ob, (setObj q ob).run c.g.P w = .ok () { w with heap := w.heap.setIfInBounds q ob } := fun ob => by simp [setObj, Sem.run, hb]
  have main : ∃ ob, (Instr.mapUpdate t (.map (some q)) (kv a) v).run c.g.P w = .ok () { w with heap := w.heap.setIfInBounds q ob } ∧ ∃ bs' ck', bs'.length = (assocSet a v m).length ∧ bs'.Nodup ∧ (∀ b ∈ bs', b < ck') ∧ ob = .map (entsOf kv (assocSet a v m) bs').toArray ck' := by
    cases res with
    | none =>
      refine ⟨_, ?_, bs ++ [ck], ck + 1, ?_, ?_, ?_, rfl⟩
      · simp only [Instr.mapUpdate, Sem.run_bind, run_underlying hr', Result.andThen_ok, hgo, hk.check, h1, hset]
        rw [h4 rfl v]
        congr 4
        simp only [entsOf]
        rw [List.zip_append hl.symm, List.map_append]
        simp
      · rw [h4 rfl v]; simp [hl]
      · rw [List.nodup_append]
        refine ⟨hnd, by simp, fun x hx y hy => ?_⟩
        simp at hy
        have := hck x hx
        omega
      · intro b hb'
        simp only [List.mem_append, List.mem_singleton] at hb'
        rcases hb' with hb' | rfl
        · have := hck b hb'; omega
        · omega
    | some p =>
      obtain ⟨j, u⟩ := p
      obtain ⟨h8, h9⟩ := h3 j u rfl v
      have hkey : (((entsOf kv m bs).toArray[j]?).map (·.key)).getD (kv a) = kv a := by
        rw [show (entsOf kv m bs).toArray[j]? = (entsOf kv m bs)[j]? from by simp, h9]; rfl
      refine ⟨_, ?_, bs, ck, ?_, hnd, hck, rfl⟩
      · simp only [Instr.mapUpdate, Sem.run_bind, run_underlying hr', Result.andThen_ok, hgo, hk.check, h1, hkey, Instr.keyThatStays, hk.bits, if_true, Sem.run_pure, hset]
        rw [h8]
        congr 4
        simp
      · rw [assocSet_len a v m (by rw [← h2]; rfl), hl]
  obtain ⟨ob, hrun, bs', ck', hl', hnd', hck', rfl⟩ := main
  unfold AtOp
  intro b hf
  have e1 := hf.ev hx
  have e2 := hf.ev hy
  have e3 := hf.ev hz
  unfold Oper.wp
  have : (execOp b.eval o).run c.g.P w = .ok .skip { w with heap := w.heap.setIfInBounds q (.map (entsOf kv (assocSet a v m) bs').toArray ck') } := by
    simp only [execOp, ho, e1, e2, e3]
    simp [hrun]
  rw [this]
  refine ⟨S, by rw [hdst]; simpa [Act.put] using hf, k _ ⟨rfl, rfl, rfl, by simp, fun i _ hi => ?_⟩ (by simp) ⟨bs', ck', hl', hnd', hck', ?_⟩⟩
  · simp only [Array.getElem?_setIfInBounds]
    rw [if_neg (fun e => hi e.symm)]
  · simp [hlt]

/-! ### Ranging over a map -/
/-- The iterator r over the map q: the entries L are still to come; cur came last. -/
structure RangeQ {α : Type} (kv : α → Value) (w : World) (r q : Nat) (m L : List (α × Value)) (cur : Option (α × Value)) : Prop where
  ex : ∃ bs ck seen since, bs.length = m.length ∧ bs.Nodup ∧ (∀ b ∈ bs, b < since) ∧ since ≤ ck ∧ w.heap[q]? = some (.map (entsOf kv m bs).toArray ck) ∧ w.heap[r]? = some (.mapIter (some q) since seen ck) ∧
    L = ((m.zip bs).filter fun p => !seen.contains p.2).map (·.1) ∧ (∀ p, cur = some p → ∃ (b : Nat) (s : Array Nat), seen = s.push b ∧ (p, b) ∈ m.zip bs)
theorem RangeQ.mod {α : Type} {kv : α → Value} {S : Nat → Prop} {w w' : World} {r q : Nat} {m L : List (α × Value)} {cur : Option (α × Value)} (h : RangeQ kv w r q m L cur) (k : Mod S w w') (hr : ¬ S r) (hq : ¬ S q) : RangeQ kv w' r q m L cur := by
  obtain ⟨bs, ck, seen, since, h1, h2, h3, h4, h5, h6, h7⟩ := h.ex
  exact ⟨bs, ck, seen, since, h1, h2, h3, h4, (k.block q (Array.getElem?_eq_some_iff.1 h5).1 hq).trans h5, (k.block r (Array.getElem?_eq_some_iff.1 h6).1 hr).trans h6, h7⟩
theorem RangeQ.ext {α : Type} {kv : α → Value} {w w' : World} {r q : Nat} {m L : List (α × Value)} {cur : Option (α × Value)} (h : RangeQ kv w r q m L cur) (k : Ext w w') : RangeQ kv w' r q m L cur :=
  h.mod (Mod.of_ext (fun _ => False) k) (fun h => h) (fun h => h)
theorem RangeQ.lt {α : Type} {kv : α → Value} {w : World} {r q : Nat} {m L : List (α × Value)} {cur : Option (α × Value)} (h : RangeQ kv w r q m L cur) : r < w.heap.size := by
  obtain ⟨bs, ck, seen, since, h1, h2, h3, h4, h5, h6, h7⟩ := h.ex
  exact (Array.getElem?_eq_some_iff.1 h6).1
end

section
variable {α : Type} {kv : α → Value} {c : Cx} {o : Oper} {S : Env} {w : World} {K : Env → World → Prop} {Q : Post} {t ke e : Nat} {r : TyRow} {x : Operand} {q it : Nat} {m L : List (α × Value)} {cur : Option (α × Value)}

theorem at_rangeQ (hg : c.g.Ok) (ho : o.op = .range t x) (hr : rowOf c.g.tys t = some r) (hd : r.d = .map ke e) (hx : S.ev x = some (.map (some q))) (hm : MapQ kv w q m)
    (k : ∀ w1, Ext w w1 → w1.heap.size = w.heap.size + 1 → RangeQ kv w1 w.heap.size q m m none → putK c S o.dst (.v (.pointer (some ⟨w.heap.size, 0, none⟩))) (fun S => K S w1)) : AtOp c o S w K Q := by
  have hr' := (hg.row hr).1
  rw [hd] at hr'
  obtain ⟨bs, ck, hl, hnd, hck, hb⟩ := hm.ex
  have hlt : q < w.heap.size := (Array.getElem?_eq_some_iff.1 hb).1
  have hE : Ext w (w.alloc (.mapIter (some q) ck #[] ck)) := Ext.alloc w _
  refine at_run (w' := w.alloc (.mapIter (some q) ck #[] ck)) (fun b hf => ?_) (k _ hE (by simp) ⟨bs, ck, #[], ck, hl, hnd, hck, Nat.le_refl _, (hE.block q hlt (by simp)).trans hb, heap_alloc_new w _, ?_, by simp⟩)
  · have e1 := hf.ev hx
    simp only [execOp, ho, e1]
    simp only [Sem.run_bind, run_range_map w t ke e q _ ck hr' hb, Result.andThen_ok]
    simp
  · simp only [Array.contains_empty, Bool.not_false]
    rw [List.filter_eq_self.2 (fun _ _ => rfl)]
    exact (List.map_fst_zip (by omega)).symm

theorem left_ents (kv : α → Value) (m : List (α × Value)) (bs : List Nat) (seen : Array Nat) : (leftOf (entsOf kv m bs).toArray seen).toList = ((m.zip bs).filter fun p => !seen.contains p.2).map fun p => { key := kv p.1.1, val := p.1.2, born := p.2 } := by
  simp only [leftOf, entsOf, Array.toList_filter, List.filter_map]
  rfl

theorem split_out {β : Type} (f : β → Nat) : ∀ (Z : List β) (p : β), (Z.map f).Nodup → p ∈ Z → ∃ Z1 Z2, Z = Z1 ++ p :: Z2 ∧ Z.filter (fun x => f x != f p) = Z1 ++ Z2
  | [], p, _, h => by simp at h
  | z :: Z, p, hn, h => by
    simp only [List.map_cons, List.nodup_cons] at hn
    by_cases hz : f z = f p
    · have hzp : z = p := by
        rcases List.mem_cons.1 h with h | h
        · exact h.symm
        · exact absurd (List.mem_map.2 ⟨p, h, hz.symm⟩) hn.1
      subst hzp
      refine ⟨[], Z, rfl, ?_⟩
      rw [List.filter_cons_of_neg (by simp)]
      rw [List.filter_eq_self.2 (fun x hx => ?_)]
      · rfl
      · simp only [bne_iff_ne, ne_eq]
        exact fun e => hn.1 (List.mem_map.2 ⟨x, hx, e⟩)
    · have hm : p ∈ Z := by
        rcases List.mem_cons.1 h with h | h
        · exact absurd (by rw [h]) hz
        · exact h
      obtain ⟨Z1, Z2, h1, h2⟩ := split_out f Z p hn.2 hm
      refine ⟨z :: Z1, Z2, by rw [h1]; rfl, ?_⟩
      rw [List.filter_cons_of_pos (by simpa using hz), h2]; rfl

theorem at_nextQ (_ : c.g.Ok) (ho : o.op = .next x false) (hx : S.ev x = some (.pointer (some ⟨it, 0, none⟩))) (hm : RangeQ kv w it q m L cur) (hne : it ≠ q)
    (k0 : L = [] → putK c S o.dst (.v (.tuple #[.bool false])) (fun S => K S w))
    (k1 : ∀ L1 p L2 w1, L = L1 ++ p :: L2 → Mod (· = it) w w1 → w1.heap.size = w.heap.size → RangeQ kv w1 it q m (L1 ++ L2) (some p) → putK c S o.dst (.v (.tuple #[.bool true, kv p.1, p.2])) (fun S => K S w1)) : AtOp c o S w K Q := by
  obtain ⟨bs, ck, seen, since, hl, hnd, hsi, hsc, hq, hr, hL, hcur⟩ := hm.ex
  have hlt : it < w.heap.size := (Array.getElem?_eq_some_iff.1 hr).1
  have hold : ∀ y ∈ (entsOf kv m bs).toArray.toList, y.born < since := fun y hy => by
    simp only [entsOf, List.mem_map] at hy
    obtain ⟨p, hp, rfl⟩ := hy
    exact hsi _ (List.of_mem_zip hp).2
  rcases run_next_at (P := c.g.P) w o.type it q since ck seen _ ck hr hq hold hsc with ⟨h0, hrun⟩ | ⟨e, he, w1, hw1, hrun⟩
  · have hLe : L = [] := by
      have := left_ents kv m bs seen
      rw [show (leftOf (entsOf kv m bs).toArray seen).toList = [] from List.eq_nil_of_length_eq_zero (by simpa using h0)] at this
      rw [hL, List.map_eq_nil_iff.1 this.symm]; rfl
    refine at_run (w' := w) (fun b hf => ?_) (k0 hLe)
    have e1 := hf.ev hx
    simp only [execOp, ho, e1, Sem.run_bind, hrun, Result.andThen_ok]
    simp
  · rw [left_ents] at he
    simp only [List.mem_map] at he
    obtain ⟨p, hp, rfl⟩ := he
    have hpz := (List.mem_filter.1 hp).1
    have hzn : (((m.zip bs).filter fun p => !seen.contains p.2).map (·.2)).Nodup := by
      have h1 : ((m.zip bs).map (·.2)).Nodup := by rw [List.map_snd_zip (by omega)]; exact hnd
      exact List.Nodup.sublist (List.Sublist.map _ List.filter_sublist) h1
    obtain ⟨Z1, Z2, hz1, hz2⟩ := split_out (·.2) _ p hzn hp
    have hE1 : Ext w w1 ∧ w1.heap = w.heap := by
      rcases hw1 with h | h
      · rw [h]; exact ⟨Ext.refl _, rfl⟩
      · rw [h]; exact ⟨Ext.drew w, rfl⟩
    obtain ⟨hE1, hhp⟩ := hE1
    have hm1 : Mod (· = it) w (ChangeMaps.setBlock w1 it (.mapIter (some q) since (seen.push p.2) ck)) := by
      refine ⟨hE1.os, hE1.tape, hE1.output, by simp [ChangeMaps.setBlock, hhp], fun k hk hn => ?_⟩
      simp only [ChangeMaps.setBlock, Array.getElem?_setIfInBounds, hhp]
      rw [if_neg (fun e => hn e.symm)]
    have hsz : (ChangeMaps.setBlock w1 it (.mapIter (some q) since (seen.push p.2) ck)).heap.size = w.heap.size := by
      simp [ChangeMaps.setBlock, hhp]
    have hnew : RangeQ kv (ChangeMaps.setBlock w1 it (.mapIter (some q) since (seen.push p.2) ck)) it q m ((Z1 ++ Z2).map (·.1)) (some p.1) := by
      refine ⟨bs, ck, seen.push p.2, since, hl, hnd, hsi, hsc, (hm1.block q (Array.getElem?_eq_some_iff.1 hq).1 (fun e => hne e.symm)).trans hq, ?_, ?_, fun p' hp' => ⟨p.2, seen, rfl, by cases hp'; exact hpz⟩⟩
      · simp [ChangeMaps.setBlock, hhp, hlt]
      · rw [← hz2, List.filter_filter]
        congr 1
        apply List.filter_congr
        intro y _
        rw [Array.contains_push, Bool.not_or, Bool.and_comm]
        congr 1
    refine at_run (w' := ChangeMaps.setBlock w1 it (.mapIter (some q) since (seen.push p.2) ck)) (fun b hf => ?_) (k1 (Z1.map (·.1)) p.1 (Z2.map (·.1)) _ (by rw [hL, hz1]; simp) hm1 hsz (by rw [← List.map_append]; exact hnew))
    have e1 := hf.ev hx
    simp only [execOp, ho, e1, Sem.run_bind, hrun, Result.andThen_ok]
    simp

theorem at_entryQ {p : α × Value} (_ : c.g.Ok) (ho : o.op = .entry x) (hx : S.ev x = some (.pointer (some ⟨it, 0, none⟩))) (hm : RangeQ kv w it q m L (some p))
    (k : putK c S o.dst (.v (.tuple #[kv p.1, p.2])) (fun S => K S w)) : AtOp c o S w K Q := by
  obtain ⟨bs, ck, seen, since, hl, hnd, hsi, hsc, hq, hr, hL, hcur⟩ := hm.ex
  obtain ⟨b, s, rfl, hpz⟩ := hcur p rfl
  have hbn : ((entsOf kv m bs).toArray.toList.map (·.born)).Nodup := by
    have e : (entsOf kv m bs).map (·.born) = bs := by
      simp only [entsOf, List.map_map]
      show List.map (·.2) (m.zip bs) = bs
      rw [List.map_snd_zip (by omega)]
    simpa [e] using hnd
  have hrun := run_entry_at (P := c.g.P) w it q since s _ ck { key := kv p.1, val := p.2, born := b } hr hq (List.mem_map.2 ⟨(p, b), hpz, rfl⟩) hbn
  refine at_run (w' := w) (fun b' hf => ?_) k
  have e1 := hf.ev hx
  simp only [execOp, ho, e1, Sem.run_bind, hrun, Result.andThen_ok]
  simp
end
end Go.Proofs.YtedopgkbajhanaaGreatDoor
