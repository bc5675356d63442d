/-
  Trees of orders; the least normal choice; bytes of a string in memory; a look into a map.
  Conditions: as each theorem says.
-/
import Derived.Test.YtbkadgdhmfolaaaPlan
import Derived.Test.YtbkadgdhmfolaaaLy7
import Derived.Laws.IdiomStrings
namespace Go.Proofs.Ytbkadgdhmfolaaa
open Go Go.RowKit

inductive PT where
  | done
  | skip
  | quiet (k : Nat) (t : PT)
  | fork (k : Nat) (t o : PT)

def PT.alts : PT → List Nat
  | .fork k _ o => k :: o.alts
  | _ => []

def planTB (md : Region.Mode) (ops : Array Oper) (n : Nat) : PT → Bool → Nat → Array Bool → Bool
  | .done, inch, m, listed => !inch && Nat.beq m 0 && Region.seqB md ops (ops.size - n) n listed
  | .skip, inch, _, _ => inch
  | .quiet _ _, _, 0, _ => false
  | .quiet k t, inch, m + 1, listed => !inch && (Nat.blt k n && (Region.ready md ops listed).contains k && Region.free md ops listed k && planTB md ops n t false m (listed.setIfInBounds k true))
  | .fork _ _ _, _, 0, _ => false
  | .fork k t o, inch, m + 1, listed => (inch || decide (Region.ready md ops listed = k :: o.alts)) && (Nat.blt k n && planTB md ops n t false m (listed.setIfInBounds k true)) && planTB md ops n o true (m + 1) listed

def planT (c : Cx) (all : List Oper) (C : World → Prop) : PT → Env → World → (Env → World → Prop) → Prop
  | .done, S, w, K => K S w
  | .skip, _, _, _ => True
  | .quiet k t, S, w, K => match nthO all k with
    | some o => guardK all o S (fun S => execT c o S C (fun S => planT c all C t S w K)) (fun S => putK c S o.dst (.v undef) (fun S => planT c all C t S w K))
    | none => False
  | .fork k t o, S, w, K => (match nthO all k with
    | some op => guardK all op S (fun S => execO c op S w (fun S w => C w ∧ planT c all C t S w K) (fun _ _ _ => False)) (fun S => putK c S op.dst (.v undef) (fun S => planT c all C t S w K))
    | none => False) ∧ planT c all C o S w K

section
variable {c : Cx} {S : Env} {a : Act}
theorem planT_sound (hg : c.g.Ok) {md : Region.Mode} {ops : List Oper} {C : World → Prop} {Q : Exit → Act → World → Prop} {n : Nat} (hs : Region.noSelect ops.toArray = true) (hk : Sink md ops.toArray n) {K : Env → World → Prop} :
    ∀ (t : PT) (m : Nat) (listed : Array Bool) (S : Env) (a : Act) (w : World), HeadInv md ops.toArray n listed → planT c ops C t S w K → Fits c.N S a → C w →
    (planTB md ops.toArray n t false m listed = true → wpG c.g.P md ops.toArray (NoPan Q) C n (fun listed' a' w' => Region.seqB md ops.toArray (ops.toArray.size - n) n listed' = true ∧ ∃ S', Fits c.N S' a' ∧ K S' w') m listed a w) ∧
    (∀ m', m = m' + 1 → planTB md ops.toArray n t true m listed = true → (∀ i ∈ t.alts, i ∈ Region.ready md ops.toArray listed) → ∀ i ∈ t.alts, i < n ∧ wpOp c.g.P ops.toArray (NoPan Q) i (fun a' w' => C w' ∧ wpG c.g.P md ops.toArray (NoPan Q) C n (fun listed' a' w' => Region.seqB md ops.toArray (ops.toArray.size - n) n listed' = true ∧ ∃ S', Fits c.N S' a' ∧ K S' w') m' (listed.setIfInBounds i true) a' w') a w)
  | .done, m, listed, S, a, w, inv, h, hf, hC => by
    refine ⟨fun hB => ?_, fun m' hm hB => ?_⟩
    · simp only [planTB, Bool.not_false, Bool.true_and, Bool.and_eq_true] at hB
      have := Nat.eq_of_beq_eq_true hB.1
      subst this
      exact ⟨hB.2, S, hf, h⟩
    · simp [planTB] at hB
  | .skip, m, listed, S, a, w, inv, h, hf, hC => by
    refine ⟨fun hB => ?_, fun m' hm hB _ i hi => ?_⟩
    · simp [planTB] at hB
    · simp [PT.alts] at hi
  | .quiet k t, 0, listed, S, a, w, inv, h, hf, hC => by
    refine ⟨fun hB => ?_, fun m' hm hB => ?_⟩
    · simp [planTB] at hB
    · simp [planTB] at hB
  | .quiet k t, m + 1, listed, S, a, w, inv, h, hf, hC => by
    refine ⟨fun hB => ?_, fun m' hm hB => ?_⟩
    · simp only [planTB, Bool.not_false, Bool.true_and, Bool.and_eq_true] at hB
      obtain ⟨⟨⟨hkn, hr⟩, hfr⟩, hB'⟩ := hB
      have hkn : k < n := by rw [Nat.blt_eq] at hkn; exact hkn
      have hr' : k ∈ Region.ready md ops.toArray listed := by simpa using hr
      obtain ⟨_, o, ho, _⟩ := mem_ready.1 hr'
      have hn : nthO ops k = some o := by rw [nthO_eq]; simpa using ho
      simp only [planT, hn] at h
      have key : ∃ v, YieldsIf c.g.P ops.toArray C o v a ∧ ∃ S', Fits c.N S' (a.put o.dst v) ∧ planT c ops C t S' w K := by
        rcases guardK_spec h hf with ⟨hw, S1, hf1, h1⟩ | ⟨hw, S1, hf1, h1⟩
        · obtain ⟨v, h2, h3⟩ := execT_sound hg h1 hf1
          exact ⟨v, .inl ⟨hw, h2⟩, h3⟩
        · exact ⟨undef, .inr ⟨hw, rfl⟩, putK_sound (e := .v undef) h1 hf1⟩
      obtain ⟨v, hy, S', hf', h'⟩ := key
      exact wpG_first ho (Region.noSelect_spec hs) hk hkn (fun listed' a' w' hL => seqB_ready hL.1) m listed a w inv (Region.free_spec ho hfr) hr' hy hC
        ((planT_sound hg hs hk t m _ S' _ w (inv.set hr' hkn) h' hf' hC).1 hB')
    · simp [planTB] at hB
  | .fork k t o, 0, listed, S, a, w, inv, h, hf, hC => by
    refine ⟨fun hB => ?_, fun m' hm hB => ?_⟩
    · simp [planTB] at hB
    · simp [planTB] at hB
  | .fork k t o, m + 1, listed, S, a, w, inv, h, hf, hC => by
    have key : (Nat.blt k n && planTB md ops.toArray n t false m (listed.setIfInBounds k true)) = true → planTB md ops.toArray n o true (m + 1) listed = true → (∀ i ∈ (PT.fork k t o).alts, i ∈ Region.ready md ops.toArray listed) →
        ∀ i ∈ (PT.fork k t o).alts, i < n ∧ wpOp c.g.P ops.toArray (NoPan Q) i (fun a' w' => C w' ∧ wpG c.g.P md ops.toArray (NoPan Q) C n (fun listed' a' w' => Region.seqB md ops.toArray (ops.toArray.size - n) n listed' = true ∧ ∃ S', Fits c.N S' a' ∧ K S' w') m (listed.setIfInBounds i true) a' w') a w := by
      intro hB hBo hall i hi
      simp only [Bool.and_eq_true] at hB
      obtain ⟨hkn, hB'⟩ := hB
      have hkn : k < n := by rw [Nat.blt_eq] at hkn; exact hkn
      simp only [PT.alts, List.mem_cons] at hi
      have hr' : k ∈ Region.ready md ops.toArray listed := hall k (by simp [PT.alts])
      obtain ⟨h1, h2⟩ := h
      rcases hi with rfl | hi
      · refine ⟨hkn, ?_⟩
        obtain ⟨_, op, ho, _⟩ := mem_ready.1 hr'
        have hn : nthO ops i = some op := by rw [nthO_eq]; simpa using ho
        simp only [hn] at h1
        have inv' := inv.set hr' hkn
        unfold wpOp
        simp only [ho]
        rcases guardK_spec h1 hf with ⟨hw, S1, hf1, h3⟩ | ⟨hw, S1, hf1, h3⟩
        · rw [if_pos hw]
          refine .inl ?_
          have h4 := execO_sound hg h3 hf1
          have h5 := Oper.wp_mono (K' := fun a' w' => C w' ∧ wpG c.g.P md ops.toArray (NoPan Q) C n (fun listed' a' w' => Region.seqB md ops.toArray (ops.toArray.size - n) n listed' = true ∧ ∃ S', Fits c.N S' a' ∧ K S' w') m (listed.setIfInBounds i true) a' w')
            (fun a' w' ⟨S', hf', hc', hk'⟩ => ⟨hc', (planT_sound hg hs hk t m _ S' a' w' inv' hk' hf' hc').1 hB'⟩) h4
          unfold Oper.wp at h5 ⊢
          generalize (execOp a.eval op).run c.g.P w = r at *
          cases r with
          | ok nx w' =>
            cases nx <;> simp only [Oper.upon] at h5 ⊢ <;> try exact h5
            exact h5.mono fun e w'' he => by
              cases e with
              | returned v => exact he
              | panicked ch => obtain ⟨_, _, he⟩ := he; exact he.elim
              | outgrown => obtain ⟨_, _, _, _, he⟩ := he; exact he.elim
          | halt x w' => cases x <;> simp only [Oper.upon] at h5 ⊢ <;> first | exact h5 | (obtain ⟨_, _, h5⟩ := h5; exact h5.elim)
        · rw [if_neg (by rw [hw]; decide)]
          obtain ⟨S', hf', h'⟩ := putK_sound (e := .v undef) h3 hf1
          exact ⟨hC, (planT_sound hg hs hk t m _ S' _ w inv' h' hf' hC).1 hB'⟩
      · exact (planT_sound hg hs hk o (m + 1) listed S a w inv h2 hf hC).2 m rfl hBo (fun j hj => hall j (by simp [PT.alts, hj])) i hi
    refine ⟨fun hB => ?_, fun m' hm hB hall => ?_⟩
    · simp only [planTB, Bool.false_or, Bool.and_eq_true, decide_eq_true_eq] at hB
      obtain ⟨⟨hr, hB1⟩, hB2⟩ := hB
      have hr2 : Region.ready md ops.toArray listed = (PT.fork k t o).alts := hr
      refine ⟨fun h0 => (by rw [hr] at h0; cases h0), fun i hi => ?_⟩
      exact key (by simpa using hB1) hB2 (fun j hj => by rw [hr2]; exact hj) i (by rw [hr2] at hi; exact hi)
    · simp only [planTB, Bool.true_or, Bool.true_and] at hB
      rw [Bool.and_eq_true] at hB
      have hmm : m' = m := by omega
      subst hmm
      exact key hB.1 hB.2 hall

/-- A region that draws, by a tree for its first n operations; the rest in the text's order. -/
theorem draw_tree (hg : c.g.Ok) {id : Nat} {ops : List Oper} {w : World} {Q : Post} (C : World → Prop) (n : Nat) (t : PT)
    (hB : (Region.noSelect ops.toArray && sinkOk .any ops.toArray n && planTB .any ops.toArray n t false n (Array.replicate ops.toArray.size false)) = true) (hC : C w.drew)
    (h : planT { c with named := 1000000 } ops C t S w.drew (fun S w => execL c ops (ops.drop n) S w (fun S w => Q .normal S w) (fun _ _ _ => False))) : AtDraw c id ops S w Q := by
  unfold AtDraw
  intro a hf
  simp only [Bool.and_eq_true] at hB
  obtain ⟨⟨hs, hsk⟩, hpl⟩ := hB
  have hk := sinkOk_spec hsk
  have hnle : n ≤ ops.length := by
    rcases hk with hk | hk
    · rw [hk]; simp
    · have := hk.1; simp at this; omega
  refine Code.wp_mono NoPan.imp (wp_region_any hg.mixed ?_)
  have inv0 : HeadInv .any ops.toArray n (Array.replicate ops.toArray.size false) :=
    ⟨by simp, fun j oj _ hl => (by rw [getD_replicate_false] at hl; cases hl), fun t _ ht => getD_in (by simpa using ht) (getD_replicate_false _ _)⟩
  have H := (planT_sound (c := { c with named := 1000000 }) hg (Q := Up c Q) hs hk t n _ S a _ inv0 h hf hC).1 hpl
  have hdl : (ops.drop n).length = ops.toArray.size - n := by simp
  have H2 := wpAny_of_G (Q := NoPan (Up c Q)) (g := ops.toArray.size - n) (fun listed' a' w' hL => by
    obtain ⟨hq, S', hf', hk'⟩ := hL
    have h2 := execL_sound (c := c) hg ops _ _ _ _ hk' hf'
    have := wpAny_of_seq (P := c.g.P) (md := .any) (ops := ops.toArray) (Q' := NoPan (Up c Q)) (ops.drop n) n listed' a' w' (fun j => by simp) (by rw [hdl]; exact hq) (wpList_mono' (fun e a w hq => by
      cases e with
      | normal => exact hq
      | _ => exact absurd hq (by rintro ⟨_, _, h⟩; exact h)) h2)
    rwa [hdl] at this) _ _ _ _ H
  rw [show n + (ops.toArray.size - n) = ops.toArray.size by simp; omega] at H2
  exact H2

/-- The orders of a region that draws meet again behind it. -/
theorem draw_cut {α : Type} {id : Nat} {ops : List Oper} {w : World} {Q : Post} (sl : List Nat) (val : α → List Value) (R : α → World → Prop)
    (hx : prune (stays (.region id ops.toArray true)) S [] (fun S0 => AtDraw c id ops S w (fun e S2 w2 => match e with
      | .normal => ∃ s, zipK sl (val s) S0 (fun T => Has T S2) ∧ R s w2
      | e => Q e S2 w2)))
    (hy : prune (stays (.region id ops.toArray true)) S [] (fun S0 => ∀ s w', R s w' → zipK sl (val s) S0 (fun S1 => Q .normal S1 w'))) : AtDraw c id ops S w Q := by
  rw [prune_eq] at hx hy
  unfold AtDraw at *
  intro a hf
  generalize pruneS (stays (.region id ops.toArray true)) S [] = S0 at *
  have hsplit : ∀ s (K : Env → Prop), zipK sl (val s) S0 K → K ((sl.zip ((val s).map Ent.v)).reverse ++ S0) := fun s K h => by
    obtain ⟨T, rfl, hk⟩ := zipK_spec h; exact hk
  refine Code.wp_mono (fun e a2 w2 hq => ?_) (hx a hf)
  obtain ⟨S2, hf2, hq⟩ := hq
  cases e with
  | normal =>
    obtain ⟨s, hz, hR⟩ := hq
    exact ⟨_, (hsplit s _ hz).fits hf2, hsplit s _ (hy s w2 hR)⟩
  | exit i => exact ⟨S2, hf2, hq⟩
  | goto l => exact ⟨S2, hf2, hq⟩
  | ret => exact ⟨S2, hf2, hq⟩
  | panic ch => exact ⟨S2, hf2, hq⟩
  | outgrown => exact ⟨S2, hf2, hq⟩
end
end Go.Proofs.Ytbkadgdhmfolaaa
namespace Go.Proofs.Ytbkadgdhmfolaaa
open Go Go.RowKit

theorem at_lookupQ {α : Type} [DecidableEq α] {kv : α → Value} {c : Cx} {o : Oper} {S : Env} {w : World} {K : Env → World → Prop} {Q : Post} {t ke e : Nat} {r re : TyRow} {x y : Operand} {q : Nat} {m : List (α × Value)} {a : α} (hg : c.g.Ok) (ho : o.op = .lookup t x y false) (hr : rowOf c.g.tys t = some r) (hd : r.d = .map ke e) (hre : rowOf c.g.tys e = some re) (hk : KeyQ c.g.P ke kv)
    (hx : S.ev x = some (.map (some q))) (hy : S.ev y = some (kv a)) (hm : MapQ kv w q m) {v : Value} (hv : assoc a m = some v)
    (k : putK c S o.dst (.v v) (fun S => K S w)) : AtOp c o S w K Q := by
  refine at_run (w' := w) (fun b hf => ?_) k
  have e1 := hf.ev hx
  have e2 := hf.ev hy
  have := run_lookupQ (w := w) (a := a) hg hr hd hre hk hm false
  rw [hv] at this
  simp only [execOp, ho, e1, e2]
  simp only [Sem.run_bind, this, Result.andThen_ok]
  simp

/-- The bytes of a string, as a new slice. -/
theorem at_bytes {c : Cx} (hg : c.g.Ok) {o : Oper} {S : Env} {w : World} {K : Env → World → Prop} {Q : Post} {t t2 e : Nat} {x : Operand} {s : ByteArray} {r re r2 : TyRow}
    (ho : o.op = .convert t2 t x) (hr : rowOf c.g.tys t = some r) (hd : r.d = .slice e) (hre : rowOf c.g.tys e = some re) (hde : re.d = .int .u8) (hr2 : rowOf c.g.tys t2 = some r2) (hd2 : r2.d = .string)
    (hx : S.ev x = some (.string s)) (hs : s.size ≤ maxLen)
    (k : ∀ A cp w1, Ext w w1 → Sl w1 1 A s.size cp (bytesV (bytesOf s)) → putK c S o.dst (.v (.slice A s.size cp)) (fun S => K S w1)) : AtOp c o S w K Q := by
  have hr' := (hg.row hr).1
  have hre' := (hg.row hre).1
  have hr2' := (hg.row hr2).1
  rw [hd] at hr'; rw [hde] at hre'; rw [hd2] at hr2'
  have hrun := run_bytes_of_string (P := c.g.P) w t2 t e s hr2' hr' hre'
  have hE : Ext w (w.drew.alloc (.cells (bytesRow s (grownCap w s.size 0 e)) e ((bytesRow s (grownCap w s.size 0 e)).size, (bytesRow s (grownCap w s.size 0 e)).size + 1))) := (Ext.drew w).trans (Ext.alloc _ _)
  refine at_run (fun a hf => ?_) (k (some ⟨w.heap.size, 0, none⟩) (grownCap w s.size 0 e) _ hE ⟨by rw [bytesV_length, bytesOf_length]; omega, grownCap_ge _ _ _ _, grownCap_le_maxLen _ _ _ _ hs, fun _ => ⟨_, rfl, fun j u hu => ?_⟩⟩)
  · have e1 := hf.ev hx
    simp only [execOp, ho, e1, Sem.run_bind, hrun, Result.andThen_ok]
    simp
  · obtain ⟨y, hy, rfl⟩ := bytesV_get hu
    have hjl : j < s.size := by
      have := (List.getElem?_eq_some_iff.1 hy).1
      rw [bytesOf_length] at this; exact this
    rw [bytesOf_get hjl] at hy
    cases hy
    rw [add_own]
    have hh : (w.drew.alloc (.cells (bytesRow s (grownCap w s.size 0 e)) e ((bytesRow s (grownCap w s.size 0 e)).size, (bytesRow s (grownCap w s.size 0 e)).size + 1))).heap[w.heap.size]? = some (.cells (bytesRow s (grownCap w s.size 0 e)) e ((bytesRow s (grownCap w s.size 0 e)).size, (bytesRow s (grownCap w s.size 0 e)).size + 1)) := heap_alloc_new w.drew _
    simp only [World.cell?, hh]
    unfold bytesRow
    rw [Array.getElem?_append_left (by simpa using hjl)]
    have hjd : j < s.data.size := hjl
    rw [Array.getElem?_map, Array.getElem?_eq_getElem hjd]
    rfl

/-- The least of the normal choices. -/
def Least (W : Nat) (t : Dt) (l : List Bool) : Prop := l ∈ nrm t ∧ ∀ l' ∈ nrm t, leR (resR W t l 0 (0, false)) (resR W t l' 0 (0, false))
theorem Least.uniq {W : Nat} {t : Dt} {l l' : List Bool} (h : Least W t l) (h' : Least W t l') : l = l' := by
  have := leR_anti (h.2 l' h'.1) (h'.2 l h.1)
  have h2 := congrArg Rs.c this
  exact h2

/-- On the way through the best results: the least one so far. -/
def MinInv (done : List (Pl × Rs)) (m : List (Bool × Rs)) : Prop := (done = [] ∧ m = []) ∨ ∃ q r, m = [(true, r)] ∧ (q, r) ∈ done ∧ ∀ q' r', (q', r') ∈ done → leR r r'
theorem MinInv.step {done : List (Pl × Rs)} {m : List (Bool × Rs)} (h : MinInv done m) (q : Pl) (r : Rs) : MinInv ((q, r) :: done) (kpM true r m) := by
  right
  rcases h with ⟨rfl, rfl⟩ | ⟨q0, r0, rfl, h1, h2⟩
  · exact ⟨q, r, rfl, by simp, fun q' r' hm => by simp at hm; rw [hm.2]; exact leR_refl _⟩
  · cases hl : lessR r r0 with
    | true =>
      refine ⟨q, r, by simp [kpM, getM, putM, hl], by simp, fun q' r' hm => ?_⟩
      rcases List.mem_cons.1 hm with e | hm
      · cases e; exact leR_refl _
      · exact leR_trans (lessR_le hl) (h2 _ _ hm)
    | false =>
      refine ⟨q0, r0, by simp [kpM, getM, hl], by simp [h1], fun q' r' hm => ?_⟩
      rcases List.mem_cons.1 hm with e | hm
      · cases e; exact hl
      · exact h2 _ _ hm
theorem MinInv.least {W : Nat} {t : Dt} {ma : List (Pl × Rs)} {m : List (Bool × Rs)} (h : MinInv ma m) (hb : IsBest W t 0 (0, false) ma) : ∃ r, m = [(true, r)] ∧ Least W t r.c := by
  rcases h with ⟨rfl, _⟩ | ⟨q, r, rfl, h1, h2⟩
  · exact absurd rfl hb.ne
  · refine ⟨r, rfl, ?_⟩
    obtain ⟨l, hl, rfl, _⟩ := hb.snd _ _ h1
    refine ⟨hl, fun l' hl' => ?_⟩
    obtain ⟨r', hr', hle⟩ := hb.cpl l' hl'
    exact leR_trans (h2 _ _ hr') hle
theorem MinInv.perm {a b : List (Pl × Rs)} {m : List (Bool × Rs)} (h : MinInv a m) (hp : a.Perm b) : MinInv b m := by
  rcases h with ⟨rfl, rfl⟩ | ⟨q, r, rfl, h1, h2⟩
  · exact .inl ⟨List.nil_perm.1 hp, rfl⟩
  · exact .inr ⟨q, r, rfl, hp.mem_iff.1 h1, fun q' r' hm => h2 _ _ (hp.mem_iff.2 hm)⟩

/-- The numbers of groups of the nodes so far. -/
def ngL (d : List Nd) (i : Nat) : List Nat := (List.range d.length).map fun j => if j < i then ng (T d j) else 0
def hdL (d : List Nd) (i : Nat) : List Bool := (List.range d.length).map fun j => decide (j < i) && hasHard (T d j)
theorem ngL_get {d : List Nd} {i j : Nat} (hj : j < d.length) : (ngL d i)[j]? = some (if j < i then ng (T d j) else 0) := by
  unfold ngL; rw [List.getElem?_map, List.getElem?_range hj]; rfl
theorem hdL_get {d : List Nd} {i j : Nat} (hj : j < d.length) : (hdL d i)[j]? = some (decide (j < i) && hasHard (T d j)) := by
  unfold hdL; rw [List.getElem?_map, List.getElem?_range hj]; rfl
theorem ngL_len (d : List Nd) (i : Nat) : (ngL d i).length = d.length := by simp [ngL]
theorem hdL_len (d : List Nd) (i : Nat) : (hdL d i).length = d.length := by simp [hdL]
theorem ngL_set {d : List Nd} {i : Nat} : (natsV (ngL d i)).set i (.int .i64 (ng (T d i) : Nat)) = natsV (ngL d (i + 1)) := by
  have : (ngL d i).set i (ng (T d i)) = ngL d (i + 1) := by
    apply List.ext_getElem?
    intro j
    by_cases hj : j < d.length
    · rw [List.getElem?_set, ngL_get hj, ngL_get hj]
      by_cases hij : i = j
      · subst hij
        rw [if_pos rfl, if_pos (by rw [ngL_len]; exact hj), if_pos (by omega)]
      · rw [if_neg hij]
        by_cases h1 : j < i
        · rw [if_pos h1, if_pos (by omega)]
        · rw [if_neg h1, if_neg (by omega)]
    · rw [List.getElem?_eq_none (by rw [List.length_set, ngL_len]; omega), List.getElem?_eq_none (by rw [ngL_len]; omega)]
  rw [← this]; simp [natsV, List.map_set]
theorem hdL_set {d : List Nd} {i : Nat} : (boolsV (hdL d i)).set i (.bool (hasHard (T d i))) = boolsV (hdL d (i + 1)) := by
  have : (hdL d i).set i (hasHard (T d i)) = hdL d (i + 1) := by
    apply List.ext_getElem?
    intro j
    by_cases hj : j < d.length
    · rw [List.getElem?_set, hdL_get hj, hdL_get hj]
      by_cases hij : i = j
      · subst hij
        rw [if_pos rfl, if_pos (by rw [hdL_len]; exact hj)]
        simp
      · rw [if_neg hij]
        by_cases h1 : j < i
        · rw [decide_eq_true h1, decide_eq_true (show j < i + 1 by omega)]
        · rw [decide_eq_false h1, decide_eq_false (show ¬ j < i + 1 by omega)]
    · rw [List.getElem?_eq_none (by rw [List.length_set, hdL_len]; omega), List.getElem?_eq_none (by rw [hdL_len]; omega)]
  rw [← this]; simp [boolsV, List.map_set]
theorem set_same {α : Type} {l : List α} {i : Nat} {x : α} (h : l[i]? = some x) : l.set i x = l := by
  apply List.ext_getElem?
  intro j
  rw [List.getElem?_set]
  split
  · rename_i e
    subst e
    rw [h, if_pos (List.getElem?_eq_some_iff.1 h).1]
  · rfl
theorem ngL_keep {d : List Nd} {i : Nat} (h : i < d.length) (h0 : ng (T d i) = 0) : natsV (ngL d i) = natsV (ngL d (i + 1)) := by
  rw [← ngL_set, h0]
  refine (set_same ?_).symm
  rw [natsV_get (ngL_get h), if_neg (by omega)]
theorem hdL_keep {d : List Nd} {i : Nat} (h : i < d.length) (h0 : hasHard (T d i) = false) : boolsV (hdL d i) = boolsV (hdL d (i + 1)) := by
  rw [← hdL_set, h0]
  refine (set_same ?_).symm
  rw [boolsV_get (hdL_get h)]
  simp
theorem ngL_all (d : List Nd) : ngL d d.length = (List.range d.length).map fun i => ng (T d i) := by
  unfold ngL
  apply List.map_congr_left
  intro j hj
  rw [if_pos (List.mem_range.1 hj)]
theorem hdL_all (d : List Nd) : hdL d d.length = (List.range d.length).map fun i => hasHard (T d i) := by
  unfold hdL
  apply List.map_congr_left
  intro j hj
  rw [decide_eq_true (List.mem_range.1 hj), Bool.true_and]
theorem ngL_zero (d : List Nd) : natsV (ngL d 0) = List.replicate d.length (.int .i64 0) := by
  unfold ngL natsV
  rw [List.map_map]
  apply List.ext_getElem?
  intro j
  by_cases hj : j < d.length
  · rw [List.getElem?_map, List.getElem?_range hj, List.getElem?_replicate, if_pos hj]; rfl
  · rw [List.getElem?_eq_none (by simp; omega), List.getElem?_eq_none (by simp; omega)]
theorem hdL_zero (d : List Nd) : boolsV (hdL d 0) = List.replicate d.length (.bool false) := by
  unfold hdL boolsV
  rw [List.map_map]
  apply List.ext_getElem?
  intro j
  by_cases hj : j < d.length
  · rw [List.getElem?_map, List.getElem?_range hj, List.getElem?_replicate, if_pos hj]; rfl
  · rw [List.getElem?_eq_none (by simp; omega), List.getElem?_eq_none (by simp; omega)]
end Go.Proofs.Ytbkadgdhmfolaaa
