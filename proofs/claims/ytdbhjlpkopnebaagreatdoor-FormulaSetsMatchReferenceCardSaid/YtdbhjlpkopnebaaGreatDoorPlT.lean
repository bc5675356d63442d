/-
  A region that draws its order, by a tree: where several operations are ready, each of them is taken as the next one.
  Conditions: as each theorem says.
-/
import Derived.Test.YtdbhjlpkopnebaaGreatDoorPlan
namespace Go.Proofs.YtdbhjlpkopnebaaGreatDoor
open Go Go.RowKit

inductive PT where
  | done
  | skip
  | quiet (k : Nat) (t : PT)
  | fork (k : Nat) (t o : PT)

def PT.alts : PT → List Nat
  | .fork k _ o => k :: o.alts
  | _ => []

def planTB (md : Region.Mode) (ops : Array Oper) (n : Nat) : PT → Bool → Nat → Array Bool → Bool
  | .done, inch, m, listed => !inch && Nat.beq m 0 && Region.seqB md ops (ops.size - n) n listed
  | .skip, inch, _, _ => inch
  | .quiet _ _, _, 0, _ => false
  | .quiet k t, inch, m + 1, listed => !inch && (Nat.blt k n && (Region.ready md ops listed).contains k && Region.free md ops listed k && planTB md ops n t false m (listed.setIfInBounds k true))
  | .fork _ _ _, _, 0, _ => false
  | .fork k t o, inch, m + 1, listed => (inch || decide (Region.ready md ops listed = k :: o.alts)) && (Nat.blt k n && planTB md ops n t false m (listed.setIfInBounds k true)) && planTB md ops n o true (m + 1) listed

def planT (c : Cx) (all : List Oper) (C : World → Prop) : PT → Env → World → (Env → World → Prop) → Prop
  | .done, S, w, K => K S w
  | .skip, _, _, _ => True
  | .quiet k t, S, w, K => match nthO all k with
    | some o => guardK all o S (fun S => execT c o S C (fun S => planT c all C t S w K)) (fun S => putK c S o.dst (.v undef) (fun S => planT c all C t S w K))
    | none => False
  | .fork k t o, S, w, K => (match nthO all k with
    | some op => guardK all op S (fun S => execO c op S w (fun S w => C w ∧ planT c all C t S w K) (fun _ _ _ => False)) (fun S => putK c S op.dst (.v undef) (fun S => planT c all C t S w K))
    | none => False) ∧ planT c all C o S w K

section
variable {c : Cx} {S : Env} {a : Act}
theorem planT_sound (hg : c.g.Ok) {md : Region.Mode} {ops : List Oper} {C : World → Prop} {Q : Exit → Act → World → Prop} {n : Nat} (hs : Region.noSelect ops.toArray = true) (hk : Sink md ops.toArray n) {K : Env → World → Prop} :
    ∀ (t : PT) (m : Nat) (listed : Array Bool) (S : Env) (a : Act) (w : World), HeadInv md ops.toArray n listed → planT c ops C t S w K → Fits c.N S a → C w →
    (planTB md ops.toArray n t false m listed = true → wpG c.g.P md ops.toArray (NoPan Q) C n (fun listed' a' w' => Region.seqB md ops.toArray (ops.toArray.size - n) n listed' = true ∧ ∃ S', Fits c.N S' a' ∧ K S' w') m listed a w) ∧
    (∀ m', m = m' + 1 → planTB md ops.toArray n t true m listed = true → (∀ i ∈ t.alts, i ∈ Region.ready md ops.toArray listed) → ∀ i ∈ t.alts, i < n ∧ wpOp c.g.P ops.toArray (NoPan Q) i (fun a' w' => C w' ∧ wpG c.g.P md ops.toArray (NoPan Q) C n (fun listed' a' w' => Region.seqB md ops.toArray (ops.toArray.size - n) n listed' = true ∧ ∃ S', Fits c.N S' a' ∧ K S' w') m' (listed.setIfInBounds i true) a' w') a w)
  | .done, m, listed, S, a, w, inv, h, hf, hC => by
    refine ⟨fun hB => ?_, fun m' hm hB => ?_⟩
    · simp only [planTB, Bool.not_false, Bool.true_and, Bool.and_eq_true] at hB
      have := Nat.eq_of_beq_eq_true hB.1
      subst this
      exact ⟨hB.2, S, hf, h⟩
    · simp [planTB] at hB
  | .skip, m, listed, S, a, w, inv, h, hf, hC => by
    refine ⟨fun hB => ?_, fun m' hm hB _ i hi => ?_⟩
    · simp [planTB] at hB
    · simp [PT.alts] at hi
  | .quiet k t, 0, listed, S, a, w, inv, h, hf, hC => by
    refine ⟨fun hB => ?_, fun m' hm hB => ?_⟩
    · simp [planTB] at hB
    · simp [planTB] at hB
  | .quiet k t, m + 1, listed, S, a, w, inv, h, hf, hC => by
    refine ⟨fun hB => ?_, fun m' hm hB => ?_⟩
    · simp only [planTB, Bool.not_false, Bool.true_and, Bool.and_eq_true] at hB
      obtain ⟨⟨⟨hkn, hr⟩, hfr⟩, hB'⟩ := hB
      have hkn : k < n := by rw [Nat.blt_eq] at hkn; exact hkn
      have hr' : k ∈ Region.ready md ops.toArray listed := by simpa using hr
      obtain ⟨_, o, ho, _⟩ := mem_ready.1 hr'
      have hn : nthO ops k = some o := by rw [nthO_eq]; simpa using ho
      simp only [planT, hn] at h
      have key : ∃ v, YieldsIf c.g.P ops.toArray C o v a ∧ ∃ S', Fits c.N S' (a.put o.dst v) ∧ planT c ops C t S' w K := by
        rcases guardK_spec h hf with ⟨hw, S1, hf1, h1⟩ | ⟨hw, S1, hf1, h1⟩
        · obtain ⟨v, h2, h3⟩ := execT_sound hg h1 hf1
          exact ⟨v, .inl ⟨hw, h2⟩, h3⟩
        · exact ⟨undef, .inr ⟨hw, rfl⟩, putK_sound (e := .v undef) h1 hf1⟩
      obtain ⟨v, hy, S', hf', h'⟩ := key
      exact wpG_first ho (Region.noSelect_spec hs) hk hkn (fun listed' a' w' hL => seqB_ready hL.1) m listed a w inv (Region.free_spec ho hfr) hr' hy hC
        ((planT_sound hg hs hk t m _ S' _ w (inv.set hr' hkn) h' hf' hC).1 hB')
    · simp [planTB] at hB
  | .fork k t o, 0, listed, S, a, w, inv, h, hf, hC => by
    refine ⟨fun hB => ?_, fun m' hm hB => ?_⟩
    · simp [planTB] at hB
    · simp [planTB] at hB
  | .fork k t o, m + 1, listed, S, a, w, inv, h, hf, hC => by
    have key : (Nat.blt k n && planTB md ops.toArray n t false m (listed.setIfInBounds k true)) = true → planTB md ops.toArray n o true (m + 1) listed = true → (∀ i ∈ (PT.fork k t o).alts, i ∈ Region.ready md ops.toArray listed) →
        ∀ i ∈ (PT.fork k t o).alts, i < n ∧ wpOp c.g.P ops.toArray (NoPan Q) i (fun a' w' => C w' ∧ wpG c.g.P md ops.toArray (NoPan Q) C n (fun listed' a' w' => Region.seqB md ops.toArray (ops.toArray.size - n) n listed' = true ∧ ∃ S', Fits c.N S' a' ∧ K S' w') m (listed.setIfInBounds i true) a' w') a w := by
      intro hB hBo hall i hi
      simp only [Bool.and_eq_true] at hB
      obtain ⟨hkn, hB'⟩ := hB
      have hkn : k < n := by rw [Nat.blt_eq] at hkn; exact hkn
      simp only [PT.alts, List.mem_cons] at hi
      have hr' : k ∈ Region.ready md ops.toArray listed := hall k (by simp [PT.alts])
      obtain ⟨h1, h2⟩ := h
      rcases hi with rfl | hi
      · refine ⟨hkn, ?_⟩
        obtain ⟨_, op, ho, _⟩ := mem_ready.1 hr'
        have hn : nthO ops i = some op := by rw [nthO_eq]; simpa using ho
        simp only [hn] at h1
        have inv' := inv.set hr' hkn
        unfold wpOp
        simp only [ho]
        rcases guardK_spec h1 hf with ⟨hw, S1, hf1, h3⟩ | ⟨hw, S1, hf1, h3⟩
        · rw [if_pos hw]
          refine .inl ?_
          have h4 := execO_sound hg h3 hf1
          have h5 := Oper.wp_mono (K' := fun a' w' => C w' ∧ wpG c.g.P md ops.toArray (NoPan Q) C n (fun listed' a' w' => Region.seqB md ops.toArray (ops.toArray.size - n) n listed' = true ∧ ∃ S', Fits c.N S' a' ∧ K S' w') m (listed.setIfInBounds i true) a' w')
            (fun a' w' ⟨S', hf', hc', hk'⟩ => ⟨hc', (planT_sound hg hs hk t m _ S' a' w' inv' hk' hf' hc').1 hB'⟩) h4
          unfold Oper.wp at h5 ⊢
          generalize (execOp a.eval op).run c.g.P w = r at *
          cases r with
          | ok nx w' =>
            cases nx <;> simp only [Oper.upon] at h5 ⊢ <;> try exact h5
            exact h5.mono fun e w'' he => by
              cases e with
              | returned v => exact he
              | panicked ch => obtain ⟨_, _, he⟩ := he; exact he.elim
              | outgrown => obtain ⟨_, _, _, _, he⟩ := he; exact he.elim
          | halt x w' => cases x <;> simp only [Oper.upon] at h5 ⊢ <;> first | exact h5 | (obtain ⟨_, _, h5⟩ := h5; exact h5.elim)
        · rw [if_neg (by rw [hw]; decide)]
          obtain ⟨S', hf', h'⟩ := putK_sound (e := .v undef) h3 hf1
          exact ⟨hC, (planT_sound hg hs hk t m _ S' _ w inv' h' hf' hC).1 hB'⟩
      · exact (planT_sound hg hs hk o (m + 1) listed S a w inv h2 hf hC).2 m rfl hBo (fun j hj => hall j (by simp [PT.alts, hj])) i hi
    refine ⟨fun hB => ?_, fun m' hm hB hall => ?_⟩
    · simp only [planTB, Bool.false_or, Bool.and_eq_true, decide_eq_true_eq] at hB
      obtain ⟨⟨hr, hB1⟩, hB2⟩ := hB
      have hr2 : Region.ready md ops.toArray listed = (PT.fork k t o).alts := hr
      refine ⟨fun h0 => (by rw [hr] at h0; cases h0), fun i hi => ?_⟩
      exact key (by simpa using hB1) hB2 (fun j hj => by rw [hr2]; exact hj) i (by rw [hr2] at hi; exact hi)
    · simp only [planTB, Bool.true_or, Bool.true_and] at hB
      rw [Bool.and_eq_true] at hB
      have hmm : m' = m := by omega
      subst hmm
      exact key hB.1 hB.2 hall

/-- A region that draws, by a tree for its first n operations; the rest in the text's order. -/
theorem draw_tree (hg : c.g.Ok) {id : Nat} {ops : List Oper} {w : World} {Q : Post} (C : World → Prop) (n : Nat) (t : PT)
    (hB : (Region.noSelect ops.toArray && sinkOk .any ops.toArray n && planTB .any ops.toArray n t false n (Array.replicate ops.toArray.size false)) = true) (hC : C w.drew)
    (h : planT { c with named := 1000000 } ops C t S w.drew (fun S w => execL c ops (ops.drop n) S w (fun S w => Q .normal S w) (fun _ _ _ => False))) : AtDraw c id ops S w Q := by
  unfold AtDraw
  intro a hf
  simp only [Bool.and_eq_true] at hB
  obtain ⟨⟨hs, hsk⟩, hpl⟩ := hB
  have hk := sinkOk_spec hsk
  have hnle : n ≤ ops.length := by
    rcases hk with hk | hk
    · rw [hk]; simp
    · have := hk.1; simp at this; omega
  refine Code.wp_mono NoPan.imp (wp_region_any hg.mixed ?_)
  have inv0 : HeadInv .any ops.toArray n (Array.replicate ops.toArray.size false) :=
    ⟨by simp, fun j oj _ hl => (by rw [getD_replicate_false] at hl; cases hl), fun t _ ht => getD_in (by simpa using ht) (getD_replicate_false _ _)⟩
  have H := (planT_sound (c := { c with named := 1000000 }) hg (Q := Up c Q) hs hk t n _ S a _ inv0 h hf hC).1 hpl
  have hdl : (ops.drop n).length = ops.toArray.size - n := by simp
  have H2 := wpAny_of_G (Q := NoPan (Up c Q)) (g := ops.toArray.size - n) (fun listed' a' w' hL => by
    obtain ⟨hq, S', hf', hk'⟩ := hL
    have h2 := execL_sound (c := c) hg ops _ _ _ _ hk' hf'
    have := wpAny_of_seq (P := c.g.P) (md := .any) (ops := ops.toArray) (Q' := NoPan (Up c Q)) (ops.drop n) n listed' a' w' (fun j => by simp) (by rw [hdl]; exact hq) (wpList_mono' (fun e a w hq => by
      cases e with
      | normal => exact hq
      | _ => exact absurd hq (by rintro ⟨_, _, h⟩; exact h)) h2)
    rwa [hdl] at this) _ _ _ _ H
  rw [show n + (ops.toArray.size - n) = ops.toArray.size by simp; omega] at H2
  exact H2

/-- The orders of a region that draws meet again behind it. -/
theorem draw_cut {α : Type} {id : Nat} {ops : List Oper} {w : World} {Q : Post} (sl : List Nat) (val : α → List Value) (R : α → World → Prop)
    (hx : prune (stays (.region id ops.toArray true)) S [] (fun S0 => AtDraw c id ops S w (fun e S2 w2 => match e with
      | .normal => ∃ s, zipK sl (val s) S0 (fun T => Has T S2) ∧ R s w2
      | e => Q e S2 w2)))
    (hy : prune (stays (.region id ops.toArray true)) S [] (fun S0 => ∀ s w', R s w' → zipK sl (val s) S0 (fun S1 => Q .normal S1 w'))) : AtDraw c id ops S w Q := by
  rw [prune_eq] at hx hy
  unfold AtDraw at *
  intro a hf
  generalize pruneS (stays (.region id ops.toArray true)) S [] = S0 at *
  have hsplit : ∀ s (K : Env → Prop), zipK sl (val s) S0 K → K ((sl.zip ((val s).map Ent.v)).reverse ++ S0) := fun s K h => by
    obtain ⟨T, rfl, hk⟩ := zipK_spec h; exact hk
  refine Code.wp_mono (fun e a2 w2 hq => ?_) (hx a hf)
  obtain ⟨S2, hf2, hq⟩ := hq
  cases e with
  | normal =>
    obtain ⟨s, hz, hR⟩ := hq
    exact ⟨_, (hsplit s _ hz).fits hf2, hsplit s _ (hy s w2 hR)⟩
  | exit i => exact ⟨S2, hf2, hq⟩
  | goto l => exact ⟨S2, hf2, hq⟩
  | ret => exact ⟨S2, hf2, hq⟩
  | panic ch => exact ⟨S2, hf2, hq⟩
  | outgrown => exact ⟨S2, hf2, hq⟩
end
end Go.Proofs.YtdbhjlpkopnebaaGreatDoor
