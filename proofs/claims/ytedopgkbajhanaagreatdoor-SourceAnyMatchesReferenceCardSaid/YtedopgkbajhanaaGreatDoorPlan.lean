/-
  A region that draws its order, by a plan: some operations are taken first, since they yield their value in every world of a class; of the others one alone is ready at a time, and keeps the class; behind all these comes a tail in the text's order, which need not keep it.
  Conditions: as each theorem says.
-/
import Derived.Test.YtedopgkbajhanaaGreatDoorMem
namespace Go.Proofs.YtedopgkbajhanaaGreatDoor
open Go Go.RowKit

section
variable {P : Program} {ops : Array Oper} {md : Region.Mode} {C : World → Prop} {Q : Exit → Act → World → Prop}

def NoPan (Q : Exit → Act → World → Prop) : Exit → Act → World → Prop
  | .panic _, _, _ => False
  | e, a, w => Q e a w
theorem NoPan.imp {Q : Exit → Act → World → Prop} : ∀ (e : Exit) (a : Act) (w : World), NoPan Q e a w → Q e a w := fun e a w h => by
  cases e <;> first | exact h | exact (h : False).elim

/-- The head of the region: f operations, each with a number below n, each of which keeps the class C; then L. -/
def wpG (P : Program) (md : Region.Mode) (ops : Array Oper) (Q : Exit → Act → World → Prop) (C : World → Prop) (n : Nat) (L : Array Bool → Act → World → Prop) : Nat → Array Bool → Act → World → Prop
  | 0, listed, a, w => L listed a w
  | f + 1, listed, a, w =>
    Region.ready md ops listed ≠ [] ∧ ∀ i ∈ Region.ready md ops listed, i < n ∧ wpOp P ops Q i (fun a' w' => C w' ∧ wpG P md ops Q C n L f (listed.setIfInBounds i true) a' w') a w

theorem wpAny_of_G {n g : Nat} {L : Array Bool → Act → World → Prop} (hL : ∀ listed a w, L listed a w → wpAny P md ops Q g listed a w) :
    ∀ (f : Nat) (listed : Array Bool) (a : Act) (w : World), wpG P md ops Q C n L f listed a w → wpAny P md ops Q (f + g) listed a w
  | 0, listed, a, w, h => by rw [Nat.zero_add]; exact hL _ _ _ h
  | f + 1, listed, a, w, h => by
    rw [show f + 1 + g = (f + g) + 1 by omega]
    exact ⟨fun h0 => absurd h0 h.1, fun i hi => wpOp_mono (fun a' w' h' => wpAny_of_G hL f _ a' w' h'.2) (h.2 i hi).2⟩

/-- Either there is no tail, or nothing of it is ready before all of the head is listed. -/
def Sink (md : Region.Mode) (ops : Array Oper) (n : Nat) : Prop := n = ops.size ∨ (n < ops.size ∧ Region.sinkB md ops n = true ∧ Region.chainB md ops n = true)

theorem sink_lt {n i : Nat} {listed : Array Bool} (hs : Sink md ops n) (inv : HeadInv md ops n listed) (hin : i < n) (hun : listed.getD i true = false) : ∀ j ∈ Region.ready md ops listed, j < n := by
  intro j hj
  rcases hs with hs | ⟨h1, h2, h3⟩
  · obtain ⟨_, oj, hoj, _⟩ := mem_ready.1 hj
    rw [hs]; exact (Array.getElem?_eq_some_iff.1 hoj).1
  · rcases Nat.lt_or_ge j n with h | h
    · exact h
    · exact absurd hj (tail_waits h2 h3 h1 inv _ i rfl hin hun j h)

theorem wpG_first {n i : Nat} {oi : Oper} {v : Value} {L : Array Bool → Act → World → Prop} (hi : ops[i]? = some oi) (hsel : ∀ (j : Nat) (o : Oper) cs b, ops[j]? = some o → o.op ≠ .select cs b)
    (hs : Sink md ops n) (hin : i < n) (hdone : ∀ listed a w, L listed a w → ∀ j ∈ Region.ready md ops listed, n ≤ j) :
    ∀ (f : Nat) (listed : Array Bool) (a : Act) (w : World), HeadInv md ops n listed →
      (∀ j oj, ops[j]? = some oj → j ≠ i → listed.getD j true = false → (∀ e ∈ oj.after, Region.binds md e = true → e.on ≠ i) → oi.apart ops oj = true) →
      i ∈ Region.ready md ops listed → YieldsIf P ops C oi v a → C w →
      wpG P md ops (NoPan Q) C n L f (listed.setIfInBounds i true) (a.put oi.dst v) w → wpG P md ops (NoPan Q) C n L (f + 1) listed a w := by
  intro f
  induction f with
  | zero =>
    intro listed a w inv _ hr hy hC H
    have hun := (mem_ready.1 hr).1
    refine ⟨fun h => (by rw [h] at hr; cases hr), fun j hj => ?_⟩
    have hjn := sink_lt hs inv hin hun j hj
    refine ⟨hjn, ?_⟩
    by_cases hji : j = i
    · subst hji; exact hy.wpOp hi hC ⟨hC, H⟩
    · have := hdone _ _ _ H j (ready_mono hj hji)
      omega
  | succ f ih =>
    intro listed a w inv hfree hr hy hC H
    have hun := (mem_ready.1 hr).1
    refine ⟨fun h => (by rw [h] at hr; cases hr), fun j hj => ?_⟩
    have hjn := sink_lt hs inv hin hun j hj
    refine ⟨hjn, ?_⟩
    by_cases hji : j = i
    · subst hji; exact hy.wpOp hi hC ⟨hC, H⟩
    · have h1 := (H.2 j (ready_mono hj hji)).2
      obtain ⟨hjun, oj, hoj, hall⟩ := mem_ready.1 hj
      have hnot : ∀ e ∈ oj.after, Region.binds md e = true → e.on ≠ i := fun e he hb heq => by
        have h1 := hall e he hb
        rw [heq, getD_both hun] at h1
        cases h1
      have h2 := wpOp_putIf hoj (hfree j oj hoj hji hjun hnot) (fun cs b => hsel i oi cs b hi) (fun cs b => hsel j oj cs b hoj) (fun _ _ _ h => h) hy h1
      have hfree' : ∀ k ok, ops[k]? = some ok → k ≠ i → (listed.setIfInBounds j true).getD k true = false →
          (∀ e ∈ ok.after, Region.binds md e = true → e.on ≠ i) → oi.apart ops ok = true := fun k ok hk hki hun hno => by
        refine hfree k ok hk hki ?_ hno
        by_cases hjk : j = k
        · subst hjk; exact hjun
        · rw [getD_set_ne true hjk] at hun; exact hun
      refine wpOp_mono (fun a' w' h3 => ⟨h3.2.1, ih (listed.setIfInBounds j true) a' w' (inv.set hj hjn) hfree' (ready_mono hr (Ne.symm hji)) h3.1 h3.2.1 ?_⟩) h2
      rw [Array.setIfInBounds_comm _ _ hji]
      exact h3.2.2

/-- The plan: true: taken first; false: alone. -/
def planB (md : Region.Mode) (ops : Array Oper) (n : Nat) : List (Bool × Nat) → Array Bool → Bool
  | [], listed => Region.seqB md ops (ops.size - n) n listed
  | (true, k) :: l, listed => Nat.blt k n && (Region.ready md ops listed).contains k && Region.free md ops listed k && planB md ops n l (listed.setIfInBounds k true)
  | (false, k) :: l, listed => Nat.blt k n && decide (Region.ready md ops listed = [k]) && planB md ops n l (listed.setIfInBounds k true)

def sinkOk (md : Region.Mode) (ops : Array Oper) (n : Nat) : Bool := Nat.beq n ops.size || (Nat.blt n ops.size && Region.sinkB md ops n && Region.chainB md ops n)

theorem sinkOk_spec {n : Nat} (h : sinkOk md ops n = true) : Sink md ops n := by
  simp only [sinkOk, Bool.or_eq_true, Bool.and_eq_true] at h
  rcases h with h | ⟨⟨h1, h2⟩, h3⟩
  · exact .inl (Nat.eq_of_beq_eq_true h)
  · exact .inr ⟨by rw [Nat.blt_eq] at h1; exact h1, h2, h3⟩
end

section
variable {c : Cx} {S : Env} {a : Act}

@[irreducible] def TOp (c : Cx) (o : Oper) (S : Env) (C : World → Prop) (K : Env → Prop) : Prop := ∃ v, (∀ a w, Fits c.N S a → C w → (execOp a.eval o).run c.g.P w = .ok (.value v) w) ∧ putK c S o.dst (.v v) K

def execT (c : Cx) (o : Oper) (S : Env) (C : World → Prop) (K : Env → Prop) : Prop :=
  match pureOp c.g S o.op with
  | .val v => putK c S o.dst (.v v) K
  | .ent e => putK c S o.dst e K
  | .norm k n => Norm n (fun m => putK c S o.dst (.v (.int k m)) K)
  | .normIf p k n => NormIf p n (fun m => putK c S o.dst (.v (.int k m)) K)
  | .need p v => Need p v (fun v => putK c S o.dst (.v v) K)
  | .no => match o.op with
    | .load t x => (match rowOf c.g.tys t, S.ev x with
      | some r, some (.pointer (some p)) => (match isAggD r.d with
        | false => QLoad C p (fun v => putK c S o.dst (.v v) K)
        | true => QLoadN C p r.sz (fun vs => putK c S o.dst (.v (.agg vs.toArray)) K))
      | _, _ => TOp c o S C K)
    | .indexAddr t x i => (match rowOf c.g.tys t, S.ev x, S.ev i with
      | some ⟨_, .slice e, _, _, _⟩, some (.slice b n _), some (.int _ i) => (match rowOf c.g.tys e with
        | some r => Index b n i r.sz (fun p => putK c S o.dst (.v (.pointer (some p))) K)
        | none => TOp c o S C K)
      | some ⟨_, .array n e, _, _, _⟩, some (.pointer (some p)), some (.int _ i) => (match rowOf c.g.tys e with
        | some r => Index (some p) n i r.sz (fun p => putK c S o.dst (.v (.pointer (some p))) K)
        | none => TOp c o S C K)
      | _, _, _ => TOp c o S C K)
    | .index t x i => (match rowOf c.g.tys t, S.ev x, S.ev i with
      | some ⟨_, .string, _, _, _⟩, some (.string s), some (.int _ i) => SIndex s i (fun b => putK c S o.dst (.v (.int .u8 b)) K)
      | _, _, _ => TOp c o S C K)
    | _ => TOp c o S C K

/-- Behind a guard: carried out (with what is then known), or not. -/
def guardK (all : List Oper) (o : Oper) (S : Env) (yes no : Env → Prop) : Prop := match o.guard with
  | none => yes S
  | some (j, want) => match nthO all j with
    | some oj => (match oj.dst with
      | some d => (match S.ent d with
        | some .t => (match want with
          | true => yes S
          | false => no S)
        | some .f => (match want with
          | false => yes S
          | true => no S)
        | some (.v (.bool b)) => (match want with
          | true => WIf b (yes ((d, .t) :: S)) (no ((d, .f) :: S))
          | false => WIf b (no ((d, .t) :: S)) (yes ((d, .f) :: S)))
        | some (.v (.tuple _)) => no S
        | _ => False)
      | none => False)
    | none => False

def planL (c : Cx) (all : List Oper) (C : World → Prop) : List (Bool × Nat) → Env → World → (Env → World → Prop) → Prop
  | [], S, w, K => K S w
  | (true, k) :: l, S, w, K => match nthO all k with
    | some o => guardK all o S (fun S => execT c o S C (fun S => planL c all C l S w K)) (fun S => putK c S o.dst (.v undef) (fun S => planL c all C l S w K))
    | none => False
  | (false, k) :: l, S, w, K => match nthO all k with
    | some o => guardK all o S (fun S => execO c o S w (fun S w => C w ∧ planL c all C l S w K) (fun _ _ _ => False)) (fun S => putK c S o.dst (.v undef) (fun S => planL c all C l S w K))
    | none => False

theorem guardK_spec {all : List Oper} {o : Oper} {yes no : Env → Prop} (h : guardK all o S yes no) (hf : Fits c.N S a) :
    (Region.wanted o (yielded all.toArray a.tmps) = true ∧ ∃ S', Fits c.N S' a ∧ yes S') ∨ (Region.wanted o (yielded all.toArray a.tmps) = false ∧ ∃ S', Fits c.N S' a ∧ no S') := by
  have fit : ∀ (d : Nat) (b : Bool) (e : Ent), S.ent d = some (.v (.bool b)) → e.val = .bool b → Fits c.N ((d, e) :: S) a := fun d b e hd he => by
    refine ⟨hf.size, hf.defers, fun k x hk => ?_⟩
    simp only [Env.ent] at hk
    split at hk
    · rename_i hb
      have := Nat.eq_of_beq_eq_true hb
      subst this
      cases hk
      rw [he]
      exact hf.has _ _ hd
    · exact hf.has _ _ hk
  unfold guardK at h
  split at h
  · rename_i hgd
    exact .inl ⟨by simp [Region.wanted, hgd], S, hf, h⟩
  · rename_i j want hgd
    split at h
    · rename_i oj hj
      split at h
      · rename_i d hd
        split at h
        · rename_i hd'
          have hw := wanted_iff hgd hj hd (hf.has _ _ hd')
          split at h
          · exact .inl ⟨by rw [hw]; rfl, S, hf, h⟩
          · exact .inr ⟨by rw [hw]; rfl, S, hf, h⟩
        · rename_i hd'
          have hw := wanted_iff hgd hj hd (hf.has _ _ hd')
          split at h
          · exact .inl ⟨by rw [hw]; rfl, S, hf, h⟩
          · exact .inr ⟨by rw [hw]; rfl, S, hf, h⟩
        · rename_i b hd'
          have hw := wanted_iff hgd hj hd (hf.has _ _ hd')
          split at h
          · unfold WIf at h
            cases b with
            | true => exact .inl ⟨by rw [hw]; rfl, _, fit d true .t hd' rfl, h.1 rfl⟩
            | false => exact .inr ⟨by rw [hw]; rfl, _, fit d false .f hd' rfl, h.2 rfl⟩
          · unfold WIf at h
            cases b with
            | true => exact .inr ⟨by rw [hw]; rfl, _, fit d true .t hd' rfl, h.1 rfl⟩
            | false => exact .inl ⟨by rw [hw]; rfl, _, fit d false .f hd' rfl, h.2 rfl⟩
        · rename_i hd'
          exact .inr ⟨unwanted hgd hj hd (hf.has _ _ hd'), S, hf, h⟩
        · exact h.elim
      · exact h.elim
    · exact h.elim

theorem execT_sound (hg : c.g.Ok) {o : Oper} {C : World → Prop} {K : Env → Prop} (h : execT c o S C K) (hf : Fits c.N S a) :
    ∃ v, (∀ w, C w → (execOp a.eval o).run c.g.P w = .ok (.value v) w) ∧ ∃ S', Fits c.N S' (a.put o.dst v) ∧ K S' := by
  have hAt : TOp c o S C K → ∃ v, (∀ w, C w → (execOp a.eval o).run c.g.P w = .ok (.value v) w) ∧ ∃ S', Fits c.N S' (a.put o.dst v) ∧ K S' := fun h => by
    unfold TOp at h
    obtain ⟨v, h1, h2⟩ := h
    exact ⟨v, fun w hw => h1 a w hf hw, putK_sound (e := .v v) h2 hf⟩
  unfold execT at h
  split at h
  · rename_i v hp
    exact ⟨v, fun w _ => pure_sound (w := w) hg hf hp, putK_sound (e := .v v) h hf⟩
  · rename_i e hp
    exact ⟨e.val, fun w _ => pure_sound (w := w) hg hf hp, putK_sound (e := e) h hf⟩
  · rename_i k n hp
    unfold Norm at h
    exact ⟨_, fun w _ => pure_sound (w := w) hg hf hp, putK_sound (e := .v (.int k n)) h hf⟩
  · rename_i p k n hp
    unfold NormIf at h
    exact ⟨_, fun w _ => pure_sound (w := w) hg hf hp h.1, putK_sound (e := .v (.int k n)) h.2 hf⟩
  · rename_i p v hp
    unfold Need at h
    exact ⟨_, fun w _ => pure_sound (w := w) hg hf hp h.1, putK_sound (e := .v v) h.2 hf⟩
  · obtain ⟨dst, op, ty, pos, aft, gd⟩ := o
    simp only at h hAt ⊢
    split at h
    · rename_i t x
      split at h
      · rename_i r p hr hx
        have e1 := hf.ev hx
        split at h
        · rename_i hd
          unfold QLoad at h
          obtain ⟨v, hv, hk⟩ := h
          refine ⟨v, fun w hw => ?_, putK_sound (e := .v v) hk hf⟩
          simp [execOp, e1, Instr.loadAt, Instr.sureAddr, loadVar, run_isAgg hg hr, hd, hv w hw]
        · rename_i hd
          unfold QLoadN at h
          obtain ⟨vs, hl, hv, hk⟩ := h
          refine ⟨.agg vs.toArray, fun w hw => ?_, putK_sound (e := .v (.agg vs.toArray)) hk hf⟩
          have h2 := run_loadCells_list (P := c.g.P) (w := w) p vs (hv w hw)
          rw [hl] at h2
          simp [execOp, e1, Instr.loadAt, Instr.sureAddr, loadVar, run_isAgg hg hr, hd, run_sizeOf hg hr, h2]
      · exact hAt h
    · rename_i t x ix
      split at h
      · rename_i e b n k i hr hx hi
        split at h
        · rename_i r hre
          unfold Index at h
          obtain ⟨p, rfl, h0, h1, hk⟩ := h
          have e1 := hf.ev hx
          have e2 := hf.ev hi
          refine ⟨.pointer (some (p.add (i.toNat * r.sz))), fun w _ => ?_, putK_sound (e := .v _) hk hf⟩
          simp [execOp, e1, e2, Instr.indexAt, asIntOf, run_und hg hr, run_sizeOf hg hre, h0, h1]
        · exact hAt h
      · rename_i n e p k i hr hx hi
        split at h
        · rename_i r hre
          unfold Index at h
          obtain ⟨p', hp, h0, h1, hk⟩ := h
          cases hp
          have e1 := hf.ev hx
          have e2 := hf.ev hi
          refine ⟨.pointer (some (p.add (i.toNat * r.sz))), fun w _ => ?_, putK_sound (e := .v _) hk hf⟩
          simp [execOp, e1, e2, Instr.indexAt, Instr.sureAddr, asIntOf, run_und hg hr, run_sizeOf hg hre, h0, h1]
        · exact hAt h
      · exact hAt h
    · rename_i t x ix
      split at h
      · rename_i s k i hr hx hi
        unfold SIndex at h
        obtain ⟨b, h0, h1, hk⟩ := h
        have e1 := hf.ev hx
        have e2 := hf.ev hi
        refine ⟨.int .u8 b.toNat, fun w _ => ?_, putK_sound (e := .v _) hk hf⟩
        simp [execOp, e1, e2, Instr.index, asIntOf, run_und hg hr, h0, h1]
      · exact hAt h
    · exact hAt h

theorem planL_sound (hg : c.g.Ok) {md : Region.Mode} {ops : List Oper} {C : World → Prop} {Q : Exit → Act → World → Prop} {n : Nat} (hs : Region.noSelect ops.toArray = true) (hk : Sink md ops.toArray n) {K : Env → World → Prop} :
    ∀ (l : List (Bool × Nat)) (listed : Array Bool) (S : Env) (a : Act) (w : World), HeadInv md ops.toArray n listed → planB md ops.toArray n l listed = true → planL c ops C l S w K → Fits c.N S a → C w →
    wpG c.g.P md ops.toArray (NoPan Q) C n (fun listed' a' w' => Region.seqB md ops.toArray (ops.toArray.size - n) n listed' = true ∧ ∃ S', Fits c.N S' a' ∧ K S' w') l.length listed a w
  | [], listed, S, a, w, inv, hB, h, hf, hC => ⟨hB, S, hf, h⟩
  | (true, k) :: l, listed, S, a, w, inv, hB, h, hf, hC => by
    simp only [planB, Bool.and_eq_true] at hB
    obtain ⟨⟨⟨hkn, hr⟩, hfr⟩, hB'⟩ := hB
    have hkn : k < n := by rw [Nat.blt_eq] at hkn; exact hkn
    have hr' : k ∈ Region.ready md ops.toArray listed := by simpa using hr
    obtain ⟨_, o, ho, _⟩ := mem_ready.1 hr'
    have hn : nthO ops k = some o := by rw [nthO_eq]; simpa using ho
    simp only [planL, hn] at h
    have key : ∃ v, YieldsIf c.g.P ops.toArray C o v a ∧ ∃ S', Fits c.N S' (a.put o.dst v) ∧ planL c ops C l S' w K := by
      rcases guardK_spec h hf with ⟨hw, S1, hf1, h1⟩ | ⟨hw, S1, hf1, h1⟩
      · obtain ⟨v, h2, h3⟩ := execT_sound hg h1 hf1
        exact ⟨v, .inl ⟨hw, h2⟩, h3⟩
      · exact ⟨undef, .inr ⟨hw, rfl⟩, putK_sound (e := .v undef) h1 hf1⟩
    obtain ⟨v, hy, S', hf', h'⟩ := key
    exact wpG_first ho (Region.noSelect_spec hs) hk hkn (fun listed' a' w' hL => seqB_ready hL.1) l.length listed a w inv (Region.free_spec ho hfr) hr' hy hC
      (planL_sound hg hs hk l _ S' _ w (inv.set hr' hkn) hB' h' hf' hC)
  | (false, k) :: l, listed, S, a, w, inv, hB, h, hf, hC => by
    simp only [planB, Bool.and_eq_true, decide_eq_true_eq] at hB
    obtain ⟨⟨hkn, hr⟩, hB'⟩ := hB
    have hkn : k < n := by rw [Nat.blt_eq] at hkn; exact hkn
    have hr' : k ∈ Region.ready md ops.toArray listed := by rw [hr]; simp
    obtain ⟨_, o, ho, _⟩ := mem_ready.1 hr'
    have hn : nthO ops k = some o := by rw [nthO_eq]; simpa using ho
    simp only [planL, hn] at h
    have inv' := inv.set hr' hkn
    refine ⟨fun h0 => (by rw [hr] at h0; cases h0), fun i hi => ?_⟩
    rw [hr] at hi
    have hik : i = k := by simpa using hi
    subst hik
    refine ⟨hkn, ?_⟩
    unfold wpOp
    simp only [ho]
    rcases guardK_spec h hf with ⟨hw, S1, hf1, h1⟩ | ⟨hw, S1, hf1, h1⟩
    · rw [if_pos hw]
      refine .inl ?_
      have h2 := execO_sound hg h1 hf1
      have h3 := Oper.wp_mono (K' := fun a' w' => C w' ∧ wpG c.g.P md ops.toArray (NoPan Q) C n (fun listed' a' w' => Region.seqB md ops.toArray (ops.toArray.size - n) n listed' = true ∧ ∃ S', Fits c.N S' a' ∧ K S' w') l.length (listed.setIfInBounds i true) a' w')
        (fun a' w' ⟨S', hf', hc', hk'⟩ => ⟨hc', planL_sound hg hs hk l _ S' a' w' inv' hB' hk' hf' hc'⟩) h2
      unfold Oper.wp at h3 ⊢
      generalize (execOp a.eval o).run c.g.P w = r at *
      cases r with
      | ok nx w' =>
        cases nx <;> simp only [Oper.upon] at h3 ⊢ <;> try exact h3
        exact h3.mono fun e w'' he => by
          cases e with
          | returned v => exact he
          | panicked ch => obtain ⟨_, _, he⟩ := he; exact he.elim
          | outgrown => obtain ⟨_, _, _, _, he⟩ := he; exact he.elim
      | halt x w' => cases x <;> simp only [Oper.upon] at h3 ⊢ <;> first | exact h3 | (obtain ⟨_, _, h3⟩ := h3; exact h3.elim)
    · rw [if_neg (by rw [hw]; decide)]
      obtain ⟨S', hf', h'⟩ := putK_sound (e := .v undef) h1 hf1
      exact ⟨hC, planL_sound hg hs hk l _ S' _ w inv' hB' h' hf' hC⟩

theorem top_op {o : Oper} {C : World → Prop} {K : Env → Prop} {v : Value} (h : ∀ a w, Fits c.N S a → C w → (execOp a.eval o).run c.g.P w = .ok (.value v) w) (k : putK c S o.dst (.v v) K) : TOp c o S C K := by
  unfold TOp; exact ⟨v, h, k⟩

/-- A region that draws, by a plan for its first n operations; the rest in the text's order. -/
theorem draw_plan (hg : c.g.Ok) {id : Nat} {ops : List Oper} {w : World} {Q : Post} (C : World → Prop) (n : Nat) (plan : List (Bool × Nat))
    (hB : (Region.noSelect ops.toArray && Nat.beq plan.length n && sinkOk .any ops.toArray n && planB .any ops.toArray n plan (Array.replicate ops.toArray.size false)) = true) (hC : C w.drew)
    (h : planL { c with named := 1000000 } ops C plan S w.drew (fun S w => execL c ops (ops.drop n) S w (fun S w => Q .normal S w) (fun _ _ _ => False))) : AtDraw c id ops S w Q := by
  unfold AtDraw
  intro a hf
  simp only [Bool.and_eq_true] at hB
  obtain ⟨⟨⟨hs, hl⟩, hsk⟩, hpl⟩ := hB
  have hl := Nat.eq_of_beq_eq_true hl
  have hk := sinkOk_spec hsk
  have hnle : n ≤ ops.length := by
    rcases hk with hk | hk
    · rw [hk]; simp
    · have := hk.1; simp at this; omega
  refine Code.wp_mono NoPan.imp (wp_region_any hg.mixed ?_)
  have inv0 : HeadInv .any ops.toArray n (Array.replicate ops.toArray.size false) :=
    ⟨by simp, fun j oj _ hl => (by rw [getD_replicate_false] at hl; cases hl), fun t _ ht => getD_in (by simpa using ht) (getD_replicate_false _ _)⟩
  have H := planL_sound (c := { c with named := 1000000 }) hg (Q := Up c Q) hs hk plan _ S a _ inv0 hpl h hf hC
  have hdl : (ops.drop n).length = ops.toArray.size - n := by simp
  have H2 := wpAny_of_G (Q := NoPan (Up c Q)) (g := ops.toArray.size - n) (fun listed' a' w' hL => by
    obtain ⟨hq, S', hf', hk'⟩ := hL
    have h2 := execL_sound (c := c) hg ops _ _ _ _ hk' hf'
    have := wpAny_of_seq (P := c.g.P) (md := .any) (ops := ops.toArray) (Q' := NoPan (Up c Q)) (ops.drop n) n listed' a' w' (fun j => by simp) (by rw [hdl]; exact hq) (wpList_mono' (fun e a w hq => by
      cases e with
      | normal => exact hq
      | _ => exact absurd hq (by rintro ⟨_, _, h⟩; exact h)) h2)
    rwa [hdl] at this) _ _ _ _ H
  rw [hl, show n + (ops.toArray.size - n) = ops.toArray.size by simp; omega] at H2
  exact H2
end
end Go.Proofs.YtedopgkbajhanaaGreatDoor
