/-
  A region that draws its order, some of whose operations hang on no world: they are taken first; of the others one alone is ready at a time.
  Conditions: as each theorem says.
-/
import Derived.Test.YtpalpikenkkhlaaMem
namespace Go.Proofs.Ytpalpikenkkhlaa
open Go Go.RowKit

def NoP (Q : Exit → Act → World → Prop) : Exit → Act → World → Prop
  | .panic _, _, _ => False
  | e, a, w => Q e a w
theorem NoP.imp {Q : Exit → Act → World → Prop} : ∀ (e : Exit) (a : Act) (w : World), NoP Q e a w → Q e a w := fun e a w h => by
  cases e <;> first | exact h | exact (h : False).elim

/-- The operations with these numbers. -/
def pickL (ops : List Oper) : List Nat → List Oper
  | [] => []
  | k :: l => match nthO ops k with
    | some o => o :: pickL ops l
    | none => pickL ops l

def seqsB (md : Region.Mode) (ops : Array Oper) : List Nat → Array Bool → Bool
  | [], listed => (Region.ready md ops listed).isEmpty
  | k :: l, listed => decide (Region.ready md ops listed = [k]) && seqsB md ops l (listed.setIfInBounds k true)

def pickB (md : Region.Mode) (ops : Array Oper) (tl : List Nat) : List Nat → Array Bool → Bool
  | [], listed => seqsB md ops tl listed
  | k :: l, listed => (Region.ready md ops listed).contains k && Region.free md ops listed k && pickB md ops tl l (listed.setIfInBounds k true)

theorem wpAny_seqs {P : Program} {md : Region.Mode} {ops : List Oper} {Q : Exit → Act → World → Prop} : ∀ (tl : List Nat) (listed : Array Bool) (a : Act) (w : World),
    seqsB md ops.toArray tl listed = true → wpList P ops.toArray Q (pickL ops tl) a w → wpAny P md ops.toArray Q tl.length listed a w
  | [], _, _, _, hB, h => ⟨by simpa [seqsB] using hB, h⟩
  | k :: tl, listed, a, w, hB, h => by
    simp only [seqsB, Bool.and_eq_true, decide_eq_true_eq] at hB
    obtain ⟨_, o, ho, _⟩ := mem_ready.1 (show k ∈ Region.ready md ops.toArray listed by rw [hB.1]; simp)
    have hn : nthO ops k = some o := by rw [nthO_eq]; simpa using ho
    simp only [pickL, hn] at h
    refine ⟨fun h1 => (by rw [hB.1] at h1; cases h1), fun i hi => ?_⟩
    rw [hB.1] at hi
    have hik : i = k := by simpa using hi
    subst hik
    have hw : wpOp P ops.toArray Q i (wpList P ops.toArray Q (pickL ops tl)) a w := by unfold wpOp; simp only [ho]; exact h
    exact wpOp_mono (fun a' w' h' => wpAny_seqs tl _ a' w' hB.2 h') hw

section
variable {c : Cx} {S : Env} {a : Act}

/-- An operation that hangs on no world, and bears no guard. -/
def freeO (c : Cx) (o : Oper) (S : Env) (K : Env → Prop) : Prop :=
  match o.guard with
  | some _ => False
  | none => match pureOp c.g S o.op with
    | .val v => putK c S o.dst (.v v) K
    | .ent e => putK c S o.dst e K
    | .norm k n => Norm n (fun m => putK c S o.dst (.v (.int k m)) K)
    | .normIf p k n => NormIf p n (fun m => putK c S o.dst (.v (.int k m)) K)
    | .need p v => Need p v (fun v => putK c S o.dst (.v v) K)
    | .no => match o.op with
      | .index t x i => (match rowOf c.g.tys t, S.ev x, S.ev i with
        | some ⟨_, .string, _, _, _⟩, some (.string s), some (.int _ i) => SIndex s i (fun b => putK c S o.dst (.v (.int .u8 b)) K)
        | _, _, _ => False)
      | _ => False

def freeL (c : Cx) : List Oper → Env → (Env → Prop) → Prop
  | [], S, K => K S
  | o :: l, S, K => freeO c o S (fun S => freeL c l S K)

theorem freeO_sound (hg : c.g.Ok) {ops : Array Oper} {o : Oper} {K : Env → Prop} (h : freeO c o S K) (hf : Fits c.N S a) :
    ∃ v, Yields c.g.P ops o v a ∧ ∃ S', Fits c.N S' (a.put o.dst v) ∧ K S' := by
  unfold freeO at h
  split at h
  · exact h.elim
  · rename_i hgd
    have hw : Region.wanted o (yielded ops a.tmps) = true := by unfold Region.wanted; simp [hgd]
    split at h
    · rename_i v hp
      exact ⟨v, .inl ⟨hw, fun w => pure_sound (w := w) hg hf hp⟩, putK_sound (e := .v v) h hf⟩
    · rename_i e hp
      exact ⟨e.val, .inl ⟨hw, fun w => pure_sound (w := w) hg hf hp⟩, putK_sound (e := e) h hf⟩
    · rename_i k n hp
      unfold Norm at h
      exact ⟨_, .inl ⟨hw, fun w => pure_sound (w := w) hg hf hp⟩, putK_sound (e := .v (.int k n)) h hf⟩
    · rename_i p k n hp
      unfold NormIf at h
      exact ⟨_, .inl ⟨hw, fun w => pure_sound (w := w) hg hf hp h.1⟩, putK_sound (e := .v (.int k n)) h.2 hf⟩
    · rename_i p v hp
      unfold Need at h
      exact ⟨_, .inl ⟨hw, fun w => pure_sound (w := w) hg hf hp h.1⟩, putK_sound (e := .v v) h.2 hf⟩
    · split at h
      · rename_i t x i hop
        split at h
        · rename_i hr hx hi
          unfold SIndex at h
          obtain ⟨b, h0, h1, h2⟩ := h
          refine ⟨.int .u8 b.toNat, .inl ⟨hw, fun w => ?_⟩, putK_sound (e := .v (.int .u8 b.toNat)) h2 hf⟩
          have e1 := hf.ev hx
          have e2 := hf.ev hi
          obtain ⟨dst, op, ty, pos, aft, gd⟩ := o
          simp only at hop
          subst hop
          simp [execOp, e1, e2, Instr.index, asIntOf, run_und hg hr, h0, h1]
        · exact h.elim
      · exact h.elim

theorem freeL_sound (hg : c.g.Ok) {md : Region.Mode} {ops : List Oper} {Q : Exit → Act → World → Prop} (hs : Region.noSelect ops.toArray = true) (tl : List Nat) (w : World) {K : Env → Prop}
    (hK : ∀ S a listed, K S → Fits c.N S a → seqsB md ops.toArray tl listed = true → wpAny c.g.P md ops.toArray (NoP Q) tl.length listed a w) :
    ∀ (tk : List Nat) (listed : Array Bool) (S : Env) (a : Act), pickB md ops.toArray tl tk listed = true → freeL c (pickL ops tk) S K → Fits c.N S a → wpAny c.g.P md ops.toArray (NoP Q) (tk.length + tl.length) listed a w
  | [], listed, S, a, hB, h, hf => by
    have := hK S a listed h hf hB
    simpa using this
  | k :: tk, listed, S, a, hB, h, hf => by
    simp only [pickB, Bool.and_eq_true] at hB
    obtain ⟨⟨hr, hfr⟩, hB'⟩ := hB
    obtain ⟨_, o, ho, _⟩ := mem_ready.1 (by simpa using hr : k ∈ Region.ready md ops.toArray listed)
    have hn : nthO ops k = some o := by rw [nthO_eq]; simpa using ho
    simp only [pickL, hn, freeL] at h
    obtain ⟨v, hy, S', hf', hk⟩ := freeO_sound hg (ops := ops.toArray) h hf
    have := freeL_sound hg hs tl w hK tk _ S' _ hB' hk hf'
    rw [List.length_cons, show tk.length + 1 + tl.length = (tk.length + tl.length) + 1 by omega]
    exact wpAny_take ho hs hfr hr (fun _ _ _ h => h) hy this

/-- First the operations tk, which hang on no world; then tl, one behind the other. -/
theorem draw_pick (hg : c.g.Ok) {id : Nat} {ops : List Oper} {w : World} {Q : Post} (tk tl : List Nat) (hB : (Region.noSelect ops.toArray && Nat.beq (tk.length + tl.length) ops.length && pickB .any ops.toArray tl tk (Array.replicate ops.length false)) = true)
    (h : freeL { c with named := 1000000 } (pickL ops tk) S (fun S => execL c ops (pickL ops tl) S w.drew (fun S w => Q .normal S w) (fun _ _ _ => False))) : AtDraw c id ops S w Q := by
  unfold AtDraw
  intro a hf
  simp only [Bool.and_eq_true] at hB
  obtain ⟨⟨hs, hl⟩, hB⟩ := hB
  refine Code.wp_mono NoP.imp (wp_region_any hg.mixed ?_)
  have := freeL_sound (c := { c with named := 1000000 }) hg (md := .any) (Q := Up c Q) hs tl w.drew (fun S' a' listed hk hf' hq => by
    have h2 := execL_sound (c := c) hg ops _ _ _ _ hk hf'
    refine wpAny_seqs tl listed a' _ hq (wpList_mono' (fun e a w hq => ?_) h2)
    cases e with
    | normal => exact hq
    | _ => exact absurd hq (by rintro ⟨_, _, h⟩; exact h)) tk _ S a hB h hf
  rw [Nat.eq_of_beq_eq_true hl] at this
  simpa using this
end
end Go.Proofs.Ytpalpikenkkhlaa
