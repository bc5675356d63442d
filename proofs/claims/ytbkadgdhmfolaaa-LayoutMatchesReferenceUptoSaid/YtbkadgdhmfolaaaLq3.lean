/-
  The best results of a node, from those of its operands.
  Conditions: none.
-/
import Derived.Test.YtbkadgdhmfolaaaLq2
namespace Go.Proofs.Ytbkadgdhmfolaaa
open Go Go.RowKit

def resR (W : Nat) (t : Dt) (l : List Bool) (ind : Nat) (p : Pl) : Rs := ⟨(runT W t l ind p).2.1, (runT W t l ind p).2.2, l⟩

/-- The map holds a best result for each place in which the node can be left. -/
structure IsBest (W : Nat) (t : Dt) (ind : Nat) (p : Pl) (m : List (Pl × Rs)) : Prop where
  nd : (m.map (·.1)).Nodup
  snd : ∀ q r, (q, r) ∈ m → ∃ l ∈ nrm t, r = resR W t l ind p ∧ (runT W t l ind p).1 = q
  cpl : ∀ l ∈ nrm t, ∃ r, ((runT W t l ind p).1, r) ∈ m ∧ leR r (resR W t l ind p)

theorem IsBest.leaf {W : Nat} {t : Dt} {ind : Nat} {p : Pl} (h : nrm t = [[]]) : IsBest W t ind p [((runT W t [] ind p).1, resR W t [] ind p)] := by
  refine ⟨by simp, fun q r hm => ?_, fun l hl => ?_⟩
  · simp at hm
    obtain ⟨rfl, rfl⟩ := hm
    exact ⟨[], by rw [h]; simp, rfl, rfl⟩
  · rw [h] at hl
    simp at hl
    subst hl
    exact ⟨_, by simp, leR_refl _⟩
theorem IsBest.nest {W : Nat} {t : Dt} {ind n : Nat} {p : Pl} {m : List (Pl × Rs)} (h : IsBest W t (ind + n) p m) : IsBest W (.nest n t) ind p m := ⟨h.nd, h.snd, h.cpl⟩
theorem IsBest.align {W : Nat} {t : Dt} {ind : Nat} {p : Pl} {m : List (Pl × Rs)} (h : IsBest W t p.1 p m) : IsBest W (.align t) ind p m := ⟨h.nd, h.snd, h.cpl⟩

theorem runT_seq {W : Nat} {a b : Dt} {x y : List Bool} (hx : x ∈ nrm a) (ind : Nat) (p : Pl) : (runT W (.seq a b) (x ++ y) ind p).1 = (runT W b y ind (runT W a x ind p).1).1 ∧ resR W (.seq a b) (x ++ y) ind p = addR (resR W a x ind p) (resR W b y ind (runT W a x ind p).1) := by
  have hl := nrm_len a x hx
  unfold resR addR
  simp only [runT]
  rw [← hl, List.take_left, List.drop_left]
  exact ⟨rfl, rfl⟩

/-- On the way through both loops: what is done of the first operand's results. -/
structure SeqInv (W : Nat) (a b : Dt) (ind : Nat) (p : Pl) (done : List (Pl × Rs)) (m : List (Pl × Rs)) : Prop where
  nd : (m.map (·.1)).Nodup
  snd : ∀ q r, (q, r) ∈ m → ∃ l ∈ nrm (.seq a b), r = resR W (.seq a b) l ind p ∧ (runT W (.seq a b) l ind p).1 = q
  cpl : ∀ p1 ra, (p1, ra) ∈ done → ∀ y ∈ nrm b, ∃ r, ((runT W b y ind p1).1, r) ∈ m ∧ leR r (addR ra (resR W b y ind p1))
theorem SeqInv.nil (W : Nat) (a b : Dt) (ind : Nat) (p : Pl) : SeqInv W a b ind p [] [] := ⟨by simp, by simp, by simp⟩
theorem SeqInv.best {W : Nat} {a b : Dt} {ind : Nat} {p : Pl} {done ma m : List (Pl × Rs)} (h : SeqInv W a b ind p done m) (ha : IsBest W a ind p ma) (hall : ∀ x ∈ ma, x ∈ done) : IsBest W (.seq a b) ind p m := by
  refine ⟨h.nd, h.snd, fun l hl => ?_⟩
  have hl0 := hl
  simp only [nrm, List.mem_flatMap, List.mem_map] at hl
  obtain ⟨x, hx, y, hy, rfl⟩ := hl
  obtain ⟨ra, hra, hle⟩ := ha.cpl x hx
  obtain ⟨r, hr, hle2⟩ := h.cpl _ _ (hall _ hra) y hy
  obtain ⟨e1, e2⟩ := runT_seq (W := W) (b := b) (y := y) hx ind p
  obtain ⟨x', hx', e3, _⟩ := ha.snd _ _ hra
  refine ⟨r, by rw [e1]; exact hr, leR_trans hle2 ?_⟩
  rw [e2]
  refine addR_le ?_ hle (leR_refl _)
  rw [e3]
  show x'.length = x.length
  rw [nrm_len a x hx, nrm_len a x' hx']
/-- The inner loop: the results of the second operand behind one result of the first; those of todo are still to come. -/
structure SeqIn (W : Nat) (a b : Dt) (ind : Nat) (p : Pl) (done : List (Pl × Rs)) (p1 : Pl) (ra : Rs) (db : List (Pl × Rs)) (m : List (Pl × Rs)) : Prop where
  inv : SeqInv W a b ind p done m
  cpl : ∀ q rb, (q, rb) ∈ db → ∃ r, (q, r) ∈ m ∧ leR r (addR ra rb)
theorem SeqIn.start {W : Nat} {a b : Dt} {ind : Nat} {p p1 : Pl} {ra : Rs} {done m : List (Pl × Rs)} (h : SeqInv W a b ind p done m) : SeqIn W a b ind p done p1 ra [] m := ⟨h, by simp⟩
theorem SeqIn.step {W : Nat} {a b : Dt} {ind : Nat} {p p1 q : Pl} {ra rb : Rs} {done ma mb db m : List (Pl × Rs)} (h : SeqIn W a b ind p done p1 ra db m) (ha : IsBest W a ind p ma) (hra : (p1, ra) ∈ ma) (hb : IsBest W b ind p1 mb) (hrb : (q, rb) ∈ mb) :
    SeqIn W a b ind p done p1 ra ((q, rb) :: db) (kpM q (addR ra rb) m) := by
  refine ⟨⟨kpM_nodup h.inv.nd, fun q' r' hm => ?_, fun p1' ra' hd y hy => ?_⟩, fun q' rb' hm => ?_⟩
  · rcases kpM_sub hm with ⟨rfl, rfl⟩ | hm
    · obtain ⟨x, hx, rfl, hxp⟩ := ha.snd _ _ hra
      obtain ⟨y, hy, rfl, hyp⟩ := hb.snd _ _ hrb
      obtain ⟨e1, e2⟩ := runT_seq (W := W) (b := b) (y := y) hx ind p
      rw [hxp] at e1 e2
      exact ⟨x ++ y, List.mem_flatMap.2 ⟨x, hx, List.mem_map.2 ⟨y, hy, rfl⟩⟩, e2.symm, by rw [e1]; exact hyp⟩
    · exact h.inv.snd _ _ hm
  · obtain ⟨r, hr, hle⟩ := h.inv.cpl _ _ hd y hy
    obtain ⟨x, hx, hle2⟩ := kpM_old (a := q) (r := addR ra rb) h.inv.nd hr
    exact ⟨x, hx, leR_trans hle2 hle⟩
  · rcases List.mem_cons.1 hm with e | hm
    · cases e; exact kpM_new m
    · obtain ⟨r, hr, hle⟩ := h.cpl _ _ hm
      obtain ⟨x, hx, hle2⟩ := kpM_old (a := q) (r := addR ra rb) h.inv.nd hr
      exact ⟨x, hx, leR_trans hle2 hle⟩
theorem SeqIn.done {W : Nat} {a b : Dt} {ind : Nat} {p p1 : Pl} {ra : Rs} {done mb db m : List (Pl × Rs)} (h : SeqIn W a b ind p done p1 ra db m) (hb : IsBest W b ind p1 mb) (hall : ∀ x ∈ mb, x ∈ db) : SeqInv W a b ind p ((p1, ra) :: done) m := by
  refine ⟨h.inv.nd, h.inv.snd, fun p1' ra' hd y hy => ?_⟩
  rcases List.mem_cons.1 hd with e | hd
  · cases e
    obtain ⟨rb, hrb, hle⟩ := hb.cpl y hy
    obtain ⟨r, hr, hle2⟩ := h.cpl _ _ (hall _ hrb)
    exact ⟨r, hr, leR_trans hle2 (addR_le rfl (leR_refl _) hle)⟩
  · exact h.inv.cpl _ _ hd y hy

/-- A group that is not flat. -/
def preR (r : Rs) : Rs := ⟨r.b, r.l, false :: r.c⟩
theorem preR_le {r s : Rs} (h : leR r s) : leR (preR r) (preR s) := by
  rw [leR_iff] at *
  simp only [preR]
  rcases h with h | ⟨h, h2 | ⟨h2, h3⟩⟩
  · exact .inl h
  · exact .inr ⟨h, .inl h2⟩
  · exact .inr ⟨h, .inr ⟨h2, (leC_cons _ _ _ _).2 (.inl ⟨rfl, h3⟩)⟩⟩
theorem runT_open (W : Nat) (a : Dt) (x : List Bool) (ind : Nat) (p : Pl) : (runT W (.group a) (false :: x) ind p).1 = (runT W a x ind p).1 ∧ resR W (.group a) (false :: x) ind p = preR (resR W a x ind p) := ⟨rfl, rfl⟩
theorem runT_shut (W : Nat) (a : Dt) (ind : Nat) (p : Pl) : (runT W (.group a) (List.replicate (ng a + 1) true) ind p).1 = (flatP W a p).1 ∧ resR W (.group a) (List.replicate (ng a + 1) true) ind p = ⟨(flatP W a p).2, 0, List.replicate (ng a + 1) true⟩ := ⟨rfl, rfl⟩
structure GrpInv (done m : List (Pl × Rs)) : Prop where
  nd : (m.map (·.1)).Nodup
  snd : ∀ q r, (q, r) ∈ m → ∃ r0, (q, r0) ∈ done ∧ r = preR r0
  cpl : ∀ q r0, (q, r0) ∈ done → (q, preR r0) ∈ m
theorem GrpInv.nil : GrpInv [] [] := ⟨by simp, by simp, by simp⟩
theorem GrpInv.step {done m : List (Pl × Rs)} {q : Pl} {r0 : Rs} (h : GrpInv done m) (hq : ∀ x, (q, x) ∉ done) : GrpInv ((q, r0) :: done) (putM q (preR r0) m) := by
  have hg : getM q m = none := by
    cases e : getM q m with
    | none => rfl
    | some x =>
      obtain ⟨r1, h1, _⟩ := h.snd _ _ (getM_mem e)
      exact absurd h1 (hq r1)
  rw [putM_keys_new hg]
  refine ⟨?_, fun q' r' hm => ?_, fun q' r' hm => ?_⟩
  · rw [List.map_append, List.nodup_append]
    refine ⟨h.nd, by simp, fun x hx y hy e => ?_⟩
    simp at hy
    exact getM_none hg (by rw [← hy, ← e]; exact hx)
  · rcases List.mem_append.1 hm with hm | hm
    · obtain ⟨r1, h1, h2⟩ := h.snd _ _ hm
      exact ⟨r1, List.mem_cons_of_mem _ h1, h2⟩
    · simp at hm
      obtain ⟨rfl, rfl⟩ := hm
      exact ⟨r0, by simp, rfl⟩
  · rcases List.mem_cons.1 hm with e | hm
    · cases e; simp
    · exact List.mem_append.2 (.inl (h.cpl _ _ hm))
theorem GrpInv.hard {W : Nat} {a : Dt} {ind : Nat} {p : Pl} {done ma m : List (Pl × Rs)} (h : GrpInv done m) (ha : IsBest W a ind p ma) (h1 : ∀ x ∈ ma, x ∈ done) (h2 : ∀ x ∈ done, x ∈ ma) (hh : hasHard a = true) : IsBest W (.group a) ind p m := by
  refine ⟨h.nd, fun q r hm => ?_, fun l hl => ?_⟩
  · obtain ⟨r0, h3, rfl⟩ := h.snd _ _ hm
    obtain ⟨x, hx, rfl, hp⟩ := ha.snd _ _ (h2 _ h3)
    exact ⟨false :: x, by simp [nrm, hx], rfl, hp⟩
  · simp only [nrm, hh, if_true, List.nil_append, List.mem_map] at hl
    obtain ⟨x, hx, rfl⟩ := hl
    obtain ⟨r, hr, hle⟩ := ha.cpl x hx
    exact ⟨preR r, h.cpl _ _ (h1 _ hr), preR_le hle⟩
theorem GrpInv.soft {W : Nat} {a : Dt} {ind : Nat} {p : Pl} {done ma m : List (Pl × Rs)} (h : GrpInv done m) (ha : IsBest W a ind p ma) (h1 : ∀ x ∈ ma, x ∈ done) (h2 : ∀ x ∈ done, x ∈ ma) (hh : hasHard a = false) :
    IsBest W (.group a) ind p (kpM (flatP W a p).1 ⟨(flatP W a p).2, 0, List.replicate (ng a + 1) true⟩ m) := by
  refine ⟨kpM_nodup h.nd, fun q r hm => ?_, fun l hl => ?_⟩
  · rcases kpM_sub hm with ⟨rfl, rfl⟩ | hm
    · exact ⟨List.replicate (ng a + 1) true, by simp [nrm, hh], rfl, rfl⟩
    · obtain ⟨r0, h3, rfl⟩ := h.snd _ _ hm
      obtain ⟨x, hx, rfl, hp⟩ := ha.snd _ _ (h2 _ h3)
      exact ⟨false :: x, by simp [nrm, hx], rfl, hp⟩
  · simp only [nrm, hh, List.mem_append, List.mem_map] at hl
    rcases hl with hl | ⟨x, hx, rfl⟩
    · simp at hl
      subst hl
      exact kpM_new m
    · obtain ⟨r, hr, hle⟩ := ha.cpl x hx
      obtain ⟨y, hy, hle2⟩ := kpM_old (a := (flatP W a p).1) (r := ⟨(flatP W a p).2, 0, List.replicate (ng a + 1) true⟩) h.nd (h.cpl _ _ (h1 _ hr))
      exact ⟨y, hy, leR_trans hle2 (preR_le hle)⟩
end Go.Proofs.Ytbkadgdhmfolaaa
