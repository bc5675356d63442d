/-
  What PSourceIncludes rests on, part 5: the texts of this work, without what it does not use; printed by a program (wip/shake.py).
  Conditions: none.
-/
import Derived.Test.YtedopgkbajhanaaGreatDoorQPSourceIncludesd
namespace Go.Proofs.YtedopgkbajhanaaGreatDoor
section
section
open Go Go.RowKit

/-! ### Segments that follow one another -/
def ChG : Nat → List Sg → Nat → Prop
  | a, [], b => a = b
  | a, s :: l, b => s.f = a ∧ ChG s.t l b
theorem ChG.snoc {x : Sg} : ∀ {l : List Sg} {a b : Nat}, ChG a (l ++ [x]) b ↔ ChG a l x.f ∧ x.t = b
  | [], a, b => by simp only [List.nil_append, ChG]; exact ⟨fun h => ⟨h.1.symm, h.2⟩, fun h => ⟨h.1.symm, h.2⟩⟩
  | s :: l, a, b => by
    simp only [List.cons_append, ChG]
    rw [ChG.snoc (l := l)]
    exact ⟨fun h => ⟨⟨h.1, h.2.1⟩, h.2.2⟩, fun h => ⟨h.1.1, h.1.2, h.2⟩⟩
/-- A segment is a run of whole lines of a file. -/
structure SgOk (fs : List (List Nat × List Nat)) (tx : List Nat) (s : Sg) : Prop where
  ft : s.f < s.t
  tl : s.t ≤ tx.length
  nl : tx[s.t - 1]? = some 10
  src : ∃ x, fs[s.fl]? = some x ∧ s.at_ + (s.t - s.f) ≤ x.2.length ∧ (x.2.drop s.at_).take (s.t - s.f) = (tx.take s.t).drop s.f
theorem SgOk.app {fs : List (List Nat × List Nat)} {tx : List Nat} {s : Sg} (h : SgOk fs tx s) (l : List Nat) : SgOk fs (tx ++ l) s := by
  obtain ⟨h1, h2, h3, x, h4, h5, h6⟩ := h
  refine ⟨h1, by rw [List.length_append]; omega, by rw [List.getElem?_append_left (by omega)]; exact h3, x, h4, h5, ?_⟩
  rw [List.take_append_of_le_length h2]; exact h6
structure GInv (fs : List (List Nat × List Nat)) (g : Gs) : Prop where
  ch : ChG 0 g.sg g.tx.length
  ok : ∀ s ∈ g.sg, SgOk fs g.tx s
theorem GInv.fr {fs : List (List Nat × List Nat)} {g : Gs} (h : GInv fs g) (b : Bool) : GInv fs { g with fr := b } := ⟨h.ch, h.ok⟩
/-- The open segment ends where the reading is. -/
def CurG (n p : Nat) (k : BF) (g : Gs) : Prop := g.fr = false → ∃ l x, g.sg = l ++ [x] ∧ x.fl = n ∧ x.at_ + (x.t - x.f) = p ∧ x.o = k
theorem add_inv {fs : List (List Nat × List Nat)} {n p : Nat} {k : BF} {g g' : Gs} {s : List Nat} (h : GInv fs g) (hc : CurG n p k g) {x : List Nat × List Nat} (hx : fs[n]? = some x) (hs : x.2.drop p = s ++ x.2.drop (p + s.length)) (hp : p + s.length ≤ x.2.length) (hl : s.getLast? = some 10)
    (ha : addG s n p k g = some g') : GInv fs g' ∧ CurG n (p + s.length) k g' := by
  unfold addG at ha
  split at ha
  · cases ha
  cases ha
  have hs0 : 0 < s.length := by
    cases s with
    | nil => cases hl
    | cons _ _ => simp
  have hnl : (g.tx ++ s)[g.tx.length + s.length - 1]? = some 10 := by
    rw [List.getElem?_append_right (by omega), show g.tx.length + s.length - 1 - g.tx.length = s.length - 1 by omega, ← List.getLast?_eq_getElem?]; exact hl
  cases hf : g.fr with
  | true =>
    rw [if_pos rfl, setTo_snoc]
    refine ⟨⟨?_, fun y hy => ?_⟩, fun _ => ⟨_, _, rfl, rfl, ?_, rfl⟩⟩
    · simp only
      rw [ChG.snoc]
      exact ⟨h.ch, by simp⟩
    · simp only [List.mem_append, List.mem_singleton] at hy
      rcases hy with hy | rfl
      · exact (h.ok y hy).app s
      · refine ⟨by simp only; omega, by simp, hnl, x, hx, by simp only; omega, ?_⟩
        simp only
        rw [show g.tx.length + s.length - g.tx.length = s.length by omega, hs, List.take_left, List.take_of_length_le (by simp), List.drop_left]
    · simp only; omega
  | false =>
    rw [if_neg (by decide)]
    obtain ⟨l, y, e, e1, e2, e3⟩ := hc hf
    have hch := h.ch
    have hok := h.ok
    rw [e] at hch hok
    rw [ChG.snoc] at hch
    obtain ⟨q1, q2, q3, z, q4, q5, q6⟩ := hok y (by simp)
    rw [e, setTo_snoc]
    have hz : z = x := by rw [e1, hx] at q4; exact (Option.some.inj q4).symm
    subst hz
    refine ⟨⟨?_, fun u hu => ?_⟩, fun _ => ⟨_, _, rfl, e1, ?_, e3⟩⟩
    · simp only
      rw [ChG.snoc]
      exact ⟨hch.1, by simp⟩
    · simp only [List.mem_append, List.mem_singleton] at hu
      rcases hu with hu | rfl
      · exact (hok u (by simp [hu])).app s
      · refine ⟨by simp only; omega, by simp, hnl, z, q4, by simp only; omega, ?_⟩
        simp only
        rw [show g.tx.length + s.length - y.f = (y.t - y.f) + s.length by omega, List.take_of_length_le (l := g.tx ++ s) (by simp), List.drop_append_of_le_length (by omega)]
        rw [List.take_add, List.drop_drop, e2, hs, List.take_left, q6, hch.2, List.take_length]
    · simp only; omega

theorem rdL_inv {nm : List (List Nat)} {fs : List (List Nat × List Nat)} {n d0 : Nat} {inc : IncF} {x : List Nat × List Nat} (hx : fs[n]? = some x)
    (hi : ∀ r ln d k g g', inc r ln d k g = .ok g' → GInv fs g → GInv fs g') : ∀ (ls : List (List Nat)) (ln at_ : Nat) (k : BF) (op : List Se) (g g' : Gs),
    x.2.drop at_ = unl ls → at_ ≤ x.2.length → GInv fs g → CurG n at_ k g → rdL nm n d0 inc ls ln at_ k op g = .ok g' → GInv fs g' ∧ g'.fr = true
  | [], ln, at_, k, op, g, g', _, _, hg, _, hr => by
    cases op with
    | nil => simp only [rdL, Except.ok.injEq] at hr; subst hr; exact ⟨hg.fr true, rfl⟩
    | cons _ _ => simp [rdL] at hr
  | s :: ls, ln, at_, k, op, g, g', hd, hat, hg, hc, hr => by
    have hl1 : x.2.drop at_ = (s ++ [10]) ++ unl ls := by rw [hd, unl_cons]; simp
    have hL : (s ++ [10]).length = s.length + 1 := by simp
    have hlen : x.2.length - at_ = s.length + 1 + (unl ls).length := by
      have := congrArg List.length hl1
      simp only [List.length_drop, List.length_append, List.length_cons, List.length_nil] at this
      omega
    have hd2 : x.2.drop (at_ + s.length + 1) = unl ls := by
      rw [show at_ + s.length + 1 = at_ + (s ++ [10]).length by simp; omega, ← List.drop_drop, hl1, List.drop_left]
    have ih := fun k op g g' h1 h2 h3 => rdL_inv (nm := nm) (d0 := d0) hx hi ls (ln + 1) (at_ + s.length + 1) k op g g' hd2 (by omega) h1 h2 h3
    have cf : ∀ k' (g : Gs), CurG n (at_ + s.length + 1) k' { g with fr := true } := fun k' g h => by cases h
    rw [rdL.eq_def] at hr; simp only at hr
    cases hdir : dirOf s with
    | txt =>
      rw [hdir] at hr
      simp only at hr
      cases ha : addG (s ++ [10]) n at_ k g with
      | none => rw [ha] at hr; cases hr
      | some g1 =>
        rw [ha] at hr
        simp only at hr
        obtain ⟨i1, i2⟩ := add_inv hg hc hx (by rw [hL, ← Nat.add_assoc, hd2]; exact hl1) (by rw [hL]; omega) (by simp) ha
        exact ih k op g1 g' i1 (by rw [hL, ← Nat.add_assoc] at i2; exact i2) hr
    | ifd r =>
      rw [hdir] at hr
      simp only at hr
      cases hs : setE nm r with
      | error e => rw [hs] at hr; cases hr
      | ok d =>
        rw [hs] at hr
        simp only at hr
        split at hr
        · cases hr
        · exact ih _ _ _ _ (hg.fr true) (cf _ _) hr
    | inc r =>
      rw [hdir] at hr
      simp only at hr
      cases hs : inc r (ln + 1) (d0 + op.length) k g with
      | error e => rw [hs] at hr; cases hr
      | ok g1 =>
        rw [hs] at hr
        exact ih _ _ _ _ ((hi _ _ _ _ _ _ hs hg).fr true) (cf _ _) hr
    | elif r =>
      rw [hdir] at hr
      cases op with
      | nil => cases hr
      | cons y op =>
        simp only at hr
        split at hr
        · cases hr
        · cases hs : setE nm r with
          | error e => rw [hs] at hr; cases hr
          | ok d => rw [hs] at hr; exact ih _ _ _ _ (hg.fr true) (cf _ _) hr
    | els =>
      rw [hdir] at hr
      cases op with
      | nil => cases hr
      | cons y op =>
        simp only at hr
        split at hr
        · cases hr
        · exact ih _ _ _ _ (hg.fr true) (cf _ _) hr
    | en =>
      rw [hdir] at hr
      cases op with
      | nil => cases hr
      | cons y op => exact ih _ _ _ _ (hg.fr true) (cf _ _) hr
theorem rdF_inv {nm : List (List Nat)} {fs : List (List Nat × List Nat)} (hf : ∀ x ∈ fs, TextOk x.2) : ∀ (f : Nat) (rd : List Nat) (d n : Nat) (k : BF) (g g' : Gs), n < fs.length → GInv fs g → rdF nm fs f rd d n k g = .ok g' → GInv fs g' ∧ g'.fr = true
  | 0, _, _, _, _, _, _, _, _, hr => by cases hr
  | f + 1, rd, d, n, k, g, g', hn, hg, hr => by
    have hx : fs[n]? = some fs[n] := List.getElem?_eq_getElem hn
    rw [rdF, hx] at hr
    simp only [Option.map_some, Option.getD_some] at hr
    refine rdL_inv hx ?_ (linesOf fs[n].2) 0 0 k [] { g with fr := true } g' (by rw [List.drop_zero, unl_linesOf (hf _ (List.getElem_mem hn))]) (Nat.zero_le _) (hg.fr true) (fun h => by cases h) hr
    intro r ln d' k' g1 g2 hi hg1
    cases he : incE (ixN (fs.map (·.1))) (n :: rd) r with
    | error e => rw [he] at hi; cases hi
    | ok m =>
      rw [he] at hi
      simp only at hi
      split at hi
      · cases hi
      · have hm : m < fs.length := by
          obtain ⟨_, tn, htn⟩ := incE_ok he
          have := ixN_lt htn
          simpa using this
        exact (rdF_inv hf f _ _ m _ g1 g2 hm hg1 hi).1
theorem readE_inv {nm : List (List Nat)} {fs : List (List Nat × List Nat)} {root : List Nat} {g : Gs} (hr : readE nm fs root = .ok g) : GInv fs g ∧ fs.length ≤ 256 ∧ ∀ x ∈ fs, x.2.length ≤ 1048576 := by
  unfold readE at hr
  split at hr
  · cases hr
  cases hfe : filesE fs with
  | some p => rw [hfe] at hr; cases hr
  | none =>
    rw [hfe] at hr
    simp only at hr
    have h256 : fs.length ≤ 256 := by
      unfold filesE at hfe
      split at hfe
      · cases hfe
      · omega
    have hall : ∀ x ∈ fs, fnameOk x.1 = true ∧ textB x.2 = true ∧ x.2.length ≤ 1048576 := by
      unfold filesE at hfe
      rw [if_neg (by omega)] at hfe
      exact chkFs_ok fs [] 0 hfe
    cases hix : ixN (fs.map (·.1)) root with
    | none => rw [hix] at hr; cases hr
    | some n =>
      rw [hix] at hr
      simp only at hr
      have hn : n < fs.length := by have := ixN_lt hix; simpa using this
      exact ⟨(rdF_inv (fun x hx => textB_ok (hall x hx).2.1) 65 [] 0 n _ _ g hn (⟨rfl, fun s hs => by cases hs⟩ : GInv fs ⟨[], [], false⟩) hr).1, h256, fun x hx => (hall x hx).2.2⟩
end

section
open Go Go.RowKit

/-! ### What was read, as segments -/
def mkX (s : Sg) (x : DV) : Sx := ⟨s.f, s.t, s.fl, s.at_, x⟩
def toX (s : Sg) : Sx := ⟨s.f, s.t, s.fl, s.at_, ⟨none, 0, 0, [], 0⟩⟩
def AllS (k : Nat) : List Sg → List Sx → Prop
  | [], [] => True
  | s :: l, y :: m => (y.f = s.f ∧ y.t = s.t ∧ y.fl = s.fl ∧ y.at_ = s.at_ ∧ Set1 k y.x.nd y.x.r s.o) ∧ AllS k l m
  | _, _ => False
theorem AllS.len {k : Nat} : ∀ {l : List Sg} {m : List Sx}, AllS k l m → l.length = m.length
  | [], [], _ => rfl
  | _ :: _, _ :: _, h => by simp [AllS.len h.2]
theorem AllS.get {k : Nat} : ∀ {l : List Sg} {m : List Sx} {i : Nat} {s : Sg} {y : Sx}, AllS k l m → l[i]? = some s → m[i]? = some y → y.f = s.f ∧ y.t = s.t ∧ y.fl = s.fl ∧ y.at_ = s.at_ ∧ Set1 k y.x.nd y.x.r s.o
  | _ :: _, _ :: _, 0, _, _, h, h1, h2 => by cases h1; cases h2; exact h.1
  | _ :: _, _ :: _, i + 1, _, _, h, h1, h2 => AllS.get (i := i) h.2 (by simpa using h1) (by simpa using h2)
theorem src_in {w : World} {k : Nat} {A : Option Addr} {n c : Nat} {sg : List Sg} {L : List DV} (h : SgIn w k A n c sg L) : ∃ M, SX w A n c M ∧ AllS k sg M := by
  have key : ∀ (sg : List Sg) (L : List DV), L.length = sg.length → (∀ (j : Nat) (s : Sg) (x : DV), sg[j]? = some s → L[j]? = some x → SB w x.A x.n x.c x.nd ∧ Set1 k x.nd x.r s.o) →
      ∃ M : List Sx, M.flatMap Sx.cells = sgV sg L ∧ M.length = sg.length ∧ (∀ y ∈ M, SB w y.x.A y.x.n y.x.c y.x.nd) ∧ AllS k sg M := by
    intro sg
    induction sg with
    | nil =>
      intro L hl _
      have : L = [] := List.eq_nil_of_length_eq_zero hl
      subst this
      exact ⟨[], rfl, rfl, (fun y hy => by cases hy), ⟨⟩⟩
    | cons s sg ih =>
      intro L hl hd
      cases L with
      | nil => cases hl
      | cons x L =>
        obtain ⟨M, h1, h2, h3, h4⟩ := ih L (by simpa using hl) (fun j s x h1 h2 => hd (j + 1) s x (by simpa using h1) (by simpa using h2))
        obtain ⟨d1, d2⟩ := hd 0 s x rfl rfl
        refine ⟨mkX s x :: M, ?_, by simp [h2], ?_, ⟨⟨rfl, rfl, rfl, rfl, d2⟩, h4⟩⟩
        · rw [List.flatMap_cons, h1]; rfl
        · intro y hy
          rcases List.mem_cons.1 hy with rfl | hy
          · exact d1
          · exact h3 y hy
  obtain ⟨M, h1, h2, h3, h4⟩ := key sg L h.len h.dg
  exact ⟨M, ⟨⟨by rw [h1]; exact h.sl, by rw [h2]; exact h.n⟩, h3⟩, h4⟩
theorem chk_read {k : Nat} (hk : k ≤ 12) {fs : List (List Nat × List Nat)} {tx : List Nat} (hft : ∀ x ∈ fs, x.2.length ≤ 1048576) : ∀ {sg : List Sg} {M : List Sx} {a : Nat}, AllS k sg M → ChG a sg tx.length → (∀ s ∈ sg, SgOk fs tx s) → chkL tx a M
  | [], [], a, _, h, _ => by have : a = tx.length := h; subst this; rfl
  | s :: sg, y :: M, a, h, hc, hs => by
    obtain ⟨⟨e1, e2, e3, e4, e5⟩, hr⟩ := h
    obtain ⟨q1, q2, q3, x, q4, q5, q6⟩ := hs s (by simp)
    have hx := hft x (List.mem_of_getElem? q4)
    have hcf : s.f = a := hc.1
    refine ⟨⟨by omega, by omega, by omega, ?_, e5.chk hk, by omega, by omega, by omega⟩, ?_⟩
    · rw [show (y.t - 1).toNat = s.t - 1 by omega]; exact q3
    · rw [e2]; exact chk_read hk hft hr hc.2 (fun z hz => hs z (by simp [hz]))
theorem chkS_read {k : Nat} (hk : k ≤ 12) {nm : List (List Nat)} {fs : List (List Nat × List Nat)} {root : List Nat} {g : Gs} {M : List Sx} (hr : readE nm fs root = .ok g) (hg : GsOk g) (hM : AllS k g.sg M) : chkS g.tx M = 0 := by
  obtain ⟨h1, h2, h3⟩ := readE_inv hr
  exact chkS_zero.2 ⟨hg.tl, by rw [← hM.len]; exact hg.sl, chk_read hk h3 hM h1.ch h1.ok⟩

def onG (e : Nat → Bool) (sg : List Sg) : List Sg := sg.filter (fun s => s.o e)
def pieceG (tx : List Nat) (s : Sg) : List Nat := (tx.take s.t).drop s.f
def selG (tx : List Nat) (sg : List Sg) (e : Nat → Bool) : List Nat := (onG e sg).flatMap (pieceG tx)
def LikeS : List Sg → List Sx → Prop
  | [], [] => True
  | s :: l, y :: m => (y.f = s.f ∧ y.t = s.t ∧ y.fl = s.fl ∧ y.at_ = s.at_) ∧ LikeS l m
  | _, _ => False
theorem AllS.like {k : Nat} : ∀ {l : List Sg} {m : List Sx}, AllS k l m → LikeS l m
  | [], [], _ => ⟨⟩
  | _ :: _, _ :: _, ⟨⟨h1, h2, h3, h4, _⟩, h⟩ => ⟨⟨h1, h2, h3, h4⟩, h.like⟩
theorem AllS.on {k : Nat} (c : Nat) : ∀ {l : List Sg} {m : List Sx}, AllS k l m → LikeS (onG (bitE c) l) (selL c m)
  | [], [], _ => ⟨⟩
  | s :: l, y :: m, ⟨⟨h1, h2, h3, h4, h5⟩, h⟩ => by
    have ih := h.on c
    unfold onG selL at ih ⊢
    rw [List.filter_cons, List.filter_cons]
    have e : inS c y = s.o (bitE c) := h5.mean _
    rw [e]
    split
    · exact ⟨⟨h1, h2, h3, h4⟩, ih⟩
    · exact ih
theorem like_pieces {tx : List Nat} : ∀ {l : List Sg} {m : List Sx}, LikeS l m → m.flatMap (pieceS tx) = l.flatMap (pieceG tx)
  | [], [], _ => rfl
  | s :: l, y :: m, ⟨⟨h1, h2, _, _⟩, h⟩ => by
    rw [List.flatMap_cons, List.flatMap_cons, like_pieces h]
    unfold pieceS pieceG
    rw [h1, h2]; rfl
theorem like_loc {tl at_ : Int} : ∀ {l : List Sg} {m : List Sx} {n : Int}, LikeS l m → locL tl at_ n m = locL tl at_ n (l.map toX)
  | [], [], _, _ => rfl
  | s :: l, y :: m, n, ⟨⟨h1, h2, _, _⟩, h⟩ => by
    rw [List.map_cons, locL, locL, like_loc h, h1, h2]; rfl
theorem like_glb {tl : Int} : ∀ {l : List Sg} {m : List Sx} {at_ : Int}, LikeS l m → glbL tl at_ m = glbL tl at_ (l.map toX)
  | [], [], _, _ => rfl
  | s :: l, y :: m, n, ⟨⟨h1, h2, _, _⟩, h⟩ => by
    rw [List.map_cons, glbL, glbL, like_glb h, h1, h2]; rfl
theorem like_ori {at_ : Int} : ∀ {l : List Sg} {m : List Sx}, LikeS l m → oriL at_ m = oriL at_ (l.map toX)
  | [], [], _ => rfl
  | s :: l, y :: m, ⟨⟨h1, h2, h3, h4⟩, h⟩ => by
    rw [List.map_cons, oriL, oriL, like_ori h, h1, h2, h3, h4]; rfl
/-- Two sets over k conditions have a common configuration. -/
def bothG (k : Nat) (o o' : BF) : Bool := (List.range (2 ^ k)).any (fun c => o (bitE c) && o' (bitE c))
theorem bits_of (e : Nat → Bool) : ∀ k, ∃ c, c < 2 ^ k ∧ ∀ i, i < k → bitE c i = e i
  | 0 => ⟨0, by decide, fun i hi => by omega⟩
  | k + 1 => by
    obtain ⟨c, h1, h2⟩ := bits_of e k
    have hp : 2 ^ (k + 1) = 2 ^ k * 2 := Nat.pow_succ 2 k
    cases hk : e k with
    | false =>
      refine ⟨c, by omega, fun i hi => ?_⟩
      by_cases hik : i = k
      · subst hik; rw [hk]; unfold bitE; rw [Nat.div_eq_of_lt h1]; rfl
      · exact h2 i (by omega)
    | true =>
      refine ⟨c + 2 ^ k, by omega, fun i hi => ?_⟩
      by_cases hik : i = k
      · subst hik; rw [hk]; unfold bitE
        rw [Nat.add_div_right _ (Nat.pow_pos (by decide)), Nat.div_eq_of_lt h1]; rfl
      · rw [← h2 i (by omega)]
        unfold bitE
        congr 1
        have e1 : 2 ^ k = 2 ^ i * (2 * 2 ^ (k - i - 1)) := by
          rw [← Nat.mul_assoc, ← Nat.pow_succ, ← Nat.pow_add]; congr 1; omega
        rw [e1, Nat.add_mul_div_left _ _ (Nat.pow_pos (by decide)), Nat.add_mul_mod_self_left]
theorem meets_both {k : Nat} {a b : List Br} {ra rb : Int} {o o' : BF} (h : Set1 k a ra o) (h' : Set1 k b rb o') : Meets a ra b rb ↔ bothG k o o' = true := by
  unfold bothG
  rw [List.any_eq_true]
  constructor
  · rintro ⟨e, e1, e2⟩
    obtain ⟨c, hc, hb⟩ := bits_of e k
    refine ⟨c, List.mem_range.2 hc, ?_⟩
    rw [h.ext hb, h'.ext hb, ← h.mean, ← h'.mean, e1, e2]; rfl
  · rintro ⟨c, _, hc⟩
    rw [Bool.and_eq_true] at hc
    exact ⟨bitE c, by rw [h.mean]; exact hc.1, by rw [h'.mean]; exact hc.2⟩
def deadG (k : Nat) (o' : BF) : Nat → List Sg → List Nat
  | _, [] => []
  | i, s :: l => if bothG k s.o o' then deadG k o' (i + 1) l else i :: deadG k o' (i + 1) l
theorem dis_both {k : Nat} (hk : k ≤ 12) {a b : List Br} {ra rb : Int} {o o' : BF} (h : Set1 k a ra o) (h' : Set1 k b rb o') : disP a ra b rb = !bothG k o o' := by
  cases hb : bothG k o o' with
  | true => rw [disP_f (fun hh => hh.2.2 ((meets_both h h').2 hb))]; rfl
  | false => rw [disP_t ⟨h.chk hk, h'.chk hk, fun hh => by rw [(meets_both h h').1 hh] at hb; cases hb⟩]; rfl
theorem dead_read {k : Nat} (hk : k ≤ 12) {b : List Br} {rb : Int} {o' : BF} (h' : Set1 k b rb o') : ∀ {l : List Sg} {m : List Sx} {i : Nat}, AllS k l m → deadL b rb i m = deadG k o' i l
  | [], [], _, _ => rfl
  | s :: l, y :: m, i, ⟨⟨_, _, _, _, h⟩, hr⟩ => by
    rw [deadL, deadG, dis_both hk h h', dead_read hk h' hr]
    cases bothG k s.o o' <;> rfl

/-! ### Contracts on what was read -/
structure SrcIn (w : World) (k : Nat) (A : Option Addr) (c : Nat) (g : Gs) : Prop where
  ok : GsOk g
  kl : k ≤ 12
  ex : ∃ M, SX w A g.sg.length c M ∧ AllS k g.sg M ∧ chkS g.tx M = 0
theorem SrcIn.ext {w w' : World} {k : Nat} {A : Option Addr} {c : Nat} {g : Gs} (h : SrcIn w k A c g) (hE : Ext w w') : SrcIn w' k A c g := ⟨h.ok, h.kl, let ⟨M, h1, h2, h3⟩ := h.ex; ⟨M, h1.ext hE, h2, h3⟩⟩
theorem srcIn_read {k : Nat} (hk : k ≤ 12) {nm : List (List Nat)} {fs : List (List Nat × List Nat)} {root : List Nat} {g : Gs} (hr : readE nm fs root = .ok g) {w : World} {A : Option Addr} {c : Nat} {L : List DV} (hg : GsOk g) (h : SgIn w k A g.sg.length c g.sg L) : SrcIn w k A c g := by
  obtain ⟨M, h1, h2⟩ := src_in h
  exact ⟨hg, hk, M, h1, h2, chkS_read hk hr hg h2⟩
section
variable {w : World} {k : Nat} {A : Option Addr} {c : Nat} {g : Gs}
theorem rchk_fn (h : SrcIn w k A c g) : Fn Tryz.prog 27 [srcV g.tx A g.sg.length c] w (fun u w' => u = .int .i64 0 ∧ Ext w w') := by
  obtain ⟨M, h1, h2, h3⟩ := h.ex
  refine (scheck_fn g.tx A _ c M w h1 h.ok.b8).mono ?_
  rintro u w' ⟨rfl, hE⟩
  exact ⟨by rw [h3], hE⟩
theorem rsel_fn (h : SrcIn w k A c g) (x : Nat) (hx : x ≤ 18446744073709551615) : Fn Tryz.prog 29 [srcV g.tx A g.sg.length c, .int .u64 x] w (fun u w' => u = .string (strOf (selG g.tx g.sg (bitE x))) ∧ Ext w w') := by
  obtain ⟨M, h1, h2, h3⟩ := h.ex
  refine (sselect_fn g.tx A _ c M x w h1 hx h.ok.b8).mono ?_
  rintro u w' ⟨rfl, hE⟩
  exact ⟨by unfold selP selG; rw [if_pos h3, like_pieces (h2.on x)], hE⟩
def locG (g : Gs) (x : Nat) (at_ : Int) : Int × Bool := locL g.tx.length at_ 0 ((onG (bitE x) g.sg).map toX)
def glbG (g : Gs) (x : Nat) (at_ : Int) : Int × Bool := if 0 ≤ at_ then glbL g.tx.length at_ ((onG (bitE x) g.sg).map toX) else (0, false)
def oriG (g : Gs) (at_ : Int) : Int × Int × Bool := if 0 ≤ at_ ∧ at_ < g.tx.length then oriL at_ (g.sg.map toX) else (0, 0, false)
theorem rloc_fn (h : SrcIn w k A c g) (x : Nat) (hx : x ≤ 18446744073709551615) (at_ : Int) : Fn Tryz.prog 19 [srcV g.tx A g.sg.length c, .int .u64 x, .int .i64 at_] w (fun u w' => u = .tuple #[.int .i64 (locG g x at_).1, .bool (locG g x at_).2] ∧ Ext w w') := by
  obtain ⟨M, h1, h2, h3⟩ := h.ex
  refine (slocal_fn g.tx A _ c M x at_ w h1 hx h.ok.b8).mono ?_
  rintro u w' ⟨rfl, hE⟩
  have e : locP g.tx M x at_ = locG g x at_ := by unfold locP locG; rw [if_pos h3, like_loc (h2.on x)]
  exact ⟨by rw [e], hE⟩
theorem rglb_fn (h : SrcIn w k A c g) (x : Nat) (hx : x ≤ 18446744073709551615) (at_ : Int) (ha : at_ ≤ 9223372036854775807) : Fn Tryz.prog 21 [srcV g.tx A g.sg.length c, .int .u64 x, .int .i64 at_] w (fun u w' => u = .tuple #[.int .i64 (glbG g x at_).1, .bool (glbG g x at_).2] ∧ Ext w w') := by
  obtain ⟨M, h1, h2, h3⟩ := h.ex
  refine (sglobal_fn g.tx A _ c M x at_ w h1 hx h.ok.b8 ha).mono ?_
  rintro u w' ⟨rfl, hE⟩
  have e : glbP g.tx M x at_ = glbG g x at_ := by
    unfold glbP glbG
    by_cases h0 : 0 ≤ at_
    · rw [if_pos ⟨h3, h0⟩, if_pos h0, like_glb (h2.on x)]
    · rw [if_neg (fun hh => h0 hh.2), if_neg h0]
  exact ⟨by rw [e], hE⟩
theorem rori_fn (h : SrcIn w k A c g) (at_ : Int) : Fn Tryz.prog 23 [srcV g.tx A g.sg.length c, .int .i64 at_] w (fun u w' => u = .tuple #[.int .i64 (oriG g at_).1, .int .i64 (oriG g at_).2.1, .bool (oriG g at_).2.2] ∧ Ext w w') := by
  obtain ⟨M, h1, h2, h3⟩ := h.ex
  refine (sorigin_fn g.tx A _ c M at_ w h1 h.ok.b8).mono ?_
  rintro u w' ⟨rfl, hE⟩
  have e : oriP g.tx M at_ = oriG g at_ := by
    unfold oriP oriG
    by_cases h0 : 0 ≤ at_ ∧ at_ < g.tx.length
    · rw [if_pos ⟨h3, h0⟩, if_pos h0, like_ori h2.like]
    · rw [if_neg (fun hh => h0 hh.2), if_neg h0]
  exact ⟨by rw [e], hE⟩
theorem rdead_fn (h : SrcIn w k A c g) {B : Option Addr} {m d : Nat} {b : List Br} {rb : Int} {o' : BF} (hb : SB w B m d b) (hs : Set1 k b rb o') : Fn Tryz.prog 25 [srcV g.tx A g.sg.length c, dgV B m d rb] w (fun u w' => ∃ O oc, u = .tuple #[.slice O (deadG k o' 0 g.sg).length oc, .int .i64 0] ∧ Ext w w' ∧ Sl w' 1 O (deadG k o' 0 g.sg).length oc (ixV (deadG k o' 0 g.sg))) := by
  obtain ⟨M, h1, h2, h3⟩ := h.ex
  refine (sdead_fn g.tx A _ c M B m d b rb w h1 hb h.ok.b8).mono ?_
  rintro u w' ⟨O, oc, rfl, hE, hO⟩
  have e : deadP g.tx M b rb = (deadG k o' 0 g.sg, 0) := by unfold deadP; rw [if_neg (fun hh => hh h3), if_neg (fun hh => hh (hs.chk h.kl)), dead_read h.kl hs h2]
  rw [e] at hO ⊢
  exact ⟨O, oc, rfl, hE, hO⟩
end

/-! ### Numbers do not lie among texts -/
theorem Sl.sep {w : World} {sz n c g t : Nat} {A : Option Addr} {cs l : List Value} {x : Int} (h : Sl w sz A n c cs) (h0 : cs[0]? = some (.int .i64 x)) (hB : Blk w g t l) (hl : ∀ v ∈ l, ∃ s, v = .string s) : 0 < n → ∀ i, rowS A i → ¬ i = g := fun hn i hi e => by
  obtain ⟨ad, rfl, hc⟩ := h.at_ hn
  obtain ⟨ad', e', rfl⟩ := hi
  cases e'
  have h1 := hc 0 _ h0
  unfold World.cell? at h1
  rw [block_add, e, show w.heap[g]? = _ from hB] at h1
  simp only at h1
  split at h1
  · cases h1
  · rw [List.getElem?_toArray] at h1
    obtain ⟨s, hs⟩ := hl _ (List.mem_of_getElem? h1)
    cases hs
theorem SB.modT {w w' : World} {A : Option Addr} {n c g t : Nat} {nd : List Br} {l : List Value} (h : SB w A n c nd) (hB : Blk w g t l) (hl : ∀ v ∈ l, ∃ s, v = .string s) (hm : Mod (· = g) w w') : SB w' A n c nd := by
  refine ⟨h.1.modS hm (fun hn i hi => ?_), h.2⟩
  cases nd with
  | nil => have := h.2; simp at this; omega
  | cons b nd => exact h.1.sep (x := b.v) (by simp [Br.cells]) hB hl hn i hi
theorem SX.modT {w w' : World} {A : Option Addr} {n c g t : Nat} {L : List Sx} {l : List Value} (h : SX w A n c L) (hB : Blk w g t l) (hl : ∀ v ∈ l, ∃ s, v = .string s) (hm : Mod (· = g) w w') : SX w' A n c L := by
  refine ⟨⟨h.sl.1.modS hm (fun hn i hi => ?_), h.sl.2⟩, fun y hy => (h.dg y hy).modT hB hl hm⟩
  cases L with
  | nil => have := h.sl.2; simp at this; omega
  | cons y L => exact h.sl.1.sep (x := y.f) (by simp [Sx.cells]) hB hl hn i hi
theorem SrcIn.modT {w w' : World} {k : Nat} {A : Option Addr} {c gg t : Nat} {g : Gs} {l : List Value} (h : SrcIn w k A c g) (hB : Blk w gg t l) (hl : ∀ v ∈ l, ∃ s, v = .string s) (hm : Mod (· = gg) w w') : SrcIn w' k A c g :=
  ⟨h.ok, h.kl, let ⟨M, h1, h2, h3⟩ := h.ex; ⟨M, h1.modT hB hl hm, h2, h3⟩⟩
end

section
open Go Go.RowKit

def sanM : List Nat := [111, 110, 101, 10, 35, 105, 102, 32, 65, 32, 38, 38, 32, 33, 66, 10, 116, 119, 111, 10, 35, 101, 108, 105, 102, 32, 66, 10, 35, 105, 110, 99, 108, 117, 100, 101, 32, 34, 110, 34, 10, 35, 101, 108, 115, 101, 10, 102, 111, 117, 114, 10, 35, 101, 110, 100, 10, 102, 105, 118, 101, 10]
def sanN : List Nat := [116, 104, 114, 101, 101, 10]
def sanT : List Nat := [111, 110, 101, 10, 116, 119, 111, 10, 116, 104, 114, 101, 101, 10, 102, 111, 117, 114, 10, 102, 105, 118, 101, 10]
def sanNm : List (List Nat) := [[65], [66]]
def sanF : List (List Nat × List Nat) := [([109], sanM), ([110], sanN)]
def sanR : Except Pl Gs := readE sanNm sanF [109]
def okR (r : Except Pl Gs) : Bool := match r with | .ok _ => true | .error _ => false
def getR (r : Except Pl Gs) : Gs := match r with | .ok g => g | .error _ => ⟨[], [], false⟩
theorem ok_get {r : Except Pl Gs} (h : okR r = true) : r = .ok (getR r) := by
  cases r with
  | ok g => rfl
  | error _ => cases h
def sanG : Gs := getR sanR
theorem san_ok : readE sanNm sanF [109] = .ok sanG := ok_get (by decide)
theorem san_tx : sanG.tx = sanT := by decide
theorem san_sg : sanG.sg.length = 5 := by decide
theorem san_at : (sanG.sg.map (·.at_)) = [0, 16, 0, 47, 57] := by decide
theorem san_l1 : locG sanG 1 19 = (8, true) := by decide
theorem san_g1 : glbG sanG 1 8 = (19, true) := by decide
theorem san_l2 : (locG sanG 1 8).2 = false := by decide
theorem san_o : oriG sanG 9 = (1, 1, true) := by decide
theorem san_d : deadG 2 (fun e => e 1) 0 sanG.sg = [1, 3] := by decide
theorem san_s : selG sanG.tx sanG.sg (bitE 1) = [111, 110, 101, 10, 116, 119, 111, 10, 102, 105, 118, 101, 10] := by decide
def sanF2 : List (List Nat × List Nat) := [([109], sanM.take 47), ([110], sanN)]
theorem san_2 : readE sanNm sanF2 [109] = .error ⟨72, 0, 2⟩ := by
  have h : (match readE sanNm sanF2 [109] with | .ok _ => none | .error q => some (q.e, q.f, q.l)) = some (72, 0, 2) := by decide
  cases hr : readE sanNm sanF2 [109] with
  | ok g => rw [hr] at h; cases h
  | error q =>
    rw [hr] at h
    obtain ⟨a, b, c⟩ := q
    simp only [Option.some.injEq, Prod.mk.injEq] at h
    obtain ⟨rfl, rfl, rfl⟩ := h
    rfl
theorem san_fb : ∀ x ∈ sanF, FileB x := fun x hx => by
  simp only [sanF, List.mem_cons, List.not_mem_nil, or_false] at hx
  rcases hx with rfl | rfl
  · exact ⟨by decide, by decide, by decide, by decide⟩
  · exact ⟨by decide, by decide, by decide, by decide⟩
theorem san_fb2 : ∀ x ∈ sanF2, FileB x := fun x hx => by
  simp only [sanF2, List.mem_cons, List.not_mem_nil, or_false] at hx
  rcases hx with rfl | rfl
  · exact ⟨by decide, by decide, by decide, by decide⟩
  · exact ⟨by decide, by decide, by decide, by decide⟩

theorem file_str (x : List Nat × List Nat) : ∀ v ∈ fileC x, ∃ s, v = .string s := fun v hv => by
  simp only [fileC, List.mem_cons, List.not_mem_nil, or_false] at hv
  rcases hv with rfl | rfl <;> exact ⟨_, rfl⟩
theorem san_nb : NamesOk sanNm := fun s hs => by
  simp only [sanNm, List.mem_cons, List.not_mem_nil, or_false] at hs
  rcases hs with rfl | rfl <;> exact ⟨by decide, by decide⟩
set_option maxHeartbeats 1600000 in
theorem sanity7_fn (w : World) : Fn Tryz.prog 13 [] w (fun v w' => v = .bool true ∧ Ext w w') := by
  refine fn_of_exec (c := { c13 with cuts := [] }) gx_ok Tryz.func13 rfl rfl rfl ?_
  refine new (fun w1 hE1 hz1 hB1 => ?_)
  refine storeN_blk0 hB1 rfl (sc rfl) (fun w2 hg2 _ hB2 => ?_)
  have hE2 : Ext w w2 := newBox hE1 hB1 hg2
  refine new (fun w3 hE3 hz3 hB3 => ?_)
  refine storeN_blk0 hB3 rfl (sc rfl) (fun w4 hg4 _ hB4 => ?_)
  have hE24 : Ext w2 w4 := newBox hE3 hB3 hg4
  have hE04 := hE2.trans hE24
  refine at_buildN gx_ok [[.string (strOf [65])], [.string (strOf [66])]] rfl rfl rfl rfl rfl ⟨rfl, rfl, rfl, rfl, ⟨⟩⟩ rfl (fun cs h => by simp only [List.mem_cons, List.not_mem_nil, or_false] at h; rcases h with rfl | rfl <;> rfl) rfl (by decide) (by decide) ?_
  intro w5 hE5 hz5 hB5
  have hN5 : Sl w5 1 (some ⟨w4.heap.size, 0, none⟩) 2 2 (strsV sanNm) := Sl.own' (n := 2) hB5 rfl (by decide)
  have hE05 := hE04.trans hE5
  refine loadN_blk0 (hB2.ext (hE24.trans hE5)) rfl ?_
  refine loadN_blk0 (hB4.ext hE5) rfl ?_
  refine at_buildN gx_ok [fileC ([109], sanM), fileC ([110], sanN)] rfl rfl rfl rfl rfl ⟨rfl, rfl, rfl, rfl, ⟨⟩⟩ rfl (fun cs h => by simp only [List.mem_cons, List.not_mem_nil, or_false] at h; rcases h with rfl | rfl <;> rfl) rfl (by decide) (by decide) ?_
  intro w6 hE6 hz6 hB6
  have hF6 : SlS fileC 2 w6 (some ⟨w5.heap.size, 0, none⟩) 2 2 sanF := ⟨Sl.own (sz := 2) (n := 2) hB6 (Nat.le_refl _) (by decide) (by simp [fileC]), rfl⟩
  refine call (sread_fn sanNm _ 2 2 sanF _ 2 2 [109] w6 (hN5.ext hE6) san_nb (by decide) hF6 san_fb (by decide) (by decide)) ?_
  rw [san_ok]
  rintro _ w7 ⟨hE7, hg, RA, rc, RL, rfl, hS7⟩
  have hI7 := srcIn_read (by decide) san_ok hg hS7
  have hE67 := hE6.trans hE7
  refine new (fun w8 hE8 hz8 hB8 => ?_)
  refine new (fun w9 hE9 hz9 hB9 => ?_)
  refine storeN_blk0 (hB8.ext hE9) rfl (sc rfl) (fun w10 hg10 _ hB10 => ?_)
  have hM10 : Mod (· = w7.heap.size) w9 w10 := Mod.of_grown hg10 rfl
  refine storeN_blk0 (hB9.mod hM10 (by omega)) rfl (sc rfl) (fun w11 hg11 _ hB11 => ?_)
  have hM11 : Mod (· = w8.heap.size) w10 w11 := Mod.of_grown hg11 rfl
  have hB10' := hB10.mod hM11 (by omega)
  have hE711 : Ext w7 w11 := hM11.ext (hM10.ext (hE8.trans hE9) (fun i hi => by omega)) (fun i hi => by omega)
  have hI11 := hI7.ext hE711
  refine loadN_blk0 hB11 rfl ?_
  refine wif_f rfl ?_
  refine load_blk0 hB10' rfl ?_
  refine wif_f (by rw [san_tx]; rfl) ?_
  refine load_blk hB10' rfl ?_
  refine wif_f (by rw [san_sg]; rfl) ?_
  refine load_blk hB10' rfl ?_
  obtain ⟨M, hX, hA, hck⟩ := hI11.ex
  refine index_sls (j := 4) sx_len hX.sl rfl (by rw [san_sg]; decide) (fun p y hy hcl => ?_)
  have hy4 : y.at_ = 57 := by
    have h4 : sanG.sg[4]? = some (sanG.sg[4]'(by rw [san_sg]; decide)) := List.getElem?_eq_getElem _
    have e1 := (hA.get h4 hy).2.2.2.1
    have e2 : (sanG.sg.map (·.at_))[4]? = some (sanG.sg[4]'(by rw [san_sg]; decide)).at_ := by rw [List.getElem?_map, h4]; rfl
    rw [san_at] at e2
    have e3 := Option.some.inj e2
    rw [e1, ← e3]; rfl
  refine load (hcl 3 _ rfl) ?_
  refine wif_f (by rw [hy4]; rfl) ?_
  have hS : ∀ w', Ext w11 w' → Blk w' w7.heap.size 29 [.string (strOf sanG.tx), .slice RA sanG.sg.length rc] := fun w' hw' => hB10'.ext hw'
  refine loadN_blk0 (hS _ (Ext.refl _)) rfl ?_
  refine call (rloc_fn hI11 1 (by decide) 19) ?_
  rw [san_l1]
  rintro _ w12 ⟨rfl, hE12⟩
  refine loadN_blk0 (hS _ hE12) rfl ?_
  refine call (rglb_fn (hI11.ext hE12) 1 (by decide) 8 (by decide)) ?_
  rw [san_g1]
  rintro _ w13 ⟨rfl, hE13⟩
  have hE113 := hE12.trans hE13
  refine loadN_blk0 (hS _ hE113) rfl ?_
  refine call (rloc_fn (hI11.ext hE113) 1 (by decide) 8) ?_
  rw [san_l2]
  rintro _ w14 ⟨rfl, hE14⟩
  have hE114 := hE113.trans hE14
  refine loadN_blk0 (hS _ hE114) rfl ?_
  refine call (rori_fn (hI11.ext hE114) 9) ?_
  rw [san_o]
  rintro _ w15 ⟨rfl, hE15⟩
  have hE115 := hE114.trans hE15
  refine call (rvar_fn 1 w15 (by decide) (by decide)) ?_
  rintro _ w16 ⟨A16, n16, c16, rfl, hE16, hS16, hR16⟩
  have hE116 := hE115.trans hE16
  refine new (fun w17 hE17 hz17 hB17 => ?_)
  refine storeN_blk0 hB17 rfl (sc rfl) (fun w18 hg18 _ hB18 => ?_)
  have hE1618 : Ext w16 w18 := newBox hE17 hB17 hg18
  have hE118 := hE116.trans hE1618
  refine loadN_blk0 (hS _ hE118) rfl ?_
  refine loadN_blk0 hB18 rfl ?_
  refine call (rdead_fn (hI11.ext hE118) (hS16.ext hE1618) (var_set (k := 2) (v := 1) (by decide) (by decide))) ?_
  rw [show deadG sanNm.length (fun e => e 1) 0 sanG.sg = [1, 3] from san_d]
  rintro _ w19 ⟨O, oc, rfl, hE19, hO⟩
  have hE119 := hE118.trans hE19
  have hE1119 : Ext w4 w19 := ((hE5.trans hE67).trans hE711).trans hE119
  have hB2' : Blk w19 w.heap.size 38 (fileC ([109], sanM)) := hB2.ext (hE24.trans hE1119)
  refine load_blk hB2' rfl ?_
  refine need_to (v' := .string (strOf (sanM.take 47))) ⟨by decide, by decide, by show (47 : Int) ≤ ((strOf sanM).size : Int); rw [strOf_size]; decide⟩ (by show Value.string ((strOf sanM).extract 0 47) = _; rw [strOf_extract]; rfl) ?_
  refine store_mod (j := 1) hB2' (by decide) (fun w20 hM20 hB20 => ?_)
  have hN20 : Sl w20 1 (some ⟨w4.heap.size, 0, none⟩) 2 2 (strsV sanNm) := (hN5.ext ((hE67.trans hE711).trans hE119)).modS hM20 (fun _ i hi => by
    obtain ⟨ad, e, rfl⟩ := hi
    cases e
    have := hE04.size
    have := hB1.lt
    have := hE24.size
    simp only
    have := hg2.size
    omega)
  have hB4' := (hB4.ext hE1119).mod hM20 (by have := hB1.lt; have := hg2.size; omega)
  refine loadN_blk0 hB20 rfl ?_
  refine loadN_blk0 hB4' rfl ?_
  refine at_buildN gx_ok [fileC ([109], sanM.take 47), fileC ([110], sanN)] rfl rfl rfl rfl rfl ⟨rfl, rfl, rfl, rfl, ⟨⟩⟩ rfl (fun cs h => by simp only [List.mem_cons, List.not_mem_nil, or_false] at h; rcases h with rfl | rfl <;> rfl) rfl (by decide) (by decide) ?_
  intro w21 hE21 hz21 hB21
  have hF21 : SlS fileC 2 w21 (some ⟨w20.heap.size, 0, none⟩) 2 2 sanF2 := ⟨Sl.own (sz := 2) (n := 2) hB21 (Nat.le_refl _) (by decide) (by simp [fileC]), rfl⟩
  refine call (sread_fn sanNm _ 2 2 sanF2 _ 2 2 [109] w21 (hN20.ext hE21) san_nb (by decide) hF21 san_fb2 (by decide) (by decide)) ?_
  rw [san_2]
  rintro _ w22 ⟨hE22, rfl⟩
  have hE2022 := hE21.trans hE22
  refine new (fun w23 hE23 hz23 hB23 => ?_)
  refine new (fun w24 hE24' hz24 hB24 => ?_)
  refine storeN_blk0 (hB23.ext hE24') rfl (sc rfl) (fun w25 hg25 _ hB25 => ?_)
  have hM25 : Mod (· = w22.heap.size) w24 w25 := Mod.of_grown hg25 rfl
  refine storeN_blk0 (hB24.mod hM25 (by omega)) rfl (sc rfl) (fun w26 hg26 _ hB26 => ?_)
  have hM26 : Mod (· = w23.heap.size) w25 w26 := Mod.of_grown hg26 rfl
  have hE2226 : Ext w22 w26 := hM26.ext (hM25.ext (hE23.trans hE24') (fun i hi => by omega)) (fun i hi => by omega)
  have hE2026 := hE2022.trans hE2226
  refine wif_t rfl ?_
  refine wif_t rfl ?_
  refine wif_t rfl ?_
  refine wif_t rfl ?_
  refine wif_t rfl ?_
  refine wif_t rfl ?_
  refine wif_t rfl ?_
  refine wif_t rfl ?_
  refine wif_t rfl ?_
  refine wif_t rfl ?_
  have hO26 : Sl w26 1 O 2 oc (ixV [1, 3]) := (hO.modS hM20 (hO.sep (x := 1) rfl hB2' (file_str _))).ext hE2026
  have hI26 := ((hI11.ext hE119).modT hB2' (file_str _) hM20).ext hE2026
  have hS26 : Blk w26 w7.heap.size 29 [.string (strOf sanG.tx), .slice RA sanG.sg.length rc] := ((hS _ hE119).mod hM20 (by have := hE04.size; have := hE1119.size; have := (hE5.trans hE67).size; have := hB1.lt; have := hg2.size; have := hE24.size; omega)).ext hE2026
  refine index_sl (j := 0) hO26 (by decide) (fun ad u hA' hu hcell => ?_)
  cases hu
  refine load hcell ?_
  refine wif_t rfl ?_
  refine index_sl (j := 1) hO26 (by decide) (fun ad u hA' hu hcell => ?_)
  cases hu
  refine load hcell ?_
  refine wif_t rfl ?_
  refine loadN_blk0 hS26 rfl ?_
  refine call (rsel_fn hI26 1 (by decide)) ?_
  rw [san_s]
  rintro _ w27 ⟨rfl, hE27⟩
  refine wif_t rfl ?_
  refine loadN_blk0 (hB26.ext hE27) rfl ?_
  exact ⟨rfl, ((hM20.ext (hE04.trans hE1119) (fun i hi => by omega)).trans hE2026).trans hE27⟩
end
end
end Go.Proofs.YtedopgkbajhanaaGreatDoor

namespace Go.Proofs.YtedopgkbajhanaaGreatDoor
section
open Go Go.RowKit

theorem addS (a b : List Nat) (h : a.length + b.length ≤ 100000) : (strOf a).size + (strOf b).size ≤ maxLen := by
  rw [strOf_size, strOf_size]; unfold maxLen; omega
def formA (p q : List Nat) (b : Nat) : List Nat :=
  if b = 0 ∨ b = 1 then p else if b = 2 then 33 :: p else if b = 3 then p ++ [32, 38, 38, 32] ++ q else if b = 4 then p ++ [32, 124, 124, 32, 33] ++ q
  else if b = 5 then [33, 40] ++ p ++ [32, 38, 38, 32] ++ q ++ [41] else if b = 6 then [33] ++ p ++ [38, 38, 33] ++ q else [116, 114, 117, 101]
/-- The expression that a number makes. -/
def formT (nm : List (List Nat)) (b : Nat) : List Nat :=
  if nm = [] then ([[116, 114, 117, 101], [102, 97, 108, 115, 101], [33, 102, 97, 108, 115, 101]][b % 3]?).getD []
  else formA ((nm[b / 8 % nm.length]?).getD []) ((nm[(b / 64 + b / 8 + 1) % nm.length]?).getD []) (b % 8)

set_option maxHeartbeats 1600000 in
theorem formula_fn (nm : List (List Nat)) (A : Option Addr) (n c : Nat) (b : Nat) (w : World) (h : Sl w 1 A n c (strsV nm)) (hl : ∀ s ∈ nm, s.length ≤ 100) (hb : b ≤ 255) :
    Fn Tryz.prog 33 [.slice A n c, .int .u8 b] w (fun v w' => v = .string (strOf (formT nm b)) ∧ Ext w w') := by
  have hn : nm.length = n := by have := h.len; rw [strsV_length] at this; omega
  have hcap : n ≤ 9223372036854775807 := by have := h.le; have := h.cap; simp only [maxLen] at this; omega
  refine fn_of_exec (c := { c33 with cuts := [] }) gx_ok Tryz.func33 rfl rfl rfl ?_
  refine wif_eq (fun c1 => ?_) (fun c1 => ?_)
  · have hnil : nm = [] := List.eq_nil_of_length_eq_zero (by omega)
    have hft : formT nm b = ([[116, 114, 117, 101], [102, 97, 108, 115, 101], [33, 102, 97, 108, 115, 101]][b % 3]?).getD [] := if_pos hnil
    have h3 : b % 3 < 3 := Nat.mod_lt _ (by decide)
    refine at_buildN gx_ok ([[116, 114, 117, 101], [102, 97, 108, 115, 101], [33, 102, 97, 108, 115, 101]].map (fun s => [Value.string (strOf s)])) rfl rfl rfl rfl rfl ⟨rfl, rfl, rfl, rfl, rfl, rfl, ⟨⟩⟩ rfl (fun cs h => by simp only [List.mem_map] at h; obtain ⟨s, _, rfl⟩ := h; rfl) rfl (by decide) (by decide) ?_
    intro w1 hE1 hz1 hB1
    refine norm_i64_to ((b : Nat) : Int) rfl (by omega) ?_
    refine normIf (m := ((b % 3 : Nat) : Int)) (by decide) rfl ?_
    refine index (j := b % 3) h3 ?_
    refine load_blk hB1 (v := .string (strOf (([[116, 114, 117, 101], [102, 97, 108, 115, 101], [33, 102, 97, 108, 115, 101]][b % 3]?).getD []))) (by
      generalize b % 3 = r at h3
      rcases (show r = 0 ∨ r = 1 ∨ r = 2 by omega) with rfl | rfl | rfl <;> rfl) ?_
    exact ⟨by rw [hft], hE1⟩
  · have hne : nm ≠ [] := fun e => by rw [e] at hn; simp at hn; omega
    have hpos : 0 < n := by omega
    have hft : formT nm b = formA ((nm[b / 8 % nm.length]?).getD []) ((nm[(b / 64 + b / 8 + 1) % nm.length]?).getD []) (b % 8) := if_neg hne
    rw [hn] at hft
    have l1 : b / 8 % n < n := Nat.mod_lt _ hpos
    have l2 : (b / 64 + b / 8 + 1) % n < n := Nat.mod_lt _ hpos
    have hq8 : IntKind.u8.wrap (((b : Nat) : Int).tdiv 8) = ((b / 8 : Nat) : Int) := by
      show IntKind.u8.wrap ((b / 8 : Nat) : Int) = _
      rw [wrap_u8_nat]; omega
    have hq64 : IntKind.u8.wrap (((b : Nat) : Int).tdiv 64) = ((b / 64 : Nat) : Int) := by
      show IntKind.u8.wrap ((b / 64 : Nat) : Int) = _
      rw [wrap_u8_nat]; omega
    have hg1 : nm[b / 8 % n]? = some (nm[b / 8 % n]'(by omega)) := List.getElem?_eq_getElem _
    have hg2 : nm[(b / 64 + b / 8 + 1) % n]? = some (nm[(b / 64 + b / 8 + 1) % n]'(by omega)) := List.getElem?_eq_getElem _
    have p100 := hl _ (List.mem_of_getElem? hg1)
    have q100 := hl _ (List.mem_of_getElem? hg2)
    rw [hg1, hg2] at hft
    simp only [Option.getD_some] at hft
    generalize nm[b / 8 % n]'(by omega) = p at *
    generalize nm[(b / 64 + b / 8 + 1) % n]'(by omega) = q at *
    have ps := strOf_size p
    have qs := strOf_size q
    refine normIf (m := ((b / 8 : Nat) : Int)) (by decide) hq8 ?_
    refine norm_i64_to ((b / 8 : Nat) : Int) rfl (by omega) ?_
    refine normIf (m := ((b / 8 % n : Nat) : Int)) (by omega) (tmod_nat _ _) ?_
    refine index_sl h l1 (fun ad u hA hu hcell => ?_)
    rw [strsV_get hg1] at hu
    cases hu
    refine load hcell ?_
    refine normIf (m := ((b / 64 : Nat) : Int)) (by decide) hq64 ?_
    refine normIf (m := ((b / 8 : Nat) : Int)) (by decide) hq8 ?_
    refine norm (m := ((b / 64 + b / 8 : Nat) : Int)) (by show IntKind.u8.wrap (((b / 64 : Nat) : Int) + ((b / 8 : Nat) : Int)) = _; rw [← Int.natCast_add, wrap_u8_nat]; omega) ?_
    refine norm (m := ((b / 64 + b / 8 + 1 : Nat) : Int)) (by show IntKind.u8.wrap (((b / 64 + b / 8 : Nat) : Int) + ((1 : Nat) : Int)) = _; rw [← Int.natCast_add, wrap_u8_nat]; omega) ?_
    refine norm_i64_to ((b / 64 + b / 8 + 1 : Nat) : Int) rfl (by omega) ?_
    refine normIf (m := (((b / 64 + b / 8 + 1) % n : Nat) : Int)) (by omega) (tmod_nat _ _) ?_
    refine index_sl h l2 (fun ad' u' hA' hu' hcell' => ?_)
    rw [strsV_get hg2] at hu'
    cases hu'
    refine load hcell' ?_
    have hr8 : ((b : Nat) : Int).tmod 8 = ((b % 8 : Nat) : Int) := tmod_nat b 8
    have m8 : b % 8 < 8 := Nat.mod_lt _ (by decide)
    generalize b % 8 = r at hr8 m8 hft
    refine normIf (m := ((r : Nat) : Int)) (by decide) hr8 ?_
    clear hr8 hq8 hq64
    rw [hft]
    rcases (show r = 0 ∨ r = 1 ∨ r = 2 ∨ r = 3 ∨ r = 4 ∨ r = 5 ∨ r = 6 ∨ r = 7 by omega) with rfl | rfl | rfl | rfl | rfl | rfl | rfl | rfl
    · refine wif_t rfl ?_
      exact ⟨rfl, Ext.refl _⟩
    · refine wif_f rfl ?_
      refine wif_t rfl ?_
      exact ⟨rfl, Ext.refl _⟩
    · refine wif_f rfl ?_
      refine wif_f rfl ?_
      refine wif_t rfl ?_
      refine need_to (v' := .string (strOf ([33] ++ p))) (addS [33] p (by simp; omega)) (congrArg Value.string (strOf_append [33] p)) ?_
      exact ⟨rfl, Ext.refl _⟩
    · refine wif_f rfl ?_
      refine wif_f rfl ?_
      refine wif_f rfl ?_
      refine wif_t rfl ?_
      refine need_to (v' := .string (strOf (p ++ [32, 38, 38, 32]))) (addS p [32, 38, 38, 32] (by simp; omega)) (congrArg Value.string (strOf_append p [32, 38, 38, 32])) ?_
      refine need_to (v' := .string (strOf ((p ++ [32, 38, 38, 32]) ++ q))) (addS (p ++ [32, 38, 38, 32]) q (by simp; omega)) (congrArg Value.string (strOf_append (p ++ [32, 38, 38, 32]) q)) ?_
      exact ⟨rfl, Ext.refl _⟩
    · refine wif_f rfl ?_
      refine wif_f rfl ?_
      refine wif_f rfl ?_
      refine wif_f rfl ?_
      refine wif_t rfl ?_
      refine need_to (v' := .string (strOf (p ++ [32, 124, 124, 32, 33]))) (addS p [32, 124, 124, 32, 33] (by simp; omega)) (congrArg Value.string (strOf_append p [32, 124, 124, 32, 33])) ?_
      refine need_to (v' := .string (strOf ((p ++ [32, 124, 124, 32, 33]) ++ q))) (addS (p ++ [32, 124, 124, 32, 33]) q (by simp; omega)) (congrArg Value.string (strOf_append (p ++ [32, 124, 124, 32, 33]) q)) ?_
      exact ⟨rfl, Ext.refl _⟩
    · refine wif_f rfl ?_
      refine wif_f rfl ?_
      refine wif_f rfl ?_
      refine wif_f rfl ?_
      refine wif_f rfl ?_
      refine wif_t rfl ?_
      refine need_to (v' := .string (strOf ([33, 40] ++ p))) (addS [33, 40] p (by simp; omega)) (congrArg Value.string (strOf_append [33, 40] p)) ?_
      refine need_to (v' := .string (strOf (([33, 40] ++ p) ++ [32, 38, 38, 32]))) (addS ([33, 40] ++ p) [32, 38, 38, 32] (by simp; omega)) (congrArg Value.string (strOf_append ([33, 40] ++ p) [32, 38, 38, 32])) ?_
      refine need_to (v' := .string (strOf (([33, 40] ++ p ++ [32, 38, 38, 32]) ++ q))) (addS ([33, 40] ++ p ++ [32, 38, 38, 32]) q (by simp; omega)) (congrArg Value.string (strOf_append ([33, 40] ++ p ++ [32, 38, 38, 32]) q)) ?_
      refine need_to (v' := .string (strOf (([33, 40] ++ p ++ [32, 38, 38, 32] ++ q) ++ [41]))) (addS ([33, 40] ++ p ++ [32, 38, 38, 32] ++ q) [41] (by simp; omega)) (congrArg Value.string (strOf_append ([33, 40] ++ p ++ [32, 38, 38, 32] ++ q) [41])) ?_
      exact ⟨rfl, Ext.refl _⟩
    · refine wif_f rfl ?_
      refine wif_f rfl ?_
      refine wif_f rfl ?_
      refine wif_f rfl ?_
      refine wif_f rfl ?_
      refine wif_f rfl ?_
      refine wif_t rfl ?_
      refine need_to (v' := .string (strOf ([33] ++ p))) (addS [33] p (by simp; omega)) (congrArg Value.string (strOf_append [33] p)) ?_
      refine need_to (v' := .string (strOf (([33] ++ p) ++ [38, 38, 33]))) (addS ([33] ++ p) [38, 38, 33] (by simp; omega)) (congrArg Value.string (strOf_append ([33] ++ p) [38, 38, 33])) ?_
      refine need_to (v' := .string (strOf (([33] ++ p ++ [38, 38, 33]) ++ q))) (addS ([33] ++ p ++ [38, 38, 33]) q (by simp; omega)) (congrArg Value.string (strOf_append ([33] ++ p ++ [38, 38, 33]) q)) ?_
      exact ⟨rfl, Ext.refl _⟩
    · refine wif_f rfl ?_
      refine wif_f rfl ?_
      refine wif_f rfl ?_
      refine wif_f rfl ?_
      refine wif_f rfl ?_
      refine wif_f rfl ?_
      refine wif_f rfl ?_
      exact ⟨rfl, Ext.refl _⟩
end
end Go.Proofs.YtedopgkbajhanaaGreatDoor

namespace Go.Proofs.YtedopgkbajhanaaGreatDoor
section
open Go Go.RowKit

def formB (p q : Fm) (b : Nat) : Fm :=
  if b = 0 ∨ b = 1 then p else if b = 2 then .not p else if b = 3 then .and p q else if b = 4 then .or p (.not q) else if b = 5 then .not (.and p q) else if b = 6 then .and (.not p) (.not q) else .c true
/-- The formula that a number makes over k conditions. -/
def formF (k b : Nat) : Fm := if k = 0 then (if b % 3 = 0 then .c true else if b % 3 = 1 then .c false else .not (.c false)) else formB (.v (b / 8 % k)) (.v ((b / 64 + b / 8 + 1) % k)) (b % 8)
def okF (k b : Nat) : Bool := match parseT (letters12.take k) (formT (letters12.take k) b) with
  | .ok t => decide (t = formF k b)
  | .error _ => false
theorem okF_ok {k b : Nat} (h : okF k b = true) : parseT (letters12.take k) (formT (letters12.take k) b) = .ok (formF k b) := by
  unfold okF at h
  split at h
  · rename_i t ht; rw [ht, of_decide_eq_true h]
  · cases h
theorem okF_4 : (List.range 256).all (okF 4) = true := by decide +kernel
theorem okF_3 : (List.range 256).all (okF 3) = true := by decide +kernel
theorem okF_2 : (List.range 256).all (okF 2) = true := by decide +kernel
theorem okF_1 : (List.range 256).all (okF 1) = true := by decide +kernel
theorem okF_0 : (List.range 256).all (okF 0) = true := by decide +kernel
theorem form_parse {k b : Nat} (hk : k ≤ 4) (hb : b ≤ 255) : parseT (letters12.take k) (formT (letters12.take k) b) = .ok (formF k b) := by
  have hm : b ∈ List.range 256 := List.mem_range.2 (by omega)
  rcases (show k = 0 ∨ k = 1 ∨ k = 2 ∨ k = 3 ∨ k = 4 by omega) with rfl | rfl | rfl | rfl | rfl
  · exact okF_ok (List.all_eq_true.1 okF_0 b hm)
  · exact okF_ok (List.all_eq_true.1 okF_1 b hm)
  · exact okF_ok (List.all_eq_true.1 okF_2 b hm)
  · exact okF_ok (List.all_eq_true.1 okF_3 b hm)
  · exact okF_ok (List.all_eq_true.1 okF_4 b hm)
/-- The set of an expression that a number makes. -/
def formO (k b : Nat) : BF := evF (formF k b)
theorem form_set {k b : Nat} (hk : k ≤ 4) (hb : b ≤ 255) : setE (letters12.take k) (formT (letters12.take k) b) = .ok (formO k b) := by
  unfold setE
  rw [form_parse hk hb]; rfl
end
end Go.Proofs.YtedopgkbajhanaaGreatDoor

namespace Go.Proofs.YtedopgkbajhanaaGreatDoor
section
open Go Go.RowKit

/-! ### Lines without directives -/
theorem txt_dir {s : List Nat} (h : s.head? ≠ some 35) : dirOf s = .txt := by
  unfold dirOf
  cases s with
  | nil => rfl
  | cons b t =>
    have hb : b ≠ 35 := fun e => h (by rw [e]; rfl)
    have e1 : pIf.isPrefixOf (b :: t) = false := by simp [pIf, List.isPrefixOf, hb.symm]
    have e2 : pInc.isPrefixOf (b :: t) = false := by simp [pInc, List.isPrefixOf, hb.symm]
    have e3 : pElif.isPrefixOf (b :: t) = false := by simp [pElif, List.isPrefixOf, hb.symm]
    rw [e1, e2, e3, if_neg (by decide), if_neg (by decide), if_neg (by decide), if_neg (by simp [lElse, hb]), if_neg (by simp [lEnd, hb])]
theorem textB_unl (ls : List (List Nat)) : textB (unl ls) = true := by
  unfold textB
  rcases unl_ok ls with h | h
  · rw [h]; rfl
  · rw [h]; simp
theorem plain_b8 {ls : List (List Nat)} (h : ∀ s ∈ ls, ∀ x ∈ s, x < 256) : ∀ x ∈ unl ls, x < 256 := fun x hx => by
  unfold unl at hx
  obtain ⟨s, hs, hxs⟩ := List.mem_flatMap.1 hx
  rcases List.mem_append.1 hxs with hxs | hxs
  · exact h s hs x hxs
  · simp only [List.mem_singleton] at hxs; subst hxs; decide
/-! ### The law -/
end
end Go.Proofs.YtedopgkbajhanaaGreatDoor

namespace Go.Proofs.YtedopgkbajhanaaGreatDoor
section
open Go Go.RowKit

/-! ### few -/
/-! ### What an error depends on -/
/-- Two lists of files that differ in the texts of some being read. -/
structure SameF (rd : List Nat) (fs fs' : List (List Nat × List Nat)) : Prop where
  nm : fs'.map (·.1) = fs.map (·.1)
  tx : ∀ i, i ∉ rd → fs'[i]? = fs[i]?
theorem SameF.cons {rd : List Nat} {fs fs' : List (List Nat × List Nat)} (h : SameF rd fs fs') (n : Nat) : SameF (n :: rd) fs fs' := ⟨h.nm, fun i hi => h.tx i (fun hh => hi (List.mem_cons_of_mem _ hh))⟩
/-! ### The plain law -/
theorem ixR_nin {l : List Nat} : ∀ {names : List (List Nat)} {i : Nat} {acc : Option Nat}, l ∉ names → ixR l names i acc = acc
  | [], _, _, _ => rfl
  | s :: names, i, acc, h => by
    simp only [List.mem_cons, not_or] at h
    rw [ixR, if_neg (fun e => h.1 e.symm)]
    exact ixR_nin h.2
theorem ixN_head {x : List Nat} {l : List (List Nat)} (h : x ∉ l) : ixN (x :: l) x = some 0 := by
  unfold ixN
  rw [ixR, if_pos rfl]
  exact ixR_nin h
end
end Go.Proofs.YtedopgkbajhanaaGreatDoor

namespace Go.Proofs.YtedopgkbajhanaaGreatDoor
section
open Go Go.RowKit

theorem dir_ifs (F : List Nat) : dirOf (pIf ++ F) = .ifd F := by simp [dirOf, pIf, List.isPrefixOf]
theorem dir_elifs (F : List Nat) : dirOf (pElif ++ F) = .elif F := by simp [dirOf, pIf, pElif, pInc, List.isPrefixOf]
end
end Go.Proofs.YtedopgkbajhanaaGreatDoor

namespace Go.Proofs.YtedopgkbajhanaaGreatDoor
section
open Go Go.RowKit

/-! ### Bytes with their conditions -/
abbrev CB := List (Nat × BF)
def cbG (g : Gs) : CB := g.sg.flatMap (fun s => (pieceG g.tx s).map (fun b => (b, s.o)))
theorem piece_app {tx s : List Nat} {x : Sg} (h : x.t ≤ tx.length) : pieceG (tx ++ s) x = pieceG tx x := by
  unfold pieceG; rw [List.take_append_of_le_length h]
theorem cb_fr (g : Gs) (b : Bool) : cbG { g with fr := b } = cbG g := rfl
theorem flat_same {tx s : List Nat} : ∀ {l : List Sg}, (∀ x ∈ l, x.t ≤ tx.length) → l.flatMap (fun x => (pieceG (tx ++ s) x).map (fun b => (b, x.o))) = l.flatMap (fun x => (pieceG tx x).map (fun b => (b, x.o)))
  | [], _ => rfl
  | x :: l, h => by rw [List.flatMap_cons, List.flatMap_cons, flat_same (fun y hy => h y (by simp [hy])), piece_app (h x (by simp))]
theorem cb_add {fs : List (List Nat × List Nat)} {n p : Nat} {k : BF} {g g' : Gs} {s : List Nat} (h : GInv fs g) (hc : CurG n p k g) (ha : addG s n p k g = some g') : cbG g' = cbG g ++ s.map (fun b => (b, k)) := by
  unfold addG at ha
  split at ha
  · cases ha
  cases ha
  cases hf : g.fr with
  | true =>
    rw [if_pos rfl, setTo_snoc]
    unfold cbG
    simp only
    rw [List.flatMap_append, flat_same (fun x hx => (h.ok x hx).tl)]
    congr 1
    simp only [List.flatMap_cons, List.flatMap_nil, List.append_nil]
    congr 1
    unfold pieceG
    simp only
    rw [List.take_of_length_le (by simp), List.drop_left]
  | false =>
    rw [if_neg (by decide)]
    obtain ⟨l, y, e, e1, e2, e3⟩ := hc hf
    have hch := h.ch
    have hok := h.ok
    rw [e] at hch hok
    rw [ChG.snoc] at hch
    have hy := hok y (by simp)
    rw [e, setTo_snoc]
    unfold cbG
    simp only
    rw [e, List.flatMap_append, List.flatMap_append, flat_same (fun x hx => (hok x (by simp [hx])).tl), List.append_assoc]
    congr 1
    have h1 := hy.ft
    have h2 := hch.2
    have e4 : pieceG (g.tx ++ s) { y with t := g.tx.length + s.length } = pieceG g.tx y ++ s := by
      unfold pieceG
      simp only
      rw [List.take_of_length_le (by simp), List.drop_append_of_le_length (by omega), h2, List.take_length]
    simp only [List.flatMap_cons, List.flatMap_nil, List.append_nil]
    rw [e4, List.map_append, e3]
theorem piece_fst {tx : List Nat} : ∀ {l : List Sg} {a : Nat}, ChG a l tx.length → (∀ x ∈ l, x.f < x.t ∧ x.t ≤ tx.length) → (l.flatMap (fun x => (pieceG tx x).map (fun b => (b, x.o)))).map (·.1) = tx.drop a
  | [], a, h, _ => by
    have : a = tx.length := h
    subst this; simp
  | x :: l, a, h, hx => by
    obtain ⟨h1, h2⟩ := hx x (by simp)
    rw [List.flatMap_cons, List.map_append, piece_fst h.2 (fun y hy => hx y (by simp [hy]))]
    have : x.f = a := h.1
    subst this
    rw [List.map_map]
    rw [show ((fun (p : Nat × BF) => p.1) ∘ fun b => (b, x.o)) = id from rfl, List.map_id]
    unfold pieceG
    conv => rhs; rw [← List.take_append_drop x.t tx]
    rw [List.drop_append_of_le_length (by rw [List.length_take]; omega)]
theorem cb_fst {fs : List (List Nat × List Nat)} {g : Gs} (h : GInv fs g) : (cbG g).map (·.1) = g.tx := by
  have := piece_fst h.ch (fun x hx => ⟨(h.ok x hx).ft, (h.ok x hx).tl⟩)
  rw [List.drop_zero] at this
  exact this
theorem cb_len {fs : List (List Nat × List Nat)} {g : Gs} (h : GInv fs g) : (cbG g).length = g.tx.length := by
  rw [← cb_fst h, List.length_map]
theorem sg_le {tx : List Nat} : ∀ {l : List Sg} {a : Nat}, ChG a l tx.length → (∀ x ∈ l, x.f < x.t ∧ x.t ≤ tx.length) → a + l.length ≤ tx.length
  | [], a, h, _ => by have : a = tx.length := h; simp; omega
  | x :: l, a, h, hx => by
    have h1 := hx x (by simp)
    have h2 := sg_le h.2 (fun y hy => hx y (by simp [hy]))
    have : x.f = a := h.1
    simp only [List.length_cons]; omega
theorem sgs_le {fs : List (List Nat × List Nat)} {g : Gs} (h : GInv fs g) : g.sg.length ≤ g.tx.length := by
  have := sg_le h.ch (fun x hx => ⟨(h.ok x hx).ft, (h.ok x hx).tl⟩)
  omega
/-! ### Lines of made files -/
inductive Mn where
  | tx (s : List Nat)
  | ifd (F : List Nat) (o : BF)
  | elif (F : List Nat) (o : BF)
  | els
  | en
  | inc
def nInc : List Nat := [34, 110, 34]
def mnT : Mn → List Nat
  | .tx s => s
  | .ifd F _ => pIf ++ F
  | .elif F _ => pElif ++ F
  | .els => lElse
  | .en => lEnd
  | .inc => pInc ++ nInc
/-- A line of text: no directive, no line feed. -/
structure TxOk (s : List Nat) : Prop where
  nl : 10 ∉ s
  dr : dirOf s = .txt
  b8 : ∀ x ∈ s, x < 256
/-- An expression of a set. -/
structure FOk (nm : List (List Nat)) (F : List Nat) (o : BF) : Prop where
  nl : 10 ∉ F
  st : setE nm F = .ok o
  b8 : ∀ x ∈ F, x < 256
/-- Sections are closed, hold what they may hold, and are at most D deep; ic: whether lines may include. -/
def wfM (nm : List (List Nat)) (ic : Bool) (D : Nat) : List Bool → List Mn → Prop
  | [], [] => True
  | _ :: _, [] => False
  | op, .tx s :: l => TxOk s ∧ wfM nm ic D op l
  | op, .ifd F o :: l => FOk nm F o ∧ op.length < D ∧ wfM nm ic D (false :: op) l
  | false :: op, .elif F o :: l => FOk nm F o ∧ wfM nm ic D (false :: op) l
  | false :: op, .els :: l => wfM nm ic D (true :: op) l
  | _ :: op, .en :: l => wfM nm ic D op l
  | op, .inc :: l => ic = true ∧ wfM nm ic D op l
  | _, _ => False
/-- The bytes that lines yield under a condition; op: the open sections (the condition around each, and what no branch has so far). -/
def emM (ie : BF → CB) : List Mn → BF → List (BF × BF) → CB
  | [], _, _ => []
  | .tx s :: l, k, op => (s ++ [10]).map (fun b => (b, k)) ++ emM ie l k op
  | .ifd _ o :: l, k, op => emM ie l (bAnd k o) ((k, bSub k o) :: op)
  | .elif _ o :: l, k, op => match op with
    | [] => []
    | (ou, re) :: op => emM ie l (bAnd re o) ((ou, bSub re o) :: op)
  | .els :: l, k, op => match op with
    | [] => []
    | (ou, re) :: op => emM ie l re ((ou, re) :: op)
  | .en :: l, k, op => match op with
    | [] => []
    | (ou, _) :: op => emM ie l ou op
  | .inc :: l, k, op => ie k ++ emM ie l k op

theorem dir_incs (F : List Nat) : dirOf (pInc ++ F) = .inc F := by simp [dirOf, pIf, pInc, List.isPrefixOf]
abbrev opM (op : List Se) : List (BF × BF) := op.map (fun x => (x.ou, x.re))
abbrev flM (op : List Se) : List Bool := op.map (·.ot)

theorem add_ok {fs : List (List Nat × List Nat)} {g : Gs} {s : List Nat} {n p : Nat} {k : BF} (h : GInv fs g) (hl : (cbG g).length + s.length ≤ 60000) : ∃ g', addG s n p k g = some g' := by
  have h1 := cb_len h
  have h2 := sgs_le h
  unfold addG
  rw [if_neg (by intro hh; rcases hh with hh | ⟨_, hh⟩ <;> omega)]
  exact ⟨_, rfl⟩

theorem rdM {nm : List (List Nat)} {fs : List (List Nat × List Nat)} {n d0 : Nat} {inc : IncF} {x : List Nat × List Nat} (hx : fs[n]? = some x) {ic : Bool} {D : Nat} {ie : BF → CB}
    (hi : ic = true → ∀ ln d k g, GInv fs g → d0 ≤ d → d ≤ d0 + D → (cbG g).length + (ie k).length ≤ 60000 → ∃ g', inc nInc ln d k g = .ok g' ∧ GInv fs g' ∧ cbG g' = cbG g ++ ie k) (hd0 : d0 + D < 64) :
    ∀ (l : List Mn) (ln at_ : Nat) (k : BF) (op : List Se) (g : Gs), x.2.drop at_ = unl (l.map mnT) → at_ ≤ x.2.length → GInv fs g → CurG n at_ k g → wfM nm ic D (flM op) l → op.length ≤ D → (cbG g).length + (emM ie l k (opM op)).length ≤ 60000 →
      ∃ g', rdL nm n d0 inc (l.map mnT) ln at_ k op g = .ok g' ∧ GInv fs g' ∧ cbG g' = cbG g ++ emM ie l k (opM op)
  | [], ln, at_, k, op, g, _, _, hg, _, hw, _, _ => by
    cases op with
    | nil => exact ⟨{ g with fr := true }, rfl, hg.fr true, by rw [emM, List.append_nil]; rfl⟩
    | cons y op => exact hw.elim
  | m :: l, ln, at_, k, op, g, hdr, hat, hg, hc, hw, hop, hlen => by
    have hdr' : x.2.drop at_ = (mnT m ++ [10]) ++ unl (l.map mnT) := by rw [hdr, List.map_cons, unl_cons]; simp
    generalize hs : mnT m = s at hdr'
    have hL : (s ++ [10]).length = s.length + 1 := by simp
    have hln : x.2.length - at_ = s.length + 1 + (unl (l.map mnT)).length := by
      have := congrArg List.length hdr'
      simp only [List.length_drop, List.length_append, List.length_cons, List.length_nil] at this
      omega
    have hd2 : x.2.drop (at_ + s.length + 1) = unl (l.map mnT) := by
      rw [show at_ + s.length + 1 = at_ + (s ++ [10]).length by simp; omega, ← List.drop_drop, hdr', List.drop_left]
    have ih := fun k op g h1 h2 h3 h4 h5 => rdM (nm := nm) hx hi hd0 l (ln + 1) (at_ + s.length + 1) k op g hd2 (by omega) h1 h2 h3 h4 h5
    have cf : ∀ k' (g : Gs), CurG n (at_ + s.length + 1) k' { g with fr := true } := fun k' g h => by cases h
    rw [List.map_cons, hs]
    cases m with
    | tx t =>
      have ht : t = s := hs
      subst ht
      obtain ⟨w1, w2⟩ : TxOk t ∧ wfM nm ic D (flM op) l := by cases op <;> exact hw
      rw [emM, List.length_append, List.length_map] at hlen
      obtain ⟨g1, ha⟩ := add_ok (s := t ++ [10]) (n := n) (p := at_) (k := k) hg (by omega)
      obtain ⟨i1, i2⟩ := add_inv hg hc hx (by rw [hL, ← Nat.add_assoc, hd2]; exact hdr') (by rw [hL]; omega) (by simp) ha
      have i3 := cb_add hg hc ha
      rw [rdL_txt w1.dr, ha]
      obtain ⟨g', r1, r2, r3⟩ := ih k op g1 i1 (by rw [hL, ← Nat.add_assoc] at i2; exact i2) w2 hop (by rw [i3, List.length_append, List.length_map]; omega)
      exact ⟨g', r1, r2, by rw [r3, i3, emM, List.append_assoc]⟩
    | ifd F o =>
      have ht : pIf ++ F = s := hs
      obtain ⟨w1, w2, w3⟩ : FOk nm F o ∧ (flM op).length < D ∧ wfM nm ic D (false :: flM op) l := by cases op <;> exact hw
      simp only [List.length_map] at w2
      have hdir : dirOf s = .ifd F := by rw [← ht]; exact dir_ifs _
      rw [rdL_ifd hdir, w1.st]
      simp only
      rw [if_neg (by omega)]
      rw [emM] at hlen ⊢
      exact ih _ (⟨k, bSub k o, false, ln + 1⟩ :: op) { g with fr := true } (hg.fr true) (cf _ _) w3 (by simp; omega) hlen
    | elif F o =>
      have ht : pElif ++ F = s := hs
      cases op with
      | nil => exact hw.elim
      | cons y op =>
        have hot : y.ot = false := by
          cases ho : y.ot with
          | false => rfl
          | true =>
            have hw : wfM nm ic D (y.ot :: flM op) (.elif F o :: l) := hw
            rw [ho] at hw; exact hw.elim
        obtain ⟨w1, w3⟩ : FOk nm F o ∧ wfM nm ic D (false :: flM op) l := by
          have hw : wfM nm ic D (y.ot :: flM op) (.elif F o :: l) := hw
          rw [hot] at hw; exact hw
        have hdir : dirOf s = .elif F := by rw [← ht]; exact dir_elifs _
        rw [rdL_elif hdir, w1.st]
        simp only
        rw [if_neg (by rw [hot]; decide)]
        have e : emM ie (.elif F o :: l) k (opM (y :: op)) = emM ie l (bAnd y.re o) (opM ({ y with re := bSub y.re o } :: op)) := rfl
        rw [e] at hlen ⊢
        exact ih _ ({ y with re := bSub y.re o } :: op) { g with fr := true } (hg.fr true) (cf _ _) (by rw [← hot] at w3; exact w3) hop hlen
    | els =>
      have ht : lElse = s := hs
      subst ht
      cases op with
      | nil => exact hw.elim
      | cons y op =>
        have hot : y.ot = false := by
          cases ho : y.ot with
          | false => rfl
          | true =>
            have hw : wfM nm ic D (y.ot :: flM op) (.els :: l) := hw
            rw [ho] at hw; exact hw.elim
        have w3 : wfM nm ic D (true :: flM op) l := by
          have hw : wfM nm ic D (y.ot :: flM op) (.els :: l) := hw
          rw [hot] at hw; exact hw
        rw [rdL_els dir_else]
        simp only
        rw [if_neg (by rw [hot]; decide)]
        have e : emM ie (.els :: l) k (opM (y :: op)) = emM ie l y.re (opM ({ y with ot := true } :: op)) := rfl
        rw [e] at hlen ⊢
        exact ih _ ({ y with ot := true } :: op) { g with fr := true } (hg.fr true) (cf _ _) w3 hop hlen
    | en =>
      have ht : lEnd = s := hs
      subst ht
      cases op with
      | nil => exact hw.elim
      | cons y op =>
        have w3 : wfM nm ic D (flM op) l := by
          have hw : wfM nm ic D (y.ot :: flM op) (.en :: l) := hw
          cases hy : y.ot <;> rw [hy] at hw <;> exact hw
        rw [rdL_en dir_end]
        have e : emM ie (.en :: l) k (opM (y :: op)) = emM ie l y.ou (opM op) := rfl
        rw [e] at hlen ⊢
        exact ih _ op { g with fr := true } (hg.fr true) (cf _ _) w3 (by simp at hop; omega) hlen
    | inc =>
      have ht : pInc ++ nInc = s := hs
      subst ht
      obtain ⟨w1, w2⟩ : ic = true ∧ wfM nm ic D (flM op) l := by
        cases op with
        | nil => exact hw
        | cons y op =>
          have hw : wfM nm ic D (y.ot :: flM op) (.inc :: l) := hw
          cases hy : y.ot <;> rw [hy] at hw <;> refine ⟨hw.1, ?_⟩ <;> show wfM nm ic D (y.ot :: flM op) l <;> rw [hy] <;> exact hw.2
      rw [emM, List.length_append] at hlen
      obtain ⟨g1, j1, j2, j3⟩ := hi w1 (ln + 1) (d0 + op.length) k g hg (by omega) (by omega) (by omega)
      rw [rdL_inc (dir_incs nInc), j1]
      simp only
      obtain ⟨g', r1, r2, r3⟩ := ih k op { g1 with fr := true } (j2.fr true) (cf _ _) w2 hop (by rw [cb_fr, j3, List.length_append]; omega)
      exact ⟨g', r1, r2, by rw [r3, cb_fr, j3, emM, List.append_assoc]⟩
end
end Go.Proofs.YtedopgkbajhanaaGreatDoor

namespace Go.Proofs.YtedopgkbajhanaaGreatDoor
section
open Go Go.RowKit Go.ChangeShapes

variable {H : Type} {enc : TypeId × Value → H}

theorem law_of {P : Program} {f : FuncId} {l : List Value} {w : World} (h : Fn P f l w (fun v w' => v = .bool true ∧ Ext w w')) :
    Calls P f l.toArray w fun e w' => e = .returned (.bool true) ∧ Below w.heap.size w w' := by
  unfold Fn at h
  exact h.mono fun e w' he => by
    cases e with
    | returned v => exact ⟨by rw [he.1], he.2.below⟩
    | panicked ch => exact he.elim
    | outgrown => exact he.elim

theorem u8s_of {W : World} {a : Option Addr} {len cap : Nat} {d : DataW H} {p : List MemPlace} (h : DataW.Trod enc Tryz.prog W 0 (fun _ => true) true 74 (.slice a len cap) d p) : ∃ l, Sl W 1 a len cap (bytesV l) ∧ ∀ b ∈ l, b ≤ 255 := by
  obtain ⟨fuel, hf⟩ := h
  rcases open_ints Tryz.underlying74 Tryz.underlying5 (by kernel_rfl) hf with ⟨hcs, _⟩ | ⟨x, l, c, zs, hcs, _, hl, hm, hz, _, hcell, hwz⟩
  · simp [Value.cells] at hcs
    obtain ⟨rfl, rfl, rfl⟩ := hcs
    exact ⟨[], Sl.nil W 1, by simp⟩
  · simp [Value.cells] at hcs
    obtain ⟨rfl, rfl, rfl⟩ := hcs
    simp at hz
    have hr : ∀ n ∈ zs, 0 ≤ n ∧ n ≤ 255 := fun n hn => by
      have := hwz n hn
      simp [Lit.wf, IntKind.min, IntKind.max, IntKind.signed, IntKind.bits] at this
      omega
    refine ⟨(zs.take len).map Int.toNat, ⟨by simp [bytesV]; omega, hl, hm, fun _ => ⟨x, rfl, fun j u hu => ?_⟩⟩, ?_⟩
    · simp only [bytesV, List.map_map, List.getElem?_map, Option.map_eq_some_iff] at hu
      obtain ⟨y, hy, rfl⟩ := hu
      rw [List.getElem?_take] at hy
      split at hy
      · rename_i hj
        have hjz : j < zs.length := by omega
        rw [List.getElem?_eq_getElem hjz] at hy
        cases hy
        have h2 := hr zs[j] (List.getElem_mem hjz)
        rw [hcell j hjz]
        have : zs.getD j 0 = zs[j] := by simp [hjz]
        rw [this]
        show some (Value.int .u8 _) = some (Value.int .u8 ((zs[j].toNat : Nat) : Int))
        congr 2; omega
      · cases hy
    · intro y hy
      simp only [List.mem_map] at hy
      obtain ⟨z, hz1, rfl⟩ := hy
      have := hr z (List.mem_of_mem_take hz1)
      omega

theorem u8_of {a : Int} (w : (Lit.int .u8 a).wf = true) : ∃ n : Nat, a = n ∧ n ≤ 255 := by
  simp [Lit.wf, IntKind.min, IntKind.max, IntKind.signed, IntKind.bits] at w
  exact ⟨a.toNat, by omega, by omega⟩
end
end Go.Proofs.YtedopgkbajhanaaGreatDoor

namespace Go.Proofs.YtedopgkbajhanaaGreatDoor
section
open Go Go.RowKit Go.ChangeShapes

variable {H : Type} {enc : TypeId × Value → H}

theorem lst3 {α : Type} {l : List α} (h : l.length = 3) : ∃ a b c, l = [a, b, c] := by
  match l, h with
  | [a, b, c], _ => exact ⟨a, b, c, rfl⟩
/-- A slice of structs of which each is read. -/
theorem sls_of {W : World} {α : Type} {cells : α → List Value} {e : Nat} (hce : ∀ x, (cells x).length = e) (he : 0 < e) {t te : TypeId} {fuel : Nat} {cs : List Value} {z : DataW H × List MemPlace}
    (ht : Tryz.prog.underlying t = some (.slice te)) (hc5 : Tryz.prog.cellsOf te = e) (hin : Inhabited α)
    (one : ∀ (cs : List Value) (fuel : Nat) (D : DataW H × List MemPlace), cs.length = e → DataW.trod enc Tryz.prog W 0 (fun _ => true) true fuel te cs = some D → ∃ y, cells y = cs)
    {a : Option Addr} {len cap : Nat} (hcs : cs = [.slice a len cap]) (hf : DataW.trod enc Tryz.prog W 0 (fun _ => true) true fuel t cs = some z) : ∃ l, SlS cells e W a len cap l := by
  subst hcs
  rcases Go.Deep.open_slice ht hf with ⟨hcs, _⟩ | ⟨x, l, c, m, n, D, Pl, hcs, _, hl, hm, hmm, _, hx⟩
  · simp at hcs
    obtain ⟨rfl, rfl, rfl⟩ := hcs
    exact ⟨[], SlS.nil W⟩
  · simp at hcs
    obtain ⟨rfl, rfl, rfl⟩ := hcs
    simp only [if_true] at hmm
    subst hmm
    have each : ∀ i, i < m → ∃ y : α, ∀ j v, (cells y)[j]? = some v → W.cell? (x.add (i * e + j)) = some v := by
      intro i hi
      obtain ⟨cs, h1, h2⟩ := hx i hi
      rw [hc5] at h1
      obtain ⟨_, hlen, hcell⟩ := World.cells?_some h1
      obtain ⟨y, rfl⟩ := one _ _ _ hlen h2
      refine ⟨y, fun j v hj => ?_⟩
      have hj5 : j < e := by have := (List.getElem?_eq_some_iff.1 hj).1; rw [hce] at this; exact this
      have := hcell j hj5
      rw [add_add] at this
      rw [this]
      exact hj
    obtain ⟨Y, hY⟩ := Go.Deep.choose_lt each
    refine ⟨(List.range len).map Y, ⟨⟨?_, hl, hm, fun _ => ⟨x, rfl, fun j u hu => ?_⟩⟩, by simp⟩⟩
    · rw [flat_length hce]; simp
    · have hjl := (List.getElem?_eq_some_iff.1 hu).1
      rw [flat_length hce] at hjl
      simp at hjl
      have hi : j / e < len := Nat.div_lt_of_lt_mul (by rw [Nat.mul_comm]; exact hjl)
      have hr : j % e < e := Nat.mod_lt _ he
      have hdm : j / e * e + j % e = j := by rw [Nat.mul_comm]; exact Nat.div_add_mod j e
      have hg : ((List.range len).map Y)[j / e]? = some (Y (j / e)) := by simp [hi]
      have hc := List.getElem?_eq_getElem (l := cells (Y (j / e))) (i := j % e) (by rw [hce]; exact hr)
      have h1 := flat_get hce _ _ _ _ _ hg hc
      rw [hdm, hu] at h1
      have h2 := hY (j / e) (Nat.lt_of_lt_of_le hi hl) _ _ hc
      rw [hdm] at h2
      rw [h2, ← Option.some.inj h1]
end
end Go.Proofs.YtedopgkbajhanaaGreatDoor

namespace Go.Proofs.YtedopgkbajhanaaGreatDoor
section
open Go Go.RowKit Go.ChangeShapes

variable {H : Type} {enc : TypeId × Value → H}

theorem sub_of {α : Type} {p : α → Prop} {f : α → List Value} {sz : Nat} {W : World} {a : Option Addr} {len cap : Nat} (h : ∃ l : List { x : α // p x }, SlS (fun y => f y.1) sz W a len cap l) : ∃ l : List α, SlS f sz W a len cap l ∧ ∀ x ∈ l, p x := by
  obtain ⟨l, h1, h2⟩ := h
  refine ⟨l.map Subtype.val, ⟨?_, by simpa using h2⟩, fun x hx => ?_⟩
  · rw [List.flatMap_map]; exact h1
  · obtain ⟨y, _, rfl⟩ := List.mem_map.1 hx
    exact y.2
/-! ### Lines of made files -/
structure Lx where
  k : Nat
  i : Nat
  ws : List Nat
  A : Option Addr
  n : Nat
  c : Nat
def Lx.cells (x : Lx) : List Value := [.int .u8 (x.k : Nat), .int .u8 (x.i : Nat), .slice x.A x.n x.c]
structure LxOk (W : World) (x : Lx) : Prop where
  k8 : x.k ≤ 255
  i8 : x.i ≤ 255
  sl : Sl W 1 x.A x.n x.c (bytesV x.ws)
  w8 : ∀ b ∈ x.ws, b ≤ 255
theorem LxOk.ext {W W' : World} {x : Lx} (h : LxOk W x) (k : Ext W W') : LxOk W' x := ⟨h.k8, h.i8, h.sl.ext k, h.w8⟩
theorem line_one {W : World} (cs : List Value) (fuel : Nat) (D : DataW H × List MemPlace) (hl : cs.length = 3) (h : DataW.trod enc Tryz.prog W 0 (fun _ => true) true fuel 166 cs = some D) : ∃ y : { x : Lx // LxOk W x }, y.1.cells = cs := by
  have hc3 : Tryz.prog.cellsOf 5 = 1 := by kernel_rfl
  have hc4 : Tryz.prog.cellsOf 74 = 1 := by kernel_rfl
  obtain ⟨xs, k, _, _, _, hxl, hfl⟩ := DataW.trod_struct Tryz.underlying166 h
  obtain ⟨y0, y1, y2, rfl⟩ := lst3 (show xs.length = 3 from hxl)
  obtain ⟨v0, v1, v2, rfl⟩ := lst3 hl
  have g0 := hfl 0 _ rfl
  have g1 := hfl 1 _ rfl
  have g2 := hfl 2 _ rfl
  simp [hc3, hc4] at g0 g1 g2
  obtain ⟨n0, e0, _, w0⟩ := DataW.trod_int Tryz.underlying5 g0
  obtain ⟨n1, e1, _, w1⟩ := DataW.trod_int Tryz.underlying5 g1
  simp at e0 e1
  subst e0 e1
  have key : ∃ a n c, v2 = .slice a n c := by
    rcases Go.Deep.open_slice Tryz.underlying74 g2 with ⟨hcs, _⟩ | ⟨x, l, c, m, n, D, Pl, hcs, _⟩
    · simp at hcs; exact ⟨_, _, _, hcs⟩
    · simp at hcs; exact ⟨_, _, _, hcs⟩
  obtain ⟨a, n, c, rfl⟩ := key
  obtain ⟨ws, hS, h8⟩ := u8s_of ⟨_, g2⟩
  obtain ⟨m0, rfl, q0⟩ := u8_of w0
  obtain ⟨m1, rfl, q1⟩ := u8_of w1
  exact ⟨⟨⟨m0, m1, ws, a, n, c⟩, ⟨q0, q1, hS, h8⟩⟩, rfl⟩
theorem lines_of {W : World} {a : Option Addr} {len cap : Nat} {d : DataW H} {p : List MemPlace} (h : DataW.Trod enc Tryz.prog W 0 (fun _ => true) true 58 (.slice a len cap) d p) : ∃ l, SlS Lx.cells 3 W a len cap l ∧ ∀ x ∈ l, LxOk W x := by
  obtain ⟨fuel, hf⟩ := h
  exact sub_of (sls_of (cells := fun y : { x : Lx // LxOk W x } => y.1.cells) (fun _ => rfl) (by decide) Tryz.underlying58 (by kernel_rfl) ⟨⟨⟨0, 0, [], none, 0, 0⟩, ⟨by simp, by simp, Sl.nil W 1, by simp⟩⟩⟩ line_one rfl hf)

/-! ### Sources -/
/-! ### Arrays -/
end
end Go.Proofs.YtedopgkbajhanaaGreatDoor

namespace Go.Proofs.YtedopgkbajhanaaGreatDoor
section
open Go Go.RowKit

theorem okL : ((List.range 5).all fun k => (List.range 256).all fun b => (formT (letters12.take k) b).all (fun x => decide (x ≠ 10 ∧ x < 256)) && decide ((formT (letters12.take k) b).length ≤ 20)) = true := by decide +kernel
theorem form_line {k b : Nat} (hk : k ≤ 4) (hb : b ≤ 255) : 10 ∉ formT (letters12.take k) b ∧ (∀ x ∈ formT (letters12.take k) b, x < 256) ∧ (formT (letters12.take k) b).length ≤ 20 := by
  have h := List.all_eq_true.1 (List.all_eq_true.1 okL k (List.mem_range.2 (by omega))) b (List.mem_range.2 (by omega))
  rw [Bool.and_eq_true] at h
  have h1 := List.all_eq_true.1 h.1
  exact ⟨fun hh => (of_decide_eq_true (h1 10 hh)).1 rfl, fun x hx => (of_decide_eq_true (h1 x hx)).2, of_decide_eq_true h.2⟩
end
end Go.Proofs.YtedopgkbajhanaaGreatDoor

namespace Go.Proofs.YtedopgkbajhanaaGreatDoor
section
open Go Go.RowKit

def wrdT (k : Nat) : List Nat := ([[120], [43], [121], [42], [40], [41], [105, 102], [101, 108, 115, 101], [59], [94], [122], [37, 99]][k % 12]?).getD []
theorem wrd_ok (k : Nat) : 10 ∉ wrdT k ∧ 35 ∉ wrdT k ∧ (∀ x ∈ wrdT k, x < 256) ∧ (wrdT k).length ≤ 4 := by
  unfold wrdT
  have h := Nat.mod_lt k (show 12 > 0 by decide)
  generalize k % 12 = r at h
  have key : (List.range 12).all (fun r => decide (10 ∉ (([[120], [43], [121], [42], [40], [41], [105, 102], [101, 108, 115, 101], [59], [94], [122], [37, 99]] : List (List Nat))[r]?).getD [] ∧ 35 ∉ (([[120], [43], [121], [42], [40], [41], [105, 102], [101, 108, 115, 101], [59], [94], [122], [37, 99]] : List (List Nat))[r]?).getD [] ∧ (∀ x ∈ (([[120], [43], [121], [42], [40], [41], [105, 102], [101, 108, 115, 101], [59], [94], [122], [37, 99]] : List (List Nat))[r]?).getD [], x < 256) ∧ ((([[120], [43], [121], [42], [40], [41], [105, 102], [101, 108, 115, 101], [59], [94], [122], [37, 99]] : List (List Nat))[r]?).getD []).length ≤ 4)) = true := by decide
  exact of_decide_eq_true (List.all_eq_true.1 key r (List.mem_range.2 h))
/-- Words with a blank ahead of each but the first; a remark ends them. -/
def wsT : Bool → List Nat → List Nat
  | _, [] => []
  | sp, w :: l => (if sp then [32] else []) ++ (wrdT w ++ (if w % 12 = 11 then [] else wsT true l))
theorem ws_ok : ∀ (sp : Bool) (l : List Nat), 10 ∉ wsT sp l ∧ 35 ∉ wsT sp l ∧ (∀ x ∈ wsT sp l, x < 256) ∧ (wsT sp l).length ≤ 5 * l.length
  | _, [] => by simp [wsT]
  | sp, w :: l => by
    obtain ⟨h1, h2, h3, h4⟩ := wrd_ok w
    obtain ⟨i1, i2, i3, i4⟩ := ws_ok true l
    have key : ∀ x ∈ wsT sp (w :: l), x = 32 ∨ x ∈ wrdT w ∨ x ∈ wsT true l := fun x hx => by
      rw [wsT] at hx
      rcases List.mem_append.1 hx with hx | hx
      · cases sp <;> simp at hx; exact .inl hx
      rcases List.mem_append.1 hx with hx | hx
      · exact .inr (.inl hx)
      · split at hx
        · cases hx
        · exact .inr (.inr hx)
    refine ⟨fun h => ?_, fun h => ?_, fun x hx => ?_, ?_⟩
    · rcases key _ h with h | h | h
      · cases h
      · exact h1 h
      · exact i1 h
    · rcases key _ h with h | h | h
      · cases h
      · exact h2 h
      · exact i2 h
    · rcases key _ hx with h | h | h
      · omega
      · exact h3 _ h
      · exact i3 _ h
    · rw [wsT, List.length_append, List.length_append, List.length_cons]
      have e1 : (if sp = true then [32] else [] : List Nat).length ≤ 1 := by split <;> simp
      have e2 : (if w % 12 = 11 then [] else wsT true l).length ≤ 5 * l.length := by split <;> simp [i4]
      omega
/-- The text that a line of a made file has, if it is text. -/
def textT (k : Nat) (ws : List Nat) : List Nat := List.replicate (k / 8 % 4) 32 ++ wsT false (ws.take 6)
theorem text_ok3 (k : Nat) (ws : List Nat) : 10 ∉ textT k ws ∧ 35 ∉ textT k ws ∧ (∀ x ∈ textT k ws, x < 256) ∧ (textT k ws).length ≤ 33 := by
  obtain ⟨h1, h2, h3, h4⟩ := ws_ok false (ws.take 6)
  have hl : (ws.take 6).length ≤ 6 := by rw [List.length_take]; omega
  have key : ∀ x ∈ textT k ws, x = 32 ∨ x ∈ wsT false (ws.take 6) := fun x hx => by
    rcases List.mem_append.1 hx with hx | hx
    · exact .inl (List.eq_of_mem_replicate hx)
    · exact .inr hx
  refine ⟨fun h => ?_, fun h => ?_, fun x hx => ?_, ?_⟩
  · rcases key _ h with h | h
    · cases h
    · exact h1 h
  · rcases key _ h with h | h
    · cases h
    · exact h2 h
  · rcases key _ hx with h | h
    · omega
    · exact h3 _ h
  · unfold textT
    rw [List.length_append, List.length_replicate]
    omega

theorem text_ok (k : Nat) (ws : List Nat) : TxOk (textT k ws) := by
  obtain ⟨h1, h2, h3, _⟩ := text_ok3 k ws
  exact ⟨h1, txt_dir (fun e => h2 (List.mem_of_mem_head? e)), h3⟩
theorem form_ok {k b : Nat} (hk : k ≤ 4) (hb : b ≤ 255) : FOk (letters12.take k) (formT (letters12.take k) b) (formO k b) :=
  ⟨(form_line hk hb).1, form_set hk hb, (form_line hk hb).2.1⟩

/-- A line, by its numbers and the open sections (whether each had its else). -/
def mdS (k0 : Nat) (ic : Bool) (x : Lx) (op : List Bool) : Mn × List Bool :=
  if x.k % 8 = 4 ∧ op.length < 3 then (.ifd (formT (letters12.take k0) x.i) (formO k0 x.i), false :: op)
  else if x.k % 8 = 5 ∧ op.head? = some false ∧ x.i % 2 = 0 then (.elif (formT (letters12.take k0) (x.i / 2)) (formO k0 (x.i / 2)), op)
  else if x.k % 8 = 5 ∧ op.head? = some false then (.els, true :: op.tail)
  else if x.k % 8 = 6 ∧ op ≠ [] then (.en, op.tail)
  else if x.k % 8 = 7 ∧ ic = true then (.inc, op)
  else (.tx (textT x.k x.ws), op)
def mdL (k0 : Nat) (ic : Bool) : List Lx → List Bool → List Mn
  | [], op => op.map (fun _ => .en)
  | x :: l, op => (mdS k0 ic x op).1 :: mdL k0 ic l (mdS k0 ic x op).2
theorem wf_ends (nm : List (List Nat)) (ic : Bool) (D : Nat) : ∀ (op : List Bool), wfM nm ic D op (op.map (fun _ => .en))
  | [] => trivial
  | b :: op => by
    have := wf_ends nm ic D op
    cases b <;> exact this
theorem wf_tx {nm : List (List Nat)} {ic : Bool} {D : Nat} {op : List Bool} {s : List Nat} {l : List Mn} (h : TxOk s) (h' : wfM nm ic D op l) : wfM nm ic D op (.tx s :: l) := by
  cases op with
  | nil => exact ⟨h, h'⟩
  | cons b op => cases b <;> exact ⟨h, h'⟩
theorem wf_inc {nm : List (List Nat)} {ic : Bool} {D : Nat} {op : List Bool} {l : List Mn} (h : ic = true) (h' : wfM nm ic D op l) : wfM nm ic D op (.inc :: l) := by
  cases op with
  | nil => exact ⟨h, h'⟩
  | cons b op => cases b <;> exact ⟨h, h'⟩
theorem wf_if {nm : List (List Nat)} {ic : Bool} {D : Nat} {op : List Bool} {F : List Nat} {o : BF} {l : List Mn} (hb : FOk nm F o) (h : op.length < D) (h' : wfM nm ic D (false :: op) l) : wfM nm ic D op (.ifd F o :: l) := by
  cases op with
  | nil => exact ⟨hb, h, h'⟩
  | cons c op => cases c <;> exact ⟨hb, h, h'⟩
theorem wf_en {nm : List (List Nat)} {ic : Bool} {D : Nat} {c : Bool} {op : List Bool} {l : List Mn} (h' : wfM nm ic D op l) : wfM nm ic D (c :: op) (.en :: l) := by
  cases c <;> exact h'
theorem md_wf {k0 : Nat} (hk : k0 ≤ 4) (ic : Bool) : ∀ (l : List Lx) (op : List Bool), (∀ x ∈ l, x.i ≤ 255) → op.length ≤ 3 → wfM (letters12.take k0) ic 3 op (mdL k0 ic l op)
  | [], op, _, _ => wf_ends _ ic 3 op
  | x :: l, op, hx, hop => by
    have hxi := hx x (by simp)
    have ih := fun op h => md_wf hk ic l op (fun y hy => hx y (by simp [hy])) h
    rw [mdL]
    unfold mdS
    split
    · rename_i h; exact wf_if (form_ok hk hxi) h.2 (ih _ (by simp; omega))
    split
    · rename_i h
      cases op with
      | nil => cases h.2.1
      | cons b op =>
        have hb : b = false := by have := h.2.1; simpa using this
        subst hb
        exact ⟨form_ok hk (by omega), ih _ hop⟩
    split
    · rename_i h
      cases op with
      | nil => cases h.2
      | cons b op =>
        have hb : b = false := by have := h.2; simpa using this
        subst hb
        exact ih (true :: op) hop
    split
    · rename_i h
      cases op with
      | nil => exact absurd rfl h.2
      | cons b op => exact wf_en (ih op (by simp at hop; omega))
    split
    · rename_i h; exact wf_inc h.2 (ih _ hop)
    · exact wf_tx (text_ok _ _) (ih _ hop)
/-- What one line may be. -/
def MnOk (nm : List (List Nat)) : Mn → Prop
  | .tx s => TxOk s
  | .ifd F o => FOk nm F o
  | .elif F o => FOk nm F o
  | _ => True
theorem wf_all {nm : List (List Nat)} {ic : Bool} {D : Nat} : ∀ {l : List Mn} {op : List Bool}, wfM nm ic D op l → ∀ m ∈ l, MnOk nm m
  | [], _, _, m, hm => by cases hm
  | x :: l, op, h, m, hm => by
    have key : MnOk nm x ∧ ∃ op', wfM nm ic D op' l := by
      cases x with
      | tx s => cases op with
        | nil => exact ⟨h.1, _, h.2⟩
        | cons b op => cases b <;> exact ⟨h.1, _, h.2⟩
      | ifd F o => cases op with
        | nil => exact ⟨h.1, _, h.2.2⟩
        | cons b op => cases b <;> exact ⟨h.1, _, h.2.2⟩
      | elif F o => cases op with
        | nil => exact h.elim
        | cons b op => cases b with
          | false => exact ⟨h.1, _, h.2⟩
          | true => exact h.elim
      | els => cases op with
        | nil => exact h.elim
        | cons b op => cases b with
          | false => exact ⟨trivial, _, h⟩
          | true => exact h.elim
      | en => cases op with
        | nil => exact h.elim
        | cons b op => cases b <;> exact ⟨trivial, _, h⟩
      | inc => cases op with
        | nil => exact ⟨trivial, _, h.2⟩
        | cons b op => cases b <;> exact ⟨trivial, _, h.2⟩
    rcases List.mem_cons.1 hm with rfl | hm
    · exact key.1
    · obtain ⟨op', h'⟩ := key.2; exact wf_all h' m hm
theorem mn_line {nm : List (List Nat)} {m : Mn} (h : MnOk nm m) : 10 ∉ mnT m ∧ ∀ x ∈ mnT m, x < 256 := by
  cases m with
  | tx s => exact ⟨h.nl, h.b8⟩
  | ifd F o => exact ⟨by simp [mnT, pIf, h.nl], b8_app (by decide) h.b8⟩
  | elif F o => exact ⟨by simp [mnT, pElif, h.nl], b8_app (by decide) h.b8⟩
  | els => exact ⟨by decide, by decide⟩
  | en => exact ⟨by decide, by decide⟩
  | inc => exact ⟨by decide, by decide⟩
theorem mns_lines {nm : List (List Nat)} {l : List Mn} (h : ∀ m ∈ l, MnOk nm m) : Lines (l.map mnT) := fun s hs => by
  obtain ⟨m, hm, rfl⟩ := List.mem_map.1 hs
  exact (mn_line (h m hm)).1
theorem mns_b8 {nm : List (List Nat)} {l : List Mn} (h : ∀ m ∈ l, MnOk nm m) : ∀ x ∈ unl (l.map mnT), x < 256 := plain_b8 (fun s hs => by
  obtain ⟨m, hm, rfl⟩ := List.mem_map.1 hs
  exact (mn_line (h m hm)).2)
/-- Lines are short. -/
def LnB (M : Nat) (l : List Mn) : Prop := ∀ m ∈ l, (mnT m).length < M
theorem mns_len {M : Nat} : ∀ {l : List Mn}, LnB M l → (unl (l.map mnT)).length ≤ l.length * M
  | [], _ => by simp [unl]
  | m :: l, h => by
    rw [List.map_cons, unl_cons, List.length_append, List.length_cons, List.length_cons]
    have h1 := mns_len (fun x hx => h x (by simp [hx]) : LnB M l)
    have h2 := h m (by simp)
    rw [Nat.add_mul, Nat.one_mul]
    omega
theorem em_len {M : Nat} {ie : BF → CB} (hie : ∀ k, (ie k).length ≤ M) : ∀ (l : List Mn) (k : BF) (op : List (BF × BF)), LnB M l → (emM ie l k op).length ≤ l.length * M
  | [], _, _, _ => by simp [emM]
  | m :: l, k, op, h => by
    have ih := fun k op => em_len hie l k op (fun x hx => h x (by simp [hx]))
    have hm := h m (by simp)
    have e : (m :: l).length * M = l.length * M + M := by rw [List.length_cons, Nat.add_mul, Nat.one_mul]
    rw [e]
    cases m with
    | tx s =>
      have hm : s.length < M := hm
      have := ih k op
      rw [emM, List.length_append, List.length_map, List.length_append, List.length_singleton]; omega
    | ifd F o => have := ih (bAnd k o) ((k, bSub k o) :: op); rw [emM]; omega
    | elif F o =>
      cases op with
      | nil => simp [emM]
      | cons x op => obtain ⟨ou, re⟩ := x; have := ih (bAnd re o) ((ou, bSub re o) :: op); rw [emM]; omega
    | els =>
      cases op with
      | nil => simp [emM]
      | cons x op => obtain ⟨ou, re⟩ := x; have := ih re ((ou, re) :: op); rw [emM]; omega
    | en =>
      cases op with
      | nil => simp [emM]
      | cons x op => obtain ⟨ou, re⟩ := x; have := ih ou op; rw [emM]; omega
    | inc =>
      have := hie k
      have := ih k op
      rw [emM, List.length_append]; omega
theorem mdS_len {k0 : Nat} {ic : Bool} {x : Lx} {op : List Bool} (h : op.length ≤ 3) : (mdS k0 ic x op).2.length ≤ 3 := by
  unfold mdS
  split
  · rename_i h; simp; omega
  split
  · exact h
  split
  · rename_i hh
    cases op with
    | nil => cases hh.2
    | cons b op => simpa using h
  split
  · simp; omega
  split <;> exact h
theorem md_len (k0 : Nat) (ic : Bool) : ∀ (l : List Lx) (op : List Bool), op.length ≤ 3 → (mdL k0 ic l op).length ≤ l.length + 3
  | [], op, h => by simp [mdL]; omega
  | x :: l, op, h => by
    rw [mdL, List.length_cons, List.length_cons]
    have := md_len k0 ic l _ (mdS_len (k0 := k0) (ic := ic) (x := x) h)
    omega
theorem mdS_b {k0 : Nat} (hk : k0 ≤ 4) {ic : Bool} {x : Lx} (hx : x.i ≤ 255) {op : List Bool} : (mnT (mdS k0 ic x op).1).length < 34 := by
  unfold mdS
  split
  · have := (form_line hk hx).2.2; simp [mnT, pIf]; omega
  split
  · have := (form_line hk (show x.i / 2 ≤ 255 by omega)).2.2; simp [mnT, pElif]; omega
  split
  · exact (by decide : (mnT Mn.els).length < 34)
  split
  · exact (by decide : (mnT Mn.en).length < 34)
  split
  · exact (by decide : (mnT Mn.inc).length < 34)
  · have := (text_ok3 x.k x.ws).2.2.2; show (textT x.k x.ws).length < 34; omega
theorem md_b {k0 : Nat} (hk : k0 ≤ 4) (ic : Bool) : ∀ (l : List Lx) (op : List Bool), (∀ x ∈ l, x.i ≤ 255) → LnB 34 (mdL k0 ic l op)
  | [], op, _ => fun m hm => by
    obtain ⟨_, _, rfl⟩ := List.mem_map.1 hm
    decide
  | x :: l, op, h => fun m hm => by
    rw [mdL] at hm
    rcases List.mem_cons.1 hm with rfl | hm
    · exact mdS_b hk (h x (by simp))
    · exact md_b hk ic l _ (fun y hy => h y (by simp [hy])) m hm

/-! ### The two files -/
def mainM (k0 : Nat) (main : List Lx) : List Mn := mdL k0 true (main.take 12) []
def othM (k0 : Nat) (other : List Lx) : List Mn := mdL k0 false (other.take 5) []
def madeF (k0 : Nat) (main other : List Lx) : List (List Nat × List Nat) := [([109], unl ((mainM k0 main).map mnT)), ([110], unl ((othM k0 other).map mnT))]
theorem main_wf {k0 : Nat} (hk : k0 ≤ 4) {main : List Lx} (h : ∀ x ∈ main, x.i ≤ 255) : wfM (letters12.take k0) true 3 [] (mainM k0 main) := md_wf hk true _ [] (fun x hx => h x (List.mem_of_mem_take hx)) (by simp)
theorem oth_wf {k0 : Nat} (hk : k0 ≤ 4) {other : List Lx} (h : ∀ x ∈ other, x.i ≤ 255) : wfM (letters12.take k0) false 3 [] (othM k0 other) := md_wf hk false _ [] (fun x hx => h x (List.mem_of_mem_take hx)) (by simp)
theorem main_b {k0 : Nat} (hk : k0 ≤ 4) {main : List Lx} (h : ∀ x ∈ main, x.i ≤ 255) : LnB 34 (mainM k0 main) := md_b hk true _ [] (fun x hx => h x (List.mem_of_mem_take hx))
theorem oth_b {k0 : Nat} (hk : k0 ≤ 4) {other : List Lx} (h : ∀ x ∈ other, x.i ≤ 255) : LnB 34 (othM k0 other) := md_b hk false _ [] (fun x hx => h x (List.mem_of_mem_take hx))
theorem main_len (k0 : Nat) (main : List Lx) : (mainM k0 main).length ≤ 15 := by
  have := md_len k0 true (main.take 12) [] (by simp)
  rw [List.length_take] at this
  unfold mainM; omega
theorem oth_len (k0 : Nat) (other : List Lx) : (othM k0 other).length ≤ 8 := by
  have := md_len k0 false (other.take 5) [] (by simp)
  rw [List.length_take] at this
  unfold othM; omega
def noE : BF → CB := fun _ => []
/-- What including the other file yields. -/
def othE (k0 : Nat) (other : List Lx) : BF → CB := fun k => emM noE (othM k0 other) k []
theorem othE_len {k0 : Nat} (hk : k0 ≤ 4) {other : List Lx} (h : ∀ x ∈ other, x.i ≤ 255) (k : BF) : (othE k0 other k).length ≤ 272 := by
  have := em_len (M := 34) (ie := noE) (fun _ => Nat.zero_le _) (othM k0 other) k [] (oth_b hk h)
  have := oth_len k0 other
  unfold othE; omega
def mainE (k0 : Nat) (main other : List Lx) : CB := emM (othE k0 other) (mainM k0 main) (fun _ => true) []
theorem mainE_len {k0 : Nat} (hk : k0 ≤ 4) {main other : List Lx} (h : ∀ x ∈ main, x.i ≤ 255) (h' : ∀ x ∈ other, x.i ≤ 255) : (mainE k0 main other).length ≤ 4080 := by
  have := em_len (M := 272) (fun k => othE_len (k0 := k0) hk h' k) (mainM k0 main) (fun _ => true) [] (fun m hm => by have := main_b hk h m hm; omega)
  have := main_len k0 main
  unfold mainE; omega
theorem filesE_list {fs : List (List Nat × List Nat)} (h : fs.length ≤ 256) (hc : chkFs fs [] 0 = none) : filesE fs = none := by
  unfold filesE; rw [if_neg (by omega), hc]
theorem made_read {k0 : Nat} (hk : k0 ≤ 4) {main other : List Lx} (h : ∀ x ∈ main, x.i ≤ 255) (h' : ∀ x ∈ other, x.i ≤ 255) :
    ∃ g, readE (letters12.take k0) (madeF k0 main other) [109] = .ok g ∧ cbG g = mainE k0 main other := by
  obtain ⟨hnb, hnok, hnl⟩ := letters_ok k0 (by omega)
  have hw := main_wf hk h
  have hw' := oth_wf hk h'
  have hL := mns_lines (wf_all hw)
  have hL' := mns_lines (wf_all hw')
  have l1 := mns_len (main_b hk h)
  have l2 := mns_len (oth_b hk h')
  have n1 := main_len k0 main
  have n2 := oth_len k0 other
  generalize hF : madeF k0 main other = fs
  have hx0 : fs[0]? = some ([109], unl ((mainM k0 main).map mnT)) := by rw [← hF]; rfl
  have hx1 : fs[1]? = some ([110], unl ((othM k0 other).map mnT)) := by rw [← hF]; rfl
  have hnames : fs.map (·.1) = [[109], [110]] := by rw [← hF]; rfl
  have hf : filesE fs = none := by
    rw [← hF]
    refine filesE_list (by simp [madeF]) ?_
    unfold madeF
    rw [chkFs, if_neg (fun hh => hh ⟨(show fnameOk [109] = true by decide), (by simp), textB_unl _⟩), if_neg (by simp only; omega)]
    rw [chkFs, if_neg (fun hh => hh ⟨(show fnameOk [110] = true by decide), (by simp), textB_unl _⟩), if_neg (by simp only; omega)]
    rfl
  unfold readE
  rw [if_neg (by rw [hnok]; decide), hf, hnames]
  simp only [show ixN [[109], [110]] [109] = some 0 by decide]
  rw [rdF, hx0]
  simp only [Option.map_some, Option.getD_some]
  rw [linesOf_unl hL]
  have hg0 : GInv fs ⟨[], [], true⟩ := ⟨rfl, fun s hs => by cases hs⟩
  have hlenE := mainE_len hk h h'
  obtain ⟨g, r1, r2, r3⟩ := rdM (nm := letters12.take k0) (n := 0) (d0 := 0) (inc := fun r ln d k g => match incE (ixN (fs.map (·.1))) [0] r with
      | .error e => .error ⟨e, (0 : Nat), ln⟩
      | .ok m => if d = 64 then .error ⟨2, (0 : Nat), ln⟩ else rdF (letters12.take k0) fs 64 [0] (d + 1) m k g) hx0 (ic := true) (D := 3) (ie := othE k0 other) (fun _ ln d k g hg _ hd hl => by
    rw [hnames]
    simp only [show incE (ixN [[109], [110]]) [0] nInc = .ok 1 by rfl]
    rw [if_neg (by omega), rdF, hx1]
    simp only [Option.map_some, Option.getD_some]
    rw [linesOf_unl hL']
    obtain ⟨g', q1, q2, q3⟩ := rdM (nm := letters12.take k0) (n := 1) (d0 := d + 1) (inc := fun r ln d k g => match incE (ixN (fs.map (·.1))) [1, 0] r with
      | .error e => .error ⟨e, (1 : Nat), ln⟩
      | .ok m => if d = 64 then .error ⟨2, (1 : Nat), ln⟩ else rdF (letters12.take k0) fs 63 [1, 0] (d + 1) m k g) hx1 (ic := false) (D := 3) (ie := noE) (fun h => by cases h) (by omega) (othM k0 other) 0 0 k [] { g with fr := true } (by rw [List.drop_zero]) (Nat.zero_le _) (hg.fr true) (fun h => by cases h) hw' (by simp) (by rw [cb_fr]; exact hl)
    refine ⟨g', ?_, q2, q3⟩
    exact q1) (by decide) (mainM k0 main) 0 0 (fun _ => true) [] ⟨[], [], true⟩ (by rw [List.drop_zero]) (Nat.zero_le _) hg0 (fun h => by cases h) hw (by simp) (by
      have e : (cbG ⟨[], [], true⟩).length = 0 := rfl
      rw [e, Nat.zero_add]
      show (mainE k0 main other).length ≤ _
      omega)
  exact ⟨g, r1, r3⟩
end
end Go.Proofs.YtedopgkbajhanaaGreatDoor

namespace Go.Proofs.YtedopgkbajhanaaGreatDoor
section
open Go Go.RowKit

/-! ### The lines that a configuration has -/
def onS : List Nat → Bool
  | [] => true
  | s :: _ => decide (s = 1)
/-- The text that one gets by following the directives; oth: the text of the other file. -/
def chM (e : Nat → Bool) (oth : List Nat) : List Mn → List Nat → List Nat
  | [], _ => []
  | .tx s :: l, st => (if onS st then s ++ [10] else []) ++ chM e oth l st
  | .ifd _ o :: l, st => chM e oth l ((if onS st then (if o e then 1 else 0) else 3) :: st)
  | .elif _ o :: l, st => match st with
    | [] => []
    | s :: st => chM e oth l ((if s = 1 then 2 else if s = 0 ∧ o e = true then 1 else s) :: st)
  | .els :: l, st => match st with
    | [] => []
    | s :: st => chM e oth l ((if s = 1 then 2 else if s = 0 then 1 else s) :: st)
  | .en :: l, st => match st with
    | [] => []
    | _ :: st => chM e oth l st
  | .inc :: l, st => (if onS st then oth else []) ++ chM e oth l st
/-- The numbers of the open sections say what their conditions say. -/
def RelS (e : Nat → Bool) : List Bool → BF → List (BF × BF) → List Nat → Prop
  | [], k, [], [] => k e = true
  | f :: fl, k, (ou, re) :: op, s :: st => RelS e fl ou op st ∧ ((s = 0 ∧ ou e = true ∧ k e = false ∧ (f = false → re e = true)) ∨ (s = 1 ∧ ou e = true ∧ k e = true ∧ (f = false → re e = false)) ∨ (s = 2 ∧ ou e = true ∧ k e = false ∧ (f = false → re e = false)) ∨ (s = 3 ∧ ou e = false ∧ k e = false ∧ (f = false → re e = false)))
  | _, _, _, _ => False
theorem RelS.on {e : Nat → Bool} : ∀ {fl : List Bool} {k : BF} {op : List (BF × BF)} {st : List Nat}, RelS e fl k op st → k e = onS st
  | [], _, [], [], h => h
  | f :: fl, k, (ou, re) :: op, s :: st, h => by
    rcases h.2 with ⟨rfl, h1, h2, _⟩ | ⟨rfl, h1, h2, _⟩ | ⟨rfl, h1, h2, _⟩ | ⟨rfl, h1, h2, _⟩ <;> rw [h2] <;> rfl
/-! ### The included file's lines in the place of the include -/
def expO (ln : List Mn) : Mn → List Mn
  | .inc => ln
  | .tx s => [.tx s]
  | .ifd F o => [.ifd F o]
  | .elif F o => [.elif F o]
  | .els => [.els]
  | .en => [.en]
def expM (ln : List Mn) : List Mn → List Mn
  | [] => []
  | m :: l => expO ln m ++ expM ln l
theorem wf_app {nm : List (List Nat)} {D D1 : Nat} {op : List Bool} {rest : List Mn} (hD : op.length + D1 ≤ D) (hr : wfM nm false D op rest) : ∀ (ln : List Mn) (op1 : List Bool), wfM nm false D1 op1 ln → op1.length ≤ D1 → wfM nm false D (op1 ++ op) (ln ++ rest)
  | [], op1, h, _ => by
    cases op1 with
    | nil => exact hr
    | cons b op1 => exact h.elim
  | m :: ln, op1, h, hl => by
    have ih := wf_app hD hr ln
    cases m with
    | tx s =>
      obtain ⟨w1, w2⟩ : TxOk s ∧ wfM nm false D1 op1 ln := by
        cases op1 with
        | nil => exact h
        | cons b op1 => cases b <;> exact h
      exact wf_tx w1 (ih op1 w2 hl)
    | ifd F o =>
      obtain ⟨w1, w2, w3⟩ : FOk nm F o ∧ op1.length < D1 ∧ wfM nm false D1 (false :: op1) ln := by
        cases op1 with
        | nil => exact h
        | cons b op1 => cases b <;> exact h
      exact wf_if w1 (by rw [List.length_append]; omega) (ih (false :: op1) w3 (by simp; omega))
    | elif F o =>
      cases op1 with
      | nil => exact h.elim
      | cons f op1 =>
        cases f with
        | true => exact h.elim
        | false => exact ⟨h.1, ih (false :: op1) h.2 hl⟩
    | els =>
      cases op1 with
      | nil => exact h.elim
      | cons f op1 =>
        cases f with
        | true => exact h.elim
        | false => exact ih (true :: op1) h hl
    | en =>
      cases op1 with
      | nil => exact h.elim
      | cons f op1 =>
        have w : wfM nm false D1 op1 ln := by cases f <;> exact h
        exact wf_en (ih op1 w (by simp at hl; omega))
    | inc =>
      have : (false : Bool) = true := by
        cases op1 with
        | nil => exact h.1
        | cons b op1 => cases b <;> exact h.1
      cases this
theorem wf_exp {nm : List (List Nat)} {ln : List Mn} (hn : wfM nm false 3 [] ln) : ∀ (l : List Mn) (op : List Bool), wfM nm true 3 op l → op.length ≤ 3 → wfM nm false 6 op (expM ln l)
  | [], op, h, _ => by
    cases op with
    | nil => trivial
    | cons b op => exact h.elim
  | m :: l, op, h, hl => by
    have ih := wf_exp hn l
    cases m with
    | tx s =>
      obtain ⟨w1, w2⟩ : TxOk s ∧ wfM nm true 3 op l := by
        cases op with
        | nil => exact h
        | cons b op => cases b <;> exact h
      exact wf_tx w1 (ih op w2 hl)
    | ifd F o =>
      obtain ⟨w1, w2, w3⟩ : FOk nm F o ∧ op.length < 3 ∧ wfM nm true 3 (false :: op) l := by
        cases op with
        | nil => exact h
        | cons b op => cases b <;> exact h
      exact wf_if w1 (by omega) (ih (false :: op) w3 (by simp; omega))
    | elif F o =>
      cases op with
      | nil => exact h.elim
      | cons f op =>
        cases f with
        | true => exact h.elim
        | false => exact ⟨h.1, ih (false :: op) h.2 hl⟩
    | els =>
      cases op with
      | nil => exact h.elim
      | cons f op =>
        cases f with
        | true => exact h.elim
        | false => exact ih (true :: op) h hl
    | en =>
      cases op with
      | nil => exact h.elim
      | cons f op =>
        have w : wfM nm true 3 op l := by cases f <;> exact h
        exact wf_en (ih op w (by simp at hl; omega))
    | inc =>
      have w : wfM nm true 3 op l := by
        cases op with
        | nil => exact h.2
        | cons b op => cases b <;> exact h.2
      exact wf_app (op1 := []) (by omega) (ih op w hl) ln hn (by simp)
/-- The condition around all open sections. -/
def baseK (k : BF) : List (BF × BF) → BF
  | [] => k
  | (ou, _) :: op => baseK ou op
theorem em_app {nm : List (List Nat)} {D : Nat} {op : List (BF × BF)} {rest : List Mn} : ∀ (ln : List Mn) (fl : List Bool) (k : BF) (op1 : List (BF × BF)), wfM nm false D fl ln → fl.length = op1.length → emM noE (ln ++ rest) k (op1 ++ op) = emM noE ln k op1 ++ emM noE rest (baseK k op1) op
  | [], fl, k, op1, h, hl => by
    cases fl with
    | nil =>
      have : op1 = [] := List.eq_nil_of_length_eq_zero hl.symm
      subst this; rfl
    | cons b fl => exact h.elim
  | m :: ln, fl, k, op1, h, hl => by
    have ih := em_app (nm := nm) (D := D) (op := op) (rest := rest) ln
    cases m with
    | tx s =>
      have w : wfM nm false D fl ln := by
        cases fl with
        | nil => exact h.2
        | cons b fl => cases b <;> exact h.2
      rw [List.cons_append, emM, emM, ih fl k op1 w hl, List.append_assoc]
    | ifd F o =>
      have w : wfM nm false D (false :: fl) ln := by
        cases fl with
        | nil => exact h.2.2
        | cons b fl => cases b <;> exact h.2.2
      rw [List.cons_append, emM, emM]
      exact ih (false :: fl) _ ((k, bSub k (o)) :: op1) w (by simp [hl])
    | elif F o =>
      cases fl with
      | nil => exact h.elim
      | cons f fl =>
        cases f with
        | true => exact h.elim
        | false =>
          cases op1 with
          | nil => cases hl
          | cons y op1 =>
            obtain ⟨ou, re⟩ := y
            exact ih (false :: fl) _ ((ou, bSub re (o)) :: op1) h.2 hl
    | els =>
      cases fl with
      | nil => exact h.elim
      | cons f fl =>
        cases f with
        | true => exact h.elim
        | false =>
          cases op1 with
          | nil => cases hl
          | cons y op1 =>
            obtain ⟨ou, re⟩ := y
            exact ih (true :: fl) re ((ou, re) :: op1) h hl
    | en =>
      cases fl with
      | nil => exact h.elim
      | cons f fl =>
        have w : wfM nm false D fl ln := by cases f <;> exact h
        cases op1 with
        | nil => cases hl
        | cons y op1 =>
          obtain ⟨ou, re⟩ := y
          exact ih fl ou op1 w (by simpa using hl)
    | inc =>
      have : (false : Bool) = true := by
        cases fl with
        | nil => exact h.1
        | cons b fl => cases b <;> exact h.1
      cases this
theorem em_exp {nm : List (List Nat)} {ln : List Mn} (hn : wfM nm false 3 [] ln) : ∀ (l : List Mn) (k : BF) (op : List (BF × BF)), emM noE (expM ln l) k op = emM (fun k => emM noE ln k []) l k op
  | [], _, _ => rfl
  | m :: l, k, op => by
    have ih := em_exp hn l
    cases m with
    | tx s => show emM noE (Mn.tx s :: expM ln l) k op = _; rw [emM, emM, ih]
    | ifd F o => show emM noE (Mn.ifd F o :: expM ln l) k op = _; rw [emM, emM, ih]
    | elif F o =>
      show emM noE (Mn.elif F o :: expM ln l) k op = _
      cases op with
      | nil => rfl
      | cons y op => obtain ⟨ou, re⟩ := y; exact ih _ _
    | els =>
      show emM noE (Mn.els :: expM ln l) k op = _
      cases op with
      | nil => rfl
      | cons y op => obtain ⟨ou, re⟩ := y; exact ih _ _
    | en =>
      show emM noE (Mn.en :: expM ln l) k op = _
      cases op with
      | nil => rfl
      | cons y op => obtain ⟨ou, re⟩ := y; exact ih _ _
    | inc => show emM noE (ln ++ expM ln l) k op = _; rw [emM, ← ih]; exact em_app (op1 := []) ln [] k hn rfl
theorem exp_len {ln : List Mn} {M : Nat} (h : ln.length ≤ M) (h1 : 1 ≤ M) : ∀ l : List Mn, (expM ln l).length ≤ l.length * M
  | [] => by simp [expM]
  | m :: l => by
    have ih := exp_len h h1 l
    have e : (m :: l).length * M = l.length * M + M := by rw [List.length_cons, Nat.add_mul, Nat.one_mul]
    rw [e]
    have : (expO ln m).length ≤ M := by cases m <;> simp only [expO, List.length_singleton] <;> omega
    rw [expM, List.length_append]; omega

/-- One file alone. -/
theorem one_read {nm : List (List Nat)} {M D : Nat} (hn : numsOk nm = true) (hD : D < 64) {l : List Mn} (hw : wfM nm false D [] l) (hb : LnB M l) (hl : l.length * M ≤ 60000) {f : List Nat} (hf1 : fnameOk f = true) :
    ∃ g, readE nm [(f, unl (l.map mnT))] f = .ok g ∧ cbG g = emM noE l (fun _ => true) [] := by
  have hL := mns_lines (wf_all hw)
  have l1 := mns_len hb
  generalize hF : [(f, unl (l.map mnT))] = fs
  have hx0 : fs[0]? = some (f, unl (l.map mnT)) := by rw [← hF]; rfl
  have hnames : fs.map (·.1) = [f] := by rw [← hF]; rfl
  have hfe : filesE fs = none := by
    rw [← hF]
    refine filesE_list (by simp) ?_
    rw [chkFs, if_neg (fun hh => hh ⟨hf1, (by simp), textB_unl _⟩), if_neg (by simp only; omega)]
    rfl
  unfold readE
  rw [if_neg (by rw [hn]; decide), hfe, hnames]
  simp only [show ixN [f] f = some 0 from ixN_head (by simp)]
  rw [rdF, hx0]
  simp only [Option.map_some, Option.getD_some]
  rw [linesOf_unl hL]
  have hg0 : GInv fs ⟨[], [], true⟩ := ⟨rfl, fun s hs => by cases hs⟩
  have hlenE := em_len (ie := noE) (fun _ => Nat.zero_le _) l (fun _ => true) [] hb
  obtain ⟨g, r1, r2, r3⟩ := rdM (nm := nm) (n := 0) (d0 := 0) (inc := fun r ln d k g => match incE (ixN (fs.map (·.1))) [0] r with
      | .error e => .error ⟨e, (0 : Nat), ln⟩
      | .ok m => if d = 64 then .error ⟨2, (0 : Nat), ln⟩ else rdF nm fs 64 [0] (d + 1) m k g) hx0 (ic := false) (D := D) (ie := noE) (fun h => by cases h) (by omega) l 0 0 (fun _ => true) [] ⟨[], [], true⟩ (by rw [List.drop_zero]) (Nat.zero_le _) hg0 (fun h => by cases h) hw (Nat.zero_le _) (by
      have e : (cbG ⟨[], [], true⟩).length = 0 := rfl
      rw [e, Nat.zero_add]
      show (emM noE l (fun _ => true) []).length ≤ _
      omega)
  exact ⟨g, r1, r3⟩
end
end Go.Proofs.YtedopgkbajhanaaGreatDoor

namespace Go.Proofs.YtedopgkbajhanaaGreatDoor
section
open Go Go.RowKit

/-! ### Offsets -/
def cbS (tx : List Nat) (l : List Sg) : CB := l.flatMap (fun s => (pieceG tx s).map (fun b => (b, s.o)))
def cnt (e : Nat → Bool) (c : CB) : Nat := (c.filter (fun p => p.2 e)).length
theorem piece_len {tx : List Nat} {s : Sg} (h : s.t ≤ tx.length) : (pieceG tx s).length = s.t - s.f := by
  unfold pieceG; rw [List.length_drop, List.length_take]; omega
abbrev SgB (tl : Nat) (l : List Sg) : Prop := ∀ x ∈ l, x.f < x.t ∧ x.t ≤ tl
section
variable {fs : List (List Nat × List Nat)} {g : Gs} (h : GInv fs g)
include h
theorem sgb : SgB g.tx.length g.sg := fun x hx => ⟨(h.ok x hx).ft, (h.ok x hx).tl⟩
theorem cb_get (at_ : Nat) (ha : at_ < g.tx.length) : ∃ p, (cbG g)[at_]? = some p ∧ g.tx[at_]? = some p.1 := by
  have hl := cb_len h
  refine ⟨(cbG g)[at_]'(by omega), List.getElem?_eq_getElem _, ?_⟩
  have hg : g.tx[at_]? = ((cbG g).map (·.1))[at_]? := by rw [cb_fst h]
  rw [hg, List.getElem?_map, List.getElem?_eq_getElem (by omega)]; rfl
end
/-! ### The condition of a byte, by segments -/
/-- The segment that holds a byte. -/
theorem seg_at {tx : List Nat} {l : List Sg} {i : Nat} {s : Sg} {at_ a : Nat} (hc : ChG a l tx.length) (hb : SgB tx.length l) (hs : l[i]? = some s) (h1 : s.f ≤ at_) (h2 : at_ < s.t) : ∃ b, a ≤ s.f ∧ (cbS tx l)[at_ - a]? = some (b, s.o) := by
  induction l generalizing a i with
  | nil => cases hs
  | cons y l ih =>
    have hy := hb y (by simp)
    have hf : y.f = a := hc.1
    have hpl := piece_len hy.2
    have hcb : cbS tx (y :: l) = (pieceG tx y).map (fun b => (b, y.o)) ++ cbS tx l := rfl
    cases i with
    | zero =>
      have hys : y = s := by simpa using hs
      subst hys
      rw [hcb, List.getElem?_append_left (by rw [List.length_map, hpl]; omega), List.getElem?_map, List.getElem?_eq_getElem (by rw [hpl]; omega)]
      exact ⟨_, by omega, rfl⟩
    | succ i =>
      obtain ⟨b, q1, q2⟩ := ih hc.2 (fun x hx => hb x (by simp [hx])) (by simpa using hs)
      refine ⟨b, by omega, ?_⟩
      have ha2 : at_ - a = ((pieceG tx y).map (fun b => (b, y.o))).length + (at_ - y.t) := by rw [List.length_map, hpl]; omega
      rw [hcb, ha2, List.getElem?_append_right (by omega), Nat.add_sub_cancel_left]
      exact q2

/-! ### The scan for includes -/
def incD : List Nat := pInc ++ nInc ++ [10]
def scanP (oth : List Nat) : Nat → List Nat → List Nat
  | 0, _ => []
  | _ + 1, [] => []
  | f + 1, b :: r => if incD.isPrefixOf (b :: r) then oth ++ scanP oth f ((b :: r).drop 13) else b :: scanP oth f r
theorem scanIn {oth : List Nat} : ∀ (s : List Nat) (f : Nat) (r : List Nat), 35 ∉ s → (s ++ 10 :: r).length ≤ f → ∃ f', r.length ≤ f' ∧ scanP oth f (s ++ 10 :: r) = s ++ 10 :: scanP oth f' r
  | [], f, r, _, hf => by
    cases f with
    | zero => simp at hf
    | succ f => exact ⟨f, by simp at hf; omega, by rw [List.nil_append, scanP, if_neg (by simp [incD, pInc, List.isPrefixOf])]; rfl⟩
  | b :: s, f, r, h, hf => by
    cases f with
    | zero => simp at hf
    | succ f =>
      simp only [List.mem_cons, not_or] at h
      obtain ⟨f', h1, h2⟩ := scanIn s f r h.2 (by simp at hf ⊢; omega)
      refine ⟨f', h1, ?_⟩
      rw [List.cons_append, scanP, if_neg (by simp [incD, pInc, List.isPrefixOf, h.1]), h2]; rfl
theorem scan_hash {oth : List Nat} {s : List Nat} {f : Nat} {r : List Nat} (h : 35 ∉ s) (hp : ¬ incD.isPrefixOf (35 :: (s ++ 10 :: r)) = true) (hf : (35 :: (s ++ 10 :: r)).length ≤ f) : ∃ f', r.length ≤ f' ∧ scanP oth f (35 :: (s ++ 10 :: r)) = 35 :: (s ++ 10 :: scanP oth f' r) := by
  cases f with
  | zero => simp at hf
  | succ f =>
    obtain ⟨f', h1, h2⟩ := scanIn (oth := oth) s f r h (by simp at hf ⊢; omega)
    exact ⟨f', h1, by rw [scanP, if_neg hp, h2]⟩
theorem okH : ((List.range 5).all fun k => (List.range 256).all fun b => (formT (letters12.take k) b).all (fun x => decide (x ≠ 35))) = true := by decide +kernel
theorem form_hash {k b : Nat} (hk : k ≤ 4) (hb : b ≤ 255) : 35 ∉ formT (letters12.take k) b := fun hh => by
  have h := List.all_eq_true.1 (List.all_eq_true.1 okH k (List.mem_range.2 (by omega))) b (List.mem_range.2 (by omega))
  exact of_decide_eq_true (List.all_eq_true.1 h 35 hh) rfl
/-- No line has a number sign but at its begin. -/
def NhOk : Mn → Prop
  | .tx s => 35 ∉ s
  | .ifd F _ => 35 ∉ F
  | .elif F _ => 35 ∉ F
  | _ => True
theorem md_nh {k0 : Nat} (hk : k0 ≤ 4) (ic : Bool) : ∀ (l : List Lx) (op : List Bool), (∀ x ∈ l, x.i ≤ 255) → ∀ m ∈ mdL k0 ic l op, NhOk m
  | [], op, _ => fun m hm => by
    obtain ⟨_, _, rfl⟩ := List.mem_map.1 hm
    trivial
  | x :: l, op, h => fun m hm => by
    rw [mdL] at hm
    rcases List.mem_cons.1 hm with rfl | hm
    · have hx := h x (by simp)
      unfold mdS
      split
      · exact form_hash hk hx
      split
      · exact form_hash hk (show x.i / 2 ≤ 255 by omega)
      split
      · trivial
      split
      · trivial
      split
      · trivial
      · exact (text_ok3 x.k x.ws).2.1
    · exact md_nh hk ic l _ (fun y hy => h y (by simp [hy])) m hm
theorem scan_all {ln : List Mn} : ∀ (l : List Mn) (f : Nat), (∀ m ∈ l, NhOk m) → (unl (l.map mnT)).length ≤ f → scanP (unl (ln.map mnT)) f (unl (l.map mnT)) = unl ((expM ln l).map mnT)
  | [], f, _, _ => by cases f <;> rfl
  | m :: l, f, h, hf => by
    have ih := fun f hf => scan_all (ln := ln) l f (fun x hx => h x (by simp [hx])) hf
    have hm := h m (by simp)
    rw [List.map_cons, unl_cons] at hf ⊢
    cases m with
    | tx s =>
      obtain ⟨f', q1, q2⟩ := scanIn (oth := unl (ln.map mnT)) s f _ hm hf
      show scanP _ f (s ++ 10 :: _) = _
      rw [q2, ih f' q1, show expM ln (Mn.tx s :: l) = Mn.tx s :: expM ln l from rfl, List.map_cons, unl_cons]; rfl
    | ifd F o =>
      have hh : 35 ∉ F := hm
      have e : mnT (Mn.ifd F o) = 35 :: ([105, 102, 32] ++ F) := rfl
      rw [e, List.cons_append] at hf ⊢
      obtain ⟨f', q1, q2⟩ := scan_hash (oth := unl (ln.map mnT)) (s := [105, 102, 32] ++ F) (f := f) (r := unl (l.map mnT)) (by simp [hh]) (by simp [incD, pInc, List.isPrefixOf]) hf
      rw [show expM ln (Mn.ifd F o :: l) = Mn.ifd F o :: expM ln l from rfl, List.map_cons, unl_cons, ← ih f' q1]
      exact q2
    | elif F o =>
      have hh : 35 ∉ F := hm
      have e : mnT (Mn.elif F o) = 35 :: ([101, 108, 105, 102, 32] ++ F) := rfl
      rw [e, List.cons_append] at hf ⊢
      obtain ⟨f', q1, q2⟩ := scan_hash (oth := unl (ln.map mnT)) (s := [101, 108, 105, 102, 32] ++ F) (f := f) (r := unl (l.map mnT)) (by simp [hh]) (by simp [incD, pInc, List.isPrefixOf]) hf
      rw [show expM ln (Mn.elif F o :: l) = Mn.elif F o :: expM ln l from rfl, List.map_cons, unl_cons, ← ih f' q1]
      exact q2
    | els =>
      obtain ⟨f', q1, q2⟩ := scan_hash (oth := unl (ln.map mnT)) (s := [101, 108, 115, 101]) (f := f) (r := unl (l.map mnT)) (by decide) (by simp [incD, pInc, List.isPrefixOf]) hf
      rw [show expM ln (Mn.els :: l) = Mn.els :: expM ln l from rfl, List.map_cons, unl_cons, ← ih f' q1]
      exact q2
    | en =>
      obtain ⟨f', q1, q2⟩ := scan_hash (oth := unl (ln.map mnT)) (s := [101, 110, 100]) (f := f) (r := unl (l.map mnT)) (by decide) (by simp [incD, pInc, List.isPrefixOf]) hf
      rw [show expM ln (Mn.en :: l) = Mn.en :: expM ln l from rfl, List.map_cons, unl_cons, ← ih f' q1]
      exact q2
    | inc =>
      cases f with
      | zero => simp [mnT] at hf
      | succ f =>
        have e : mnT .inc ++ 10 :: unl (l.map mnT) = 35 :: ([105, 110, 99, 108, 117, 100, 101, 32, 34, 110, 34, 10] ++ unl (l.map mnT)) := rfl
        rw [e] at hf ⊢
        rw [scanP, if_pos (by simp [incD, pInc, nInc, List.isPrefixOf]), show expM ln (Mn.inc :: l) = ln ++ expM ln l from rfl, List.map_append]
        have e2 : (35 :: ([105, 110, 99, 108, 117, 100, 101, 32, 34, 110, 34, 10] ++ unl (l.map mnT))).drop 13 = unl (l.map mnT) := rfl
        rw [e2, ih f (by simp at hf; omega)]
        simp [unl]
end
end Go.Proofs.YtedopgkbajhanaaGreatDoor

namespace Go.Proofs.YtedopgkbajhanaaGreatDoor
section
open Go Go.RowKit

def wrdL : List (List Nat) := [[120], [43], [121], [42], [40], [41], [105, 102], [101, 108, 115, 101], [59], [94], [122], [37, 99]]
theorem wrd_fn (k : Nat) (w : World) (hk : k ≤ 255) : Fn Tryz.prog 132 [.int .u8 k] w (fun v w' => v = .string (strOf (wrdT k)) ∧ Ext w w') := by
  refine fn_of_exec (c := { c132 with cuts := [] }) gx_ok Tryz.func132 rfl rfl rfl ?_
  have h12 : k % 12 < 12 := Nat.mod_lt _ (by decide)
  refine at_buildN gx_ok (wrdL.map (fun s => [Value.string (strOf s)])) rfl rfl rfl rfl rfl ⟨rfl, rfl, rfl, rfl, rfl, rfl, rfl, rfl, rfl, rfl, rfl, rfl, rfl, rfl, rfl, rfl, rfl, rfl, rfl, rfl, rfl, rfl, rfl, rfl, ⟨⟩⟩ rfl (fun cs h => by simp only [List.mem_map] at h; obtain ⟨s, _, rfl⟩ := h; rfl) rfl (by decide) (by decide) ?_
  intro w1 hE1 hz1 hB1
  refine norm_i64_to ((k : Nat) : Int) rfl (by omega) ?_
  refine normIf (m := ((k % 12 : Nat) : Int)) (by decide) (tmod_nat k 12) ?_
  refine index (j := k % 12) h12 ?_
  refine load_blk hB1 (v := .string (strOf (wrdT k))) (by
    unfold wrdT
    generalize k % 12 = r at h12
    rcases (show r = 0 ∨ r = 1 ∨ r = 2 ∨ r = 3 ∨ r = 4 ∨ r = 5 ∨ r = 6 ∨ r = 7 ∨ r = 8 ∨ r = 9 ∨ r = 10 ∨ r = 11 by omega) with rfl | rfl | rfl | rfl | rfl | rfl | rfl | rfl | rfl | rfl | rfl | rfl <;> rfl) ?_
  exact ⟨rfl, hE1⟩

set_option maxHeartbeats 1600000 in
theorem mtext_fn (x : Lx) (w : World) (hx : LxOk w x) : Fn Tryz.prog 99 [.agg x.cells.toArray] w (fun v w' => v = .string (strOf (textT x.k x.ws ++ [10])) ∧ Ext w w') := by
  have hn : x.ws.length = x.n := by have := hx.sl.len; rw [bytesV_length] at this; omega
  have hcap : x.n ≤ 9223372036854775807 := by have := hx.sl.le; have := hx.sl.cap; simp only [maxLen] at this; omega
  have hk := hx.k8
  refine fn_of_exec (c := { c99 with cuts := [] }) gx_ok Tryz.func99 rfl rfl rfl ?_
  refine new (fun w1 hE1 hz1 hB1 => ?_)
  refine load_blk0 hB1 rfl ?_
  refine normIf (m := ((x.k / 8 : Nat) : Int)) (by decide) (by
    show IntKind.u8.wrap ((x.k / 8 : Nat) : Int) = _
    rw [wrap_u8_nat]; omega) ?_
  refine norm_i64_to ((x.k / 8 : Nat) : Int) rfl (by omega) ?_
  refine normIf (m := ((x.k / 8 % 4 : Nat) : Int)) (by decide) (tmod_nat _ 4) ?_
  have h4 : x.k / 8 % 4 < 4 := Nat.mod_lt _ (by decide)
  refine need_to (v' := .string (strOf (List.replicate (x.k / 8 % 4) 32))) (by
    generalize x.k / 8 % 4 = r at h4
    rcases (show r = 0 ∨ r = 1 ∨ r = 2 ∨ r = 3 by omega) with rfl | rfl | rfl | rfl <;> decide) (by
    generalize x.k / 8 % 4 = r at h4
    rcases (show r = 0 ∨ r = 1 ∨ r = 2 ∨ r = 3 by omega) with rfl | rfl | rfl | rfl <;> rfl) ?_
  refine loop gx_ok [4, 3] (fun s : Nat × List Nat => [.int .i64 s.1, .string (strOf s.2)]) (fun s w' => Ext w1 w' ∧ s.1 ≤ x.n ∧ s.1 ≤ 6 ∧ s.2.length ≤ 3 + s.1 * 5 ∧ s.2 ++ wsT (decide (0 < s.1)) ((x.ws.take 6).drop s.1) = textT x.k x.ws) (fun s _ => 6 - s.1) (0, List.replicate (x.k / 8 % 4) 32) rfl ⟨Ext.refl _, Nat.zero_le _, Nat.zero_le _, by simp; omega, rfl⟩ ?_
  rintro ⟨i, out⟩ w2 ⟨hE2, hi, hi6, hol, hrs⟩
  simp only at hi hi6 hol hrs
  have hB2 := hB1.ext hE2
  have so := strOf_size out
  have hSl := hx.sl.ext (hE1.trans hE2)
  have fine : out = textT x.k x.ws → out.length ≤ 40 → (strOf out).size + (strOf [10]).size ≤ maxLen := fun _ h => by rw [strOf_size, strOf_size]; show _ + 1 ≤ maxLen; unfold maxLen; omega
  have stop : (x.ws.take 6).drop i = [] → out = textT x.k x.ws := fun h => by rw [h, wsT, List.append_nil] at hrs; exact hrs
  refine load_blk hB2 rfl ?_
  refine wif_d (fun c1 => ?_) (fun c1 => ?_)
  · refine wif_d (fun c2 => ?_) (fun c2 => ?_)
    · have hin : i < x.n := by omega
      have hg : x.ws[i]? = some (x.ws[i]'(by omega)) := List.getElem?_eq_getElem _
      have hb := hx.w8 _ (List.mem_of_getElem? hg)
      generalize x.ws[i]'(by omega) = b at *
      have hdrop : (x.ws.take 6).drop i = b :: (x.ws.take 6).drop (i + 1) := drop_get (by rw [List.getElem?_take_of_lt (by omega)]; exact hg)
      rw [hdrop, wsT] at hrs
      obtain ⟨_, _, _, hwl⟩ := wrd_ok b
      refine wif_d (fun c3 => ?_) (fun c3 => ?_)
      · rw [if_pos (by simp; omega), ← List.append_assoc] at hrs
        have hl2 : (out ++ [32]).length ≤ 4 + i * 5 := by simp; omega
        refine need_to (v' := .string (strOf (out ++ [32]))) (by rw [so]; show _ + 1 ≤ maxLen; unfold maxLen; omega) (congrArg Value.string (strOf_append out [32])) ?_
        generalize out ++ [32] = o2 at *
        refine load_blk hB2 rfl ?_
        refine index_sl hSl hin (fun ad u hA hu hcell => ?_)
        rw [bytesV_get' hg] at hu
        cases hu
        refine load hcell ?_
        refine call (wrd_fn b w2 hb) ?_
        rintro _ w3 ⟨rfl, hE3⟩
        have so2 := strOf_size (o2)
        have so3 := strOf_size (wrdT b)
        refine need_to (v' := .string (strOf (o2 ++ wrdT b))) (by rw [so2, so3]; unfold maxLen; omega) (congrArg Value.string (strOf_append _ _)) ?_
        have hB3 := hB2.ext hE3
        have hSl3 := hSl.ext hE3
        refine load_blk hB3 rfl ?_
        refine index_sl hSl3 hin (fun ad u hA hu hcell => ?_)
        rw [bytesV_get' hg] at hu
        cases hu
        refine load hcell ?_
        refine normIf (m := ((b % 12 : Nat) : Int)) (by decide) (tmod_nat b 12) ?_
        refine wif_eq (fun c4 => ?_) (fun c4 => ?_)
        · rw [if_pos (by omega), List.append_nil] at hrs
          have so4 := strOf_size (o2 ++ wrdT b)
          refine need_to (v' := .string (strOf (o2 ++ wrdT b ++ [10]))) (by rw [so4, List.length_append]; show _ + 1 ≤ maxLen; unfold maxLen; omega) (congrArg Value.string (strOf_append _ [10])) ?_
          exact ⟨by rw [← hrs], hE1.trans (hE2.trans hE3)⟩
        · rw [if_neg (by omega), ← List.append_assoc] at hrs
          refine norm_i64_to ((i + 1 : Nat) : Int) (by show ((i : Nat) : Int) + 1 = _; omega) (by omega) ?_
          exact ⟨(i + 1, o2 ++ wrdT b), rfl, ⟨hE2.trans hE3, by show i + 1 ≤ x.n; omega, by show i + 1 ≤ 6; omega, by show (o2 ++ wrdT b).length ≤ 3 + (i + 1) * 5; rw [List.length_append]; omega, by show _ ++ wsT (decide (0 < i + 1)) _ = _; rw [show decide (0 < i + 1) = true by simp]; exact hrs⟩, by show 6 - (i + 1) < 6 - i; omega⟩
      · rw [if_neg (by simp; omega), List.nil_append] at hrs
        refine load_blk hB2 rfl ?_
        refine index_sl hSl hin (fun ad u hA hu hcell => ?_)
        rw [bytesV_get' hg] at hu
        cases hu
        refine load hcell ?_
        refine call (wrd_fn b w2 hb) ?_
        rintro _ w3 ⟨rfl, hE3⟩
        have so2 := strOf_size (out)
        have so3 := strOf_size (wrdT b)
        refine need_to (v' := .string (strOf (out ++ wrdT b))) (by rw [so2, so3]; unfold maxLen; omega) (congrArg Value.string (strOf_append _ _)) ?_
        have hB3 := hB2.ext hE3
        have hSl3 := hSl.ext hE3
        refine load_blk hB3 rfl ?_
        refine index_sl hSl3 hin (fun ad u hA hu hcell => ?_)
        rw [bytesV_get' hg] at hu
        cases hu
        refine load hcell ?_
        refine normIf (m := ((b % 12 : Nat) : Int)) (by decide) (tmod_nat b 12) ?_
        refine wif_eq (fun c4 => ?_) (fun c4 => ?_)
        · rw [if_pos (by omega), List.append_nil] at hrs
          have so4 := strOf_size (out ++ wrdT b)
          refine need_to (v' := .string (strOf (out ++ wrdT b ++ [10]))) (by rw [so4, List.length_append]; show _ + 1 ≤ maxLen; unfold maxLen; omega) (congrArg Value.string (strOf_append _ [10])) ?_
          exact ⟨by rw [← hrs], hE1.trans (hE2.trans hE3)⟩
        · rw [if_neg (by omega), ← List.append_assoc] at hrs
          refine norm_i64_to ((i + 1 : Nat) : Int) (by show ((i : Nat) : Int) + 1 = _; omega) (by omega) ?_
          exact ⟨(i + 1, out ++ wrdT b), rfl, ⟨hE2.trans hE3, by show i + 1 ≤ x.n; omega, by show i + 1 ≤ 6; omega, by show (out ++ wrdT b).length ≤ 3 + (i + 1) * 5; rw [List.length_append]; omega, by show _ ++ wsT (decide (0 < i + 1)) _ = _; rw [show decide (0 < i + 1) = true by simp]; exact hrs⟩, by show 6 - (i + 1) < 6 - i; omega⟩
    · have e := stop (List.drop_eq_nil_of_le (by rw [List.length_take]; omega))
      refine need_to (v' := .string (strOf (out ++ [10]))) (fine e (by omega)) (congrArg Value.string (strOf_append out [10])) ?_
      exact ⟨by rw [e], hE1.trans hE2⟩
  · have e := stop (List.drop_eq_nil_of_le (by rw [List.length_take]; omega))
    refine need_to (v' := .string (strOf (out ++ [10]))) (fine e (by omega)) (congrArg Value.string (strOf_append out [10])) ?_
    exact ⟨by rw [e], hE1.trans hE2⟩
end
end Go.Proofs.YtedopgkbajhanaaGreatDoor

namespace Go.Proofs.YtedopgkbajhanaaGreatDoor
section
open Go Go.RowKit

theorem lx_len (x : Lx) : x.cells.length = 3 := rfl
section
variable {k0 : Nat} {ic : Bool} {x : Lx} {op : List Bool}
theorem mdS_tx (h4 : x.k % 8 = 4 → 3 ≤ op.length) (h5 : x.k % 8 = 5 → op.head? ≠ some false) (h6 : x.k % 8 = 6 → op = []) (h7 : x.k % 8 = 7 → ic = false) : mdS k0 ic x op = (.tx (textT x.k x.ws), op) := by
  unfold mdS
  rw [if_neg (fun h => by have := h4 h.1; omega), if_neg (fun h => h5 h.1 h.2.1), if_neg (fun h => h5 h.1 h.2), if_neg (fun h => h.2 (h6 h.1)), if_neg (fun h => by rw [h7 h.1] at h; exact absurd h.2 (by decide))]
theorem mdS_if (h4 : x.k % 8 = 4) (h : op.length < 3) : mdS k0 ic x op = (.ifd (formT (letters12.take k0) x.i) (formO k0 x.i), false :: op) := by
  unfold mdS; rw [if_pos ⟨h4, h⟩]
theorem mdS_elif {op' : List Bool} (h5 : x.k % 8 = 5) (h : x.i % 2 = 0) : mdS k0 ic x (false :: op') = (.elif (formT (letters12.take k0) (x.i / 2)) (formO k0 (x.i / 2)), false :: op') := by
  unfold mdS; rw [if_neg (by omega), if_pos ⟨h5, rfl, h⟩]
theorem mdS_els {op' : List Bool} (h5 : x.k % 8 = 5) (h : x.i % 2 ≠ 0) : mdS k0 ic x (false :: op') = (.els, true :: op') := by
  unfold mdS; rw [if_neg (by omega), if_neg (fun hh => h hh.2.2), if_pos ⟨h5, rfl⟩]; rfl
theorem mdS_en {b : Bool} {op' : List Bool} (h6 : x.k % 8 = 6) : mdS k0 ic x (b :: op') = (.en, op') := by
  unfold mdS; rw [if_neg (by omega), if_neg (by omega), if_neg (by omega), if_pos ⟨h6, by simp⟩]; rfl
theorem mdS_inc (h7 : x.k % 8 = 7) (h : ic = true) : mdS k0 ic x op = (.inc, op) := by
  unfold mdS; rw [if_neg (by omega), if_neg (by omega), if_neg (by omega), if_neg (by omega), if_pos ⟨h7, h⟩]
end
theorem own_some {w : World} {base e n c : Nat} {A : Option Addr} {cs : List Value} (h : Own w base e 1 A n c cs) (hn : 0 < n) : ∃ a, A = some a := by
  obtain ⟨g, sp, hA, _⟩ := h.blk hn
  exact ⟨_, hA⟩
theorem own_cell {w : World} {base e n c j : Nat} {a : Addr} {cs : List Value} {u : Value} (h : Own w base e 1 (some a) n c cs) (hj : cs[j]? = some u) : w.cell? (a.add j) = some u := by
  have hl := h.sl.len
  have hlt := (List.getElem?_eq_some_iff.1 hj).1
  obtain ⟨ad, e, hc⟩ := h.sl.at_ (by omega)
  cases e
  exact hc j u hj
theorem last_rev (b : Bool) {op : List Bool} {op' : List Bool} (h : op = b :: op') : op.reverse[op.length - 1]? = some b := by
  subst h
  rw [List.reverse_cons, List.getElem?_append_right (by simp)]
  simp
structure LnS where
  i : Nat
  out : List Nat
  op : List Bool
  A : Option Addr
  c : Nat
structure LnI (w0 : World) (base : Nat) (k0 : Nat) (ic : Bool) (T : List Lx) (tot : List Nat) (s : LnS) (w : World) : Prop where
  e : Ext w0 w
  ow : Own w base 4 1 s.A s.op.length s.c (boolsV s.op.reverse)
  ol : s.op.length ≤ 3
  il : s.i ≤ T.length
  rs : s.out ++ unl ((mdL k0 ic (T.drop s.i) s.op).map mnT) = tot
  ll : s.out.length ≤ s.i * 40
theorem LnI.step {w0 w w' : World} {base k0 : Nat} {ic : Bool} {T : List Lx} {tot : List Nat} {s : LnS} (h : LnI w0 base k0 ic T tot s w) (hk : k0 ≤ 4) {y : Lx} (hx : y.i ≤ 255) (hy : T[s.i]? = some y) {M : Mn} {op' : List Bool} (e : mdS k0 ic y s.op = (M, op')) {A' : Option Addr} {c' : Nat} (hE : Ext w w') (ho : Own w' base 4 1 A' op'.length c' (boolsV op'.reverse)) :
    LnI w0 base k0 ic T tot ⟨s.i + 1, s.out ++ (mnT M ++ [10]), op', A', c'⟩ w' := by
  have hb := mdS_b (ic := ic) (op := s.op) hk hx
  have hl := mdS_len (k0 := k0) (ic := ic) (x := y) h.ol
  rw [e] at hb hl
  simp only at hb hl
  have hrs := h.rs
  rw [drop_get hy, mdL, e, List.map_cons, unl_cons] at hrs
  refine ⟨h.e.trans hE, ho, hl, (List.getElem?_eq_some_iff.1 hy).1, ?_, ?_⟩
  · rw [← hrs]; simp
  · have := h.ll; simp only [List.length_append, List.length_singleton]; omega
theorem LnI.step2 {w0 w w' : World} {base k0 : Nat} {ic : Bool} {T : List Lx} {tot : List Nat} {s : LnS} (h : LnI w0 base k0 ic T tot s w) (hk : k0 ≤ 4) {y : Lx} (hx : y.i ≤ 255) (hy : T[s.i]? = some y) {M : Mn} {op' : List Bool} (e : mdS k0 ic y s.op = (M, op')) {A' : Option Addr} {c' : Nat} {o' : List Nat} (ho' : o' = s.out ++ (mnT M ++ [10])) (hE : Ext w0 w') (ho : Own w' base 4 1 A' op'.length c' (boolsV op'.reverse)) :
    LnI w0 base k0 ic T tot ⟨s.i + 1, o', op', A', c'⟩ w' := by
  have hb := mdS_b (ic := ic) (op := s.op) hk hx
  have hl := mdS_len (k0 := k0) (ic := ic) (x := y) h.ol
  rw [e] at hb hl
  simp only at hb hl
  have hrs := h.rs
  rw [drop_get hy, mdL, e, List.map_cons, unl_cons] at hrs
  subst ho'
  refine ⟨hE, ho, hl, (List.getElem?_eq_some_iff.1 hy).1, ?_, ?_⟩
  · rw [← hrs]; simp
  · have := h.ll; simp only [List.length_append, List.length_singleton]; omega
theorem ends_drop {op : List Bool} {j : Nat} (h : j < op.length) : unl ((op.drop j).map (fun _ => lEnd)) = lEnd ++ 10 :: unl ((op.drop (j + 1)).map (fun _ => lEnd)) := by
  rw [List.drop_eq_getElem_cons h, List.map_cons, unl_cons]

set_option maxHeartbeats 3200000 in
theorem lines_fn (k0 : Nat) (hk : k0 ≤ 4) (NA : Option Addr) (nc : Nat) (A : Option Addr) (n c : Nat) (L : List Lx) (most : Nat) (name : List Nat) (w : World) (hN : Sl w 1 NA k0 nc (strsV (letters12.take k0))) (hL : SlS Lx.cells 3 w A n c L) (hok : ∀ x ∈ L, LxOk w x) (hm : most ≤ 100) (hname : name = [] ∨ name = [110]) :
    Fn Tryz.prog 58 [.slice NA k0 nc, .slice A n c, .int .i64 most, .string (strOf name)] w (fun v w' => v = .string (strOf (unl ((mdL k0 (decide (name ≠ [])) (L.take most) []).map mnT))) ∧ Ext w w') := by
  have hlen := hL.2
  have hcap : n ≤ 9223372036854775807 := by have := hL.1.le; have := hL.1.cap; simp only [maxLen] at this; omega
  have hs100 : ∀ s ∈ letters12.take k0, s.length ≤ 100 := fun s hs => by
    have h12 : letters12.all (fun s => decide (s.length ≤ 100)) = true := by decide
    exact of_decide_eq_true (List.all_eq_true.1 h12 s (List.mem_of_mem_take hs))
  refine fn_of_exec (c := { c58 with cuts := [] }) gx_ok Tryz.func58 rfl rfl rfl ?_
  refine at_build0 gx_ok rfl rfl rfl rfl rfl rfl ?_
  intro w1 hE1 hz1 hB1
  generalize hic : decide (name ≠ []) = ic
  generalize htot : unl ((mdL k0 ic (L.take most) []).map mnT) = tot
  have hTl : (L.take most).length = min most L.length := List.length_take
  have hT100 : (L.take most).length ≤ 100 := by omega
  generalize hT : L.take most = T at *
  refine loop gx_ok [11, 10, 9] (fun s : LnS => [.int .i64 s.i, .slice s.A s.op.length s.c, .string (strOf s.out)]) (fun s w' => LnI w w.heap.size k0 ic T tot s w') (fun s _ => T.length - s.i) ⟨0, [], [], some ⟨w.heap.size, 0, none⟩, 0⟩ rfl ⟨hE1, Own.empty hB1 (Nat.le_refl _), Nat.zero_le _, Nat.zero_le _, htot, Nat.le_refl _⟩ ?_
  rintro ⟨i, out, op, A', c'⟩ w2 hI
  have hol := hI.ol
  have hil := hI.il
  have hll := hI.ll
  simp only at hol hil hll
  have hE02 := hI.e
  have so := strOf_size out
  refine wif_d (fun c1 => ?_) (fun c1 => ?_)
  · simp only at c1
    refine wif_d (fun c2 => ?_) (fun c2 => ?_)
    · simp only at c2
      have hin : i < n := by omega
      have hiT : i < T.length := by omega
      refine index_sls lx_len (hL.ext hE02) rfl hin (fun p y hyL hcl => ?_)
      have hyL : L[i]? = some y := hyL
      have hy : T[i]? = some y := by rw [← hT, List.getElem?_take_of_lt (by omega)]; exact hyL
      have hyok := (hok y (List.mem_of_getElem? hyL)).ext hE02
      have hxi := hyok.i8
      have hk8 := hyok.k8
      refine loadN_at (vs := y.cells) rfl hcl ?_
      refine new (fun w4 hE4 hz4 hB4 => ?_)
      refine storeN_blk0 hB4 rfl (sc rfl) (fun w5 hg5 _ hB5 => ?_)
      have hE25 : Ext w2 w5 := newBox hE4 hB4 hg5
      have hE15 := hI.e.trans hE25
      have how := hI.ow.ext hE25
      simp only at how
      refine load_blk0 hB5 rfl ?_
      refine normIf (m := ((y.k % 8 : Nat) : Int)) (by decide) (tmod_nat y.k 8) ?_
      have h8 : y.k % 8 < 8 := Nat.mod_lt _ (by decide)
      refine wif_eq (fun k4 => ?_) (fun k4 => ?_)
      · refine wif_d (fun n3 => ?_) (fun n3 => ?_)
        · simp only at n3
          have e5 := formula_fn (letters12.take k0) NA k0 nc y.i
          refine need_to (v' := .string (strOf (out ++ [35, 105, 102, 32]))) (by rw [so]; show _ + 4 ≤ maxLen; unfold maxLen; omega) (congrArg Value.string (strOf_append out [35, 105, 102, 32])) ?_
          refine load_blk hB5 rfl ?_
          refine call (e5 w5 (hN.ext hE15) hs100 hxi) ?_
          rintro _ w6 ⟨rfl, hE6⟩
          have hfl := (form_line hk hxi).2.2
          refine need_to (v' := .string (strOf (out ++ [35, 105, 102, 32] ++ formT (letters12.take k0) y.i))) (by rw [strOf_size, strOf_size, List.length_append]; show _ + 4 + _ ≤ maxLen; unfold maxLen; omega) (congrArg Value.string (strOf_append _ _)) ?_
          refine need_to (v' := .string (strOf (out ++ [35, 105, 102, 32] ++ formT (letters12.take k0) y.i ++ [10]))) (by rw [strOf_size, List.length_append, List.length_append]; show _ + 4 + _ + 1 ≤ maxLen; unfold maxLen; omega) (congrArg Value.string (strOf_append _ [10])) ?_
          refine at_buildN gx_ok [[Value.bool false]] rfl rfl rfl rfl rfl ⟨rfl, rfl, ⟨⟩⟩ rfl (fun cs hh => by simp only [List.mem_singleton] at hh; subst hh; rfl) rfl (by decide) (by decide) ?_
          intro w7 hE7 hz7 hB7
          have hs7 : Sl w7 1 (some ⟨w6.heap.size, 0, none⟩) 1 1 [Value.bool false] := Sl.own (sz := 1) (n := 1) hB7 (Nat.le_refl _) (by decide) (by simp)
          have hE57 := hE6.trans hE7
          refine at_app (n := op.length) gx_ok rfl rfl rfl rfl rfl (by decide) rfl rfl ⟨_, rfl⟩ rfl rfl (how.ext hE57) hs7 (by simp [scalar]) (by unfold maxLen; omega) (by show (op.length + 1) * 1 ≤ _; omega) (by have := hE15.size; have := hE57.size; omega) ?_
          intro A2 c2 w8 hm8 how8 hmv8
          refine norm_i64_to ((i + 1 : Nat) : Int) (by show ((i : Nat) : Int) + 1 = _; omega) (by (try simp only); omega) ?_
          exact ⟨⟨i + 1, out ++ [35, 105, 102, 32] ++ formT (letters12.take k0) y.i ++ [10], false :: op, A2, c2⟩, by simp only [List.length_cons]; rfl, hI.step2 hk hxi hy (mdS_if (by first | omega | (simp only; omega)) (by first | omega | (simp only; omega))) (by simp [mnT, pIf]) (hm8.ext (hE15.trans hE57) (fun i hi => by have := (how.ext hE57).rows i hi; omega)) (by rw [List.reverse_cons]; simpa [boolsV] using how8), by show T.length - (i + 1) < T.length - i; omega⟩
        · simp only at n3
          refine wif_eqf (by first | omega | (simp only; omega)) ?_
          refine wif_eqf (by first | omega | (simp only; omega)) ?_
          refine wif_eqf (by first | omega | (simp only; omega)) ?_
          refine wif_eqf (by first | omega | (simp only; omega)) ?_
          refine loadN_blk0 hB5 rfl ?_
          refine call (mtext_fn y w5 (hyok.ext hE25)) ?_
          rintro _ w6 ⟨rfl, hE6⟩
          have s2 := strOf_size (textT y.k y.ws ++ [10])
          have s3 := (text_ok3 y.k y.ws).2.2.2
          refine need_to (v' := .string (strOf (out ++ (textT y.k y.ws ++ [10])))) (by rw [so, s2, List.length_append]; show _ + (_ + 1) ≤ maxLen; unfold maxLen; omega) (congrArg Value.string (strOf_append _ _)) ?_
          refine norm_i64_to ((i + 1 : Nat) : Int) (by show ((i : Nat) : Int) + 1 = _; omega) (by (try simp only); omega) ?_
          exact ⟨⟨i + 1, out ++ (textT y.k y.ws ++ [10]), op, A', c'⟩, rfl, hI.step hk hxi hy (mdS_tx (fun _ => by first | omega | (simp only; omega)) (fun h => by first | omega | (simp only; omega)) (fun h => by first | omega | (simp only; omega)) (fun h => by first | omega | (simp only; omega))) (hE25.trans hE6) (how.ext hE6), by show T.length - (i + 1) < T.length - i; omega⟩
      refine wif_eq (fun k5 => ?_) (fun k5 => ?_)
      · have k5' : y.k % 8 = 5 := by omega
        refine wif_d (fun n0 => ?_) (fun n0 => ?_)
        · simp only at n0
          have n0 : 0 < op.length := by omega
          obtain ⟨f, op', rfl⟩ : ∃ f op', op = f :: op' := by
            cases op with
            | nil => exact absurd n0 (by decide)
            | cons f op' => exact ⟨f, op', rfl⟩
          refine norm_i64_to (((f :: op').length - 1 : Nat) : Int) (by (try simp only); omega) (by (try simp only); omega) ?_
          obtain ⟨oa, hoa⟩ := own_some how (show 0 < (f :: op').length by omega)
          rw [hoa]
          refine index (j := (f :: op').length - 1) (by (try simp only); omega) ?_
          refine load (own_cell (by rw [← hoa]; exact how) (boolsV_get (last_rev f rfl))) ?_
          cases f with
          | false =>
            refine wif_t rfl ?_
            refine load_blk hB5 rfl ?_
            refine normIf (m := ((y.i % 2 : Nat) : Int)) (by decide) (tmod_nat y.i 2) ?_
            refine wif_eq (fun i2 => ?_) (fun i2 => ?_)
            · refine need_to (v' := .string (strOf (out ++ [35, 101, 108, 105, 102, 32]))) (by rw [so]; show _ + 6 ≤ maxLen; unfold maxLen; omega) (congrArg Value.string (strOf_append out [35, 101, 108, 105, 102, 32])) ?_
              refine load_blk hB5 rfl ?_
              refine normIf (m := ((y.i / 2 : Nat) : Int)) (by decide) (by
                show IntKind.u8.wrap ((y.i / 2 : Nat) : Int) = _
                rw [wrap_u8_nat]; omega) ?_
              have h255 : y.i / 2 ≤ 255 := by omega
              refine call (formula_fn (letters12.take k0) NA k0 nc (y.i / 2) w5 (hN.ext hE15) hs100 h255) ?_
              rintro _ w6 ⟨rfl, hE6⟩
              have hfl := (form_line hk h255).2.2
              refine need_to (v' := .string (strOf (out ++ [35, 101, 108, 105, 102, 32] ++ formT (letters12.take k0) (y.i / 2)))) (by rw [strOf_size, strOf_size, List.length_append]; show _ + 6 + _ ≤ maxLen; unfold maxLen; omega) (congrArg Value.string (strOf_append _ _)) ?_
              refine need_to (v' := .string (strOf (out ++ [35, 101, 108, 105, 102, 32] ++ formT (letters12.take k0) (y.i / 2) ++ [10]))) (by rw [strOf_size, List.length_append, List.length_append]; show _ + 6 + _ + 1 ≤ maxLen; unfold maxLen; omega) (congrArg Value.string (strOf_append _ [10])) ?_
              rw [← hoa]
              refine norm_i64_to ((i + 1 : Nat) : Int) (by show ((i : Nat) : Int) + 1 = _; omega) (by (try simp only); omega) ?_
              exact ⟨⟨i + 1, out ++ [35, 101, 108, 105, 102, 32] ++ formT (letters12.take k0) (y.i / 2) ++ [10], false :: op', A', c'⟩, rfl, hI.step2 hk hxi hy (mdS_elif k5' (by first | omega | (simp only; omega))) (by simp [mnT, pElif]) (hE15.trans hE6) (how.ext hE6), by show T.length - (i + 1) < T.length - i; omega⟩
            · refine wif_eqt (by first | omega | (simp only; omega)) ?_
              refine wif_dt (by (try simp only); omega) ?_
              refine norm_i64_to (((false :: op').length - 1 : Nat) : Int) (by (try simp only); omega) (by (try simp only); omega) ?_
              refine index (j := (false :: op').length - 1) (by (try simp only); omega) ?_
              refine load (own_cell (by rw [← hoa]; exact how) (boolsV_get (last_rev false rfl))) ?_
              refine wif_t rfl ?_
              refine need_to (v' := .string (strOf (out ++ [35, 101, 108, 115, 101, 10]))) (by rw [so]; show _ + 6 ≤ maxLen; unfold maxLen; omega) (congrArg Value.string (strOf_append out [35, 101, 108, 115, 101, 10])) ?_
              refine norm_i64_to (((false :: op').length - 1 : Nat) : Int) (by (try simp only); omega) (by (try simp only); omega) ?_
              refine index (j := (false :: op').length - 1) (by (try simp only); omega) ?_
              rw [hoa] at how
              refine store_own how (by (try simp only); omega) (fun w6 hg6 how6 => ?_)
              have hm6 := Mod.of_row hg6
              have how6' : Own w6 w.heap.size 4 1 (some oa) (true :: op').length c' (boolsV (true :: op').reverse) := by
                have e : (boolsV (false :: op').reverse).set ((false :: op').length - 1) (Value.bool true) = boolsV (true :: op').reverse := by
                  rw [← boolsV_set]
                  congr 1
                  rw [List.reverse_cons, List.reverse_cons, List.set_append_right _ _ (by simp)]
                  simp
                rw [e] at how6
                exact how6
              refine norm_i64_to ((i + 1 : Nat) : Int) (by show ((i : Nat) : Int) + 1 = _; omega) (by (try simp only); omega) ?_
              exact ⟨⟨i + 1, out ++ [35, 101, 108, 115, 101, 10], true :: op', some oa, c'⟩, rfl, hI.step2 hk hxi hy (mdS_els k5' (by first | omega | (simp only; omega))) (by simp [mnT, lElse]) (hm6.ext hE15 (fun i hi => by have := how.rows i hi; omega)) (how6'), by show T.length - (i + 1) < T.length - i; omega⟩
          | true =>
            refine wif_f rfl ?_
            refine wif_eqt (by first | omega | (simp only; omega)) ?_
            refine wif_dt (by (try simp only); omega) ?_
            refine norm_i64_to (((true :: op').length - 1 : Nat) : Int) (by (try simp only); omega) (by (try simp only); omega) ?_
            refine index (j := (true :: op').length - 1) (by (try simp only); omega) ?_
            refine load (own_cell (by rw [← hoa]; exact how) (boolsV_get (last_rev true rfl))) ?_
            refine wif_f rfl ?_
            refine wif_eqf (by first | omega | (simp only; omega)) ?_
            refine wif_eqf (by first | omega | (simp only; omega)) ?_
            rw [← hoa]
            refine loadN_blk0 hB5 rfl ?_
            refine call (mtext_fn y w5 (hyok.ext hE25)) ?_
            rintro _ w6 ⟨rfl, hE6⟩
            have s2 := strOf_size (textT y.k y.ws ++ [10])
            have s3 := (text_ok3 y.k y.ws).2.2.2
            refine need_to (v' := .string (strOf (out ++ (textT y.k y.ws ++ [10])))) (by rw [so, s2, List.length_append]; show _ + (_ + 1) ≤ maxLen; unfold maxLen; omega) (congrArg Value.string (strOf_append _ _)) ?_
            refine norm_i64_to ((i + 1 : Nat) : Int) (by show ((i : Nat) : Int) + 1 = _; omega) (by (try simp only); omega) ?_
            exact ⟨⟨i + 1, out ++ (textT y.k y.ws ++ [10]), true :: op', A', c'⟩, rfl, hI.step hk hxi hy (mdS_tx (fun h => by first | omega | (simp only; omega)) (fun _ h => by cases h) (fun h => by first | omega | (simp only; omega)) (fun h => by first | omega | (simp only; omega))) (hE25.trans hE6) (how.ext hE6), by show T.length - (i + 1) < T.length - i; omega⟩
        · simp only at n0
          have hop : op = [] := List.eq_nil_of_length_eq_zero (by first | omega | (simp only; omega))
          subst hop
          refine wif_eqt (by first | omega | (simp only; omega)) ?_
          refine wif_df (by simp) ?_
          refine wif_eqf (by first | omega | (simp only; omega)) ?_
          refine wif_eqf (by first | omega | (simp only; omega)) ?_
          refine loadN_blk0 hB5 rfl ?_
          refine call (mtext_fn y w5 (hyok.ext hE25)) ?_
          rintro _ w6 ⟨rfl, hE6⟩
          have s2 := strOf_size (textT y.k y.ws ++ [10])
          have s3 := (text_ok3 y.k y.ws).2.2.2
          refine need_to (v' := .string (strOf (out ++ (textT y.k y.ws ++ [10])))) (by rw [so, s2, List.length_append]; show _ + (_ + 1) ≤ maxLen; unfold maxLen; omega) (congrArg Value.string (strOf_append _ _)) ?_
          refine norm_i64_to ((i + 1 : Nat) : Int) (by show ((i : Nat) : Int) + 1 = _; omega) (by (try simp only); omega) ?_
          exact ⟨⟨i + 1, out ++ (textT y.k y.ws ++ [10]), [], A', c'⟩, rfl, hI.step hk hxi hy (mdS_tx (fun h => by first | omega | (simp only; omega)) (fun _ h => by cases h) (fun h => by first | omega | (simp only; omega)) (fun h => by first | omega | (simp only; omega))) (hE25.trans hE6) (how.ext hE6), by show T.length - (i + 1) < T.length - i; omega⟩
      refine wif_eqf (by first | omega | (simp only; omega)) ?_
      refine wif_eq (fun k6 => ?_) (fun k6 => ?_)
      · refine wif_d (fun n0 => ?_) (fun n0 => ?_)
        · simp only at n0
          obtain ⟨f, op', rfl⟩ : ∃ f op', op = f :: op' := by
            cases op with
            | nil => exact absurd n0 (by decide)
            | cons f op' => exact ⟨f, op', rfl⟩
          refine need_to (v' := .string (strOf (out ++ [35, 101, 110, 100, 10]))) (by rw [so]; show _ + 5 ≤ maxLen; unfold maxLen; omega) (congrArg Value.string (strOf_append out [35, 101, 110, 100, 10])) ?_
          refine norm_i64_to ((op'.length : Nat) : Int) (by simp only [List.length_cons]; omega) (by simp only [List.length_cons] at hol; omega) ?_
          have hle := how.sl.le
          simp only [List.length_cons] at hle
          refine at_slice_h (h := op'.length) gx_ok rfl rfl rfl rfl rfl rfl (by first | omega | (simp only; omega)) ?_
          have how2 := how.take (k := op'.length) (by simp)
          have e2 : (boolsV (f :: op').reverse).take (op'.length * 1) = boolsV op'.reverse := by
            rw [Nat.mul_one, List.reverse_cons]
            unfold boolsV
            rw [List.map_append, List.take_append_of_le_length (by simp), List.take_of_length_le (by simp)]
          rw [e2] at how2
          refine norm_i64_to ((i + 1 : Nat) : Int) (by show ((i : Nat) : Int) + 1 = _; omega) (by (try simp only); omega) ?_
          exact ⟨⟨i + 1, out ++ [35, 101, 110, 100, 10], op', A', c'⟩, rfl, hI.step2 hk hxi hy (mdS_en (by first | omega | (simp only; omega))) (by simp [mnT, lEnd]) (hE15) (how2), by show T.length - (i + 1) < T.length - i; omega⟩
        · simp only at n0
          have hop : op = [] := List.eq_nil_of_length_eq_zero (by first | omega | (simp only; omega))
          subst hop
          refine wif_eqf (by first | omega | (simp only; omega)) ?_
          refine loadN_blk0 hB5 rfl ?_
          refine call (mtext_fn y w5 (hyok.ext hE25)) ?_
          rintro _ w6 ⟨rfl, hE6⟩
          have s2 := strOf_size (textT y.k y.ws ++ [10])
          have s3 := (text_ok3 y.k y.ws).2.2.2
          refine need_to (v' := .string (strOf (out ++ (textT y.k y.ws ++ [10])))) (by rw [so, s2, List.length_append]; show _ + (_ + 1) ≤ maxLen; unfold maxLen; omega) (congrArg Value.string (strOf_append _ _)) ?_
          refine norm_i64_to ((i + 1 : Nat) : Int) (by show ((i : Nat) : Int) + 1 = _; omega) (by (try simp only); omega) ?_
          exact ⟨⟨i + 1, out ++ (textT y.k y.ws ++ [10]), [], A', c'⟩, rfl, hI.step hk hxi hy (mdS_tx (fun h => by first | omega | (simp only; omega)) (fun h => by first | omega | (simp only; omega)) (fun _ => rfl) (fun h => by first | omega | (simp only; omega))) (hE25.trans hE6) (how.ext hE6), by show T.length - (i + 1) < T.length - i; omega⟩
      refine wif_eq (fun k7 => ?_) (fun k7 => ?_)
      · rcases hname with rfl | rfl
        · have hicf : ic = false := by rw [← hic]; rfl
          refine wif_f (by decide) ?_
          refine loadN_blk0 hB5 rfl ?_
          refine call (mtext_fn y w5 (hyok.ext hE25)) ?_
          rintro _ w6 ⟨rfl, hE6⟩
          have s2 := strOf_size (textT y.k y.ws ++ [10])
          have s3 := (text_ok3 y.k y.ws).2.2.2
          refine need_to (v' := .string (strOf (out ++ (textT y.k y.ws ++ [10])))) (by rw [so, s2, List.length_append]; show _ + (_ + 1) ≤ maxLen; unfold maxLen; omega) (congrArg Value.string (strOf_append _ _)) ?_
          refine norm_i64_to ((i + 1 : Nat) : Int) (by show ((i : Nat) : Int) + 1 = _; omega) (by (try simp only); omega) ?_
          exact ⟨⟨i + 1, out ++ (textT y.k y.ws ++ [10]), op, A', c'⟩, rfl, hI.step hk hxi hy (mdS_tx (fun h => by first | omega | (simp only; omega)) (fun h => by first | omega | (simp only; omega)) (fun h => by first | omega | (simp only; omega)) (fun _ => hicf)) (hE25.trans hE6) (how.ext hE6), by show T.length - (i + 1) < T.length - i; omega⟩
        · have hict : ic = true := by rw [← hic]; rfl
          refine wif_t (by decide) ?_
          refine need_to (v' := .string (strOf (out ++ [35, 105, 110, 99, 108, 117, 100, 101, 32, 34]))) (by rw [so]; show _ + 10 ≤ maxLen; unfold maxLen; omega) (congrArg Value.string (strOf_append out [35, 105, 110, 99, 108, 117, 100, 101, 32, 34])) ?_
          refine need_to (v' := .string (strOf (out ++ [35, 105, 110, 99, 108, 117, 100, 101, 32, 34] ++ [110]))) (by rw [strOf_size, List.length_append]; show _ + 10 + 1 ≤ maxLen; unfold maxLen; omega) (congrArg Value.string (strOf_append _ [110])) ?_
          refine need_to (v' := .string (strOf (out ++ [35, 105, 110, 99, 108, 117, 100, 101, 32, 34] ++ [110] ++ [34, 10]))) (by rw [strOf_size, List.length_append, List.length_append]; show _ + 10 + 1 + 2 ≤ maxLen; unfold maxLen; omega) (congrArg Value.string (strOf_append _ [34, 10])) ?_
          refine norm_i64_to ((i + 1 : Nat) : Int) (by show ((i : Nat) : Int) + 1 = _; omega) (by (try simp only); omega) ?_
          exact ⟨⟨i + 1, out ++ [35, 105, 110, 99, 108, 117, 100, 101, 32, 34] ++ [110] ++ [34, 10], op, A', c'⟩, rfl, hI.step2 hk hxi hy (mdS_inc (by first | omega | (simp only; omega)) hict) (by simp [mnT, pInc, nInc]) (hE15) (how), by show T.length - (i + 1) < T.length - i; omega⟩
      · refine loadN_blk0 hB5 rfl ?_
        refine call (mtext_fn y w5 (hyok.ext hE25)) ?_
        rintro _ w6 ⟨rfl, hE6⟩
        have s2 := strOf_size (textT y.k y.ws ++ [10])
        have s3 := (text_ok3 y.k y.ws).2.2.2
        refine need_to (v' := .string (strOf (out ++ (textT y.k y.ws ++ [10])))) (by rw [so, s2, List.length_append]; show _ + (_ + 1) ≤ maxLen; unfold maxLen; omega) (congrArg Value.string (strOf_append _ _)) ?_
        refine norm_i64_to ((i + 1 : Nat) : Int) (by show ((i : Nat) : Int) + 1 = _; omega) (by (try simp only); omega) ?_
        exact ⟨⟨i + 1, out ++ (textT y.k y.ws ++ [10]), op, A', c'⟩, rfl, hI.step hk hxi hy (mdS_tx (fun h => by first | omega | (simp only; omega)) (fun h => by first | omega | (simp only; omega)) (fun h => by first | omega | (simp only; omega)) (fun h => by first | omega | (simp only; omega))) (hE25.trans hE6) (how.ext hE6), by show T.length - (i + 1) < T.length - i; omega⟩
    · try simp only at c1
      try simp only at c2
      have hiT : i = T.length := by omega
      have hrs := hI.rs
      simp only at hrs
      rw [hiT, List.drop_length, mdL, List.map_map] at hrs
      have hrs : out ++ unl ((op.drop 0).map (fun _ => lEnd)) = tot := hrs
      refine loop gx_ok [15, 9] (fun s : Nat × List Nat => [.int .i64 s.1, .string (strOf s.2)]) (fun s w' => w2 = w' ∧ s.1 ≤ op.length ∧ s.2.length ≤ 4000 + s.1 * 5 ∧ s.2 ++ unl ((op.drop s.1).map (fun _ => lEnd)) = tot) (fun s _ => op.length - s.1) (0, out) rfl ⟨rfl, Nat.zero_le _, by show out.length ≤ _; omega, hrs⟩ ?_
      rintro ⟨j, o2⟩ _ ⟨rfl, hj, hol2, hrs2⟩
      simp only at hj hol2 hrs2
      refine wif_d (fun d1 => ?_) (fun d1 => ?_)
      · simp only at d1
        have hjl : j < op.length := by omega
        rw [ends_drop hjl] at hrs2
        refine need_to (v' := .string (strOf (o2 ++ [35, 101, 110, 100, 10]))) (by rw [strOf_size]; show o2.length + 5 ≤ maxLen; unfold maxLen; omega) (congrArg Value.string (strOf_append o2 [35, 101, 110, 100, 10])) ?_
        refine norm_i64_to ((j + 1 : Nat) : Int) (by show ((j : Nat) : Int) + 1 = _; omega) (by (try simp only); omega) ?_
        exact ⟨(j + 1, o2 ++ [35, 101, 110, 100, 10]), rfl, ⟨rfl, hjl, by show (o2 ++ [35, 101, 110, 100, 10]).length ≤ _; rw [List.length_append]; show _ + 5 ≤ 4000 + (j + 1) * 5; omega, by show (o2 ++ [35, 101, 110, 100, 10]) ++ _ = _; rw [← hrs2]; simp [lEnd]⟩, by show op.length - (j + 1) < op.length - j; omega⟩
      · simp only at d1
        have hjl : j = op.length := by omega
        rw [hjl, List.drop_length] at hrs2
        have hrs2 : o2 ++ [] = tot := hrs2
        rw [List.append_nil] at hrs2
        exact ⟨by rw [hrs2], hE02⟩
  · try simp only at c1
    try simp only at c2
    have hiT : i = T.length := by omega
    have hrs := hI.rs
    simp only at hrs
    rw [hiT, List.drop_length, mdL, List.map_map] at hrs
    have hrs : out ++ unl ((op.drop 0).map (fun _ => lEnd)) = tot := hrs
    refine loop gx_ok [15, 9] (fun s : Nat × List Nat => [.int .i64 s.1, .string (strOf s.2)]) (fun s w' => w2 = w' ∧ s.1 ≤ op.length ∧ s.2.length ≤ 4000 + s.1 * 5 ∧ s.2 ++ unl ((op.drop s.1).map (fun _ => lEnd)) = tot) (fun s _ => op.length - s.1) (0, out) rfl ⟨rfl, Nat.zero_le _, by show out.length ≤ _; omega, hrs⟩ ?_
    rintro ⟨j, o2⟩ _ ⟨rfl, hj, hol2, hrs2⟩
    simp only at hj hol2 hrs2
    refine wif_d (fun d1 => ?_) (fun d1 => ?_)
    · simp only at d1
      have hjl : j < op.length := by omega
      rw [ends_drop hjl] at hrs2
      refine need_to (v' := .string (strOf (o2 ++ [35, 101, 110, 100, 10]))) (by rw [strOf_size]; show o2.length + 5 ≤ maxLen; unfold maxLen; omega) (congrArg Value.string (strOf_append o2 [35, 101, 110, 100, 10])) ?_
      refine norm_i64_to ((j + 1 : Nat) : Int) (by show ((j : Nat) : Int) + 1 = _; omega) (by (try simp only); omega) ?_
      exact ⟨(j + 1, o2 ++ [35, 101, 110, 100, 10]), rfl, ⟨rfl, hjl, by show (o2 ++ [35, 101, 110, 100, 10]).length ≤ _; rw [List.length_append]; show _ + 5 ≤ 4000 + (j + 1) * 5; omega, by show (o2 ++ [35, 101, 110, 100, 10]) ++ _ = _; rw [← hrs2]; simp [lEnd]⟩, by show op.length - (j + 1) < op.length - j; omega⟩
    · simp only at d1
      have hjl : j = op.length := by omega
      rw [hjl, List.drop_length] at hrs2
      have hrs2 : o2 ++ [] = tot := hrs2
      rw [List.append_nil] at hrs2
      exact ⟨by rw [hrs2], hE02⟩

set_option maxHeartbeats 1600000 in
theorem rmade_fn (k0 : Nat) (hk : k0 ≤ 4) (NA : Option Addr) (nc : Nat) (A B : Option Addr) (n c m d : Nat) (main other : List Lx) (w : World) (hN : Sl w 1 NA k0 nc (strsV (letters12.take k0))) (hL : SlS Lx.cells 3 w A n c main) (hok : ∀ x ∈ main, LxOk w x) (hL' : SlS Lx.cells 3 w B m d other) (hok' : ∀ x ∈ other, LxOk w x) :
    Fn Tryz.prog 31 [.slice NA k0 nc, .slice A n c, .slice B m d] w (fun v w' => ∃ F, v = .slice F 2 2 ∧ Ext w w' ∧ SlS fileC 2 w' F 2 2 (madeF k0 main other)) := by
  refine fn_of_exec (c := { c31 with cuts := [] }) gx_ok Tryz.func31 rfl rfl rfl ?_
  refine call (lines_fn k0 hk NA nc A n c main 12 [110] w hN hL hok (by decide) (.inr rfl)) ?_
  rintro _ w1 ⟨rfl, hE1⟩
  refine call (lines_fn k0 hk NA nc B m d other 5 [] w1 (hN.ext hE1) (hL'.ext hE1) (fun x hx => (hok' x hx).ext hE1) (by decide) (.inl rfl)) ?_
  rintro _ w2 ⟨rfl, hE2⟩
  refine at_buildN gx_ok ((madeF k0 main other).map fileC) rfl rfl rfl rfl rfl ⟨rfl, rfl, rfl, rfl, ⟨⟩⟩ rfl (fun cs h => by simp only [List.mem_map] at h; obtain ⟨s, _, rfl⟩ := h; rfl) rfl (by decide) (by decide) ?_
  intro w3 hE3 hz3 hB3
  exact ⟨_, rfl, (hE1.trans hE2).trans hE3, Sl.own (sz := 2) (n := 2) hB3 (Nat.le_refl _) (by decide) (by simp [madeF, fileC]), rfl⟩
end
end Go.Proofs.YtedopgkbajhanaaGreatDoor

namespace Go.Proofs.YtedopgkbajhanaaGreatDoor
section
open Go Go.RowKit

theorem pref_take (p s : List Nat) : p.isPrefixOf s = decide (p.length ≤ s.length ∧ s.take p.length = p) := by
  have h := (List.isPrefixOf_iff_prefix (l₁ := p) (l₂ := s)).trans List.prefix_iff_eq_take
  cases hb : p.isPrefixOf s with
  | true =>
    have h1 := h.1 hb
    have h2 := congrArg List.length h1
    rw [List.length_take] at h2
    exact (decide_eq_true ⟨by omega, h1.symm⟩).symm
  | false =>
    refine (decide_eq_false (fun hh => ?_)).symm
    rw [h.2 hh.2.symm] at hb; cases hb
section
variable {nm : List (List Nat)} {F : List Nat} {o : BF}
end

structure ChS where
  at_ : Nat
  out : List Nat
  st : List Nat
  A : Option Addr
  c : Nat
  l : List Mn
  fl : List Bool
structure ChI (w0 : World) (base : Nat) (nm : List (List Nat)) (ic : Bool) (D : Nat) (ee : Nat → Bool) (oth text tot : List Nat) (s : ChS) (w : World) : Prop where
  e : Ext w0 w
  ow : Own w base 3 1 s.A s.st.length s.c (ixV s.st.reverse)
  sl : s.st.length ≤ D
  s3 : ∀ x ∈ s.st, x ≤ 3
  dr : text.drop s.at_ = unl (s.l.map mnT)
  al : s.at_ ≤ text.length
  wf : wfM nm ic D s.fl s.l
  fl : s.fl.length = s.st.length
  rs : s.out ++ chM ee oth s.l s.st = tot
  ol : s.out.length ≤ s.at_ * (oth.length + 1)
end
end Go.Proofs.YtedopgkbajhanaaGreatDoor

namespace Go.Proofs.YtedopgkbajhanaaGreatDoor
section
open Go Go.RowKit

theorem ChI.step {w0 w w' : World} {base : Nat} {nm : List (List Nat)} {ic : Bool} {D : Nat} {e : Nat → Bool} {oth text tot : List Nat} {s : ChS} (h : ChI w0 base nm ic D e oth text tot s w) {m : Mn} {l : List Mn} (hl : s.l = m :: l) {at2 : Nat} (ha : at2 = s.at_ + (mnT m).length + 1) {st' : List Nat} {fl' : List Bool} {A' : Option Addr} {c' : Nat} {o' : List Nat} (hE : Ext w0 w') (how : Own w' base 3 1 A' st'.length c' (ixV st'.reverse)) (hsl : st'.length ≤ D) (h3 : ∀ x ∈ st', x ≤ 3)
    (hw : wfM nm ic D fl' l) (hfl : fl'.length = st'.length) (hrs : s.out ++ chM e oth (m :: l) s.st = o' ++ chM e oth l st') (hol : o'.length ≤ s.out.length + (mnT m).length + 1 ∨ o'.length ≤ s.out.length + oth.length) : ChI w0 base nm ic D e oth text tot ⟨at2, o', st', A', c', l, fl'⟩ w' := by
  have hdr := h.dr
  rw [hl, List.map_cons, unl_cons] at hdr
  have hle : text.length - s.at_ = (mnT m).length + 1 + (unl (l.map mnT)).length := by
    have := congrArg List.length hdr
    simp only [List.length_drop, List.length_append, List.length_cons] at this
    omega
  subst ha
  have e1 : s.at_ + (mnT m).length + 1 = s.at_ + ((mnT m).length + 1) := by omega
  refine ⟨hE, how, hsl, h3, ?_, by show s.at_ + (mnT m).length + 1 ≤ text.length; have := h.al; omega, hw, hfl, by rw [← h.rs, hl]; exact hrs.symm, ?_⟩
  · show text.drop (s.at_ + (mnT m).length + 1) = _
    rw [e1, ← List.drop_drop, hdr, ← List.drop_drop, List.drop_left' rfl]; rfl
  · have := h.ol
    show o'.length ≤ (s.at_ + (mnT m).length + 1) * (oth.length + 1)
    rw [e1, Nat.add_mul]
    have p1 : (mnT m).length + 1 ≤ ((mnT m).length + 1) * (oth.length + 1) := Nat.le_mul_of_pos_right _ (by first | omega | (simp only; omega))
    have p2 : oth.length + 1 ≤ ((mnT m).length + 1) * (oth.length + 1) := Nat.le_mul_of_pos_left _ (by first | omega | (simp only; omega))
    rcases hol with hol | hol <;> omega
end
end Go.Proofs.YtedopgkbajhanaaGreatDoor

namespace Go.Proofs.YtedopgkbajhanaaGreatDoor
section
open Go Go.RowKit

theorem made_fb {k0 : Nat} (hk : k0 ≤ 4) {main other : List Lx} (h : ∀ x ∈ main, x.i ≤ 255) (h' : ∀ x ∈ other, x.i ≤ 255) : ∀ x ∈ madeF k0 main other, FileB x := by
  have l1 := mns_len (main_b hk h)
  have l2 := mns_len (oth_b hk h')
  have n1 := main_len k0 main
  have n2 := oth_len k0 other
  intro x hx
  simp only [madeF, List.mem_cons, List.not_mem_nil, or_false] at hx
  rcases hx with rfl | rfl
  · exact ⟨(by decide : ∀ b ∈ [109], b < 256), mns_b8 (wf_all (main_wf hk h)), (by decide : [109].length ≤ _), by simp only; omega⟩
  · exact ⟨(by decide : ∀ b ∈ [110], b < 256), mns_b8 (wf_all (oth_wf hk h')), (by decide : [110].length ≤ _), by simp only; omega⟩
end
end Go.Proofs.YtedopgkbajhanaaGreatDoor

namespace Go.Proofs.YtedopgkbajhanaaGreatDoor
section
open Go Go.RowKit

theorem ex_seg {tl at_ : Nat} : ∀ {l : List Sg} {a : Nat}, ChG a l tl → a ≤ at_ → at_ < tl → ∃ (i : Nat) (s : Sg), l[i]? = some s ∧ s.f ≤ at_ ∧ at_ < s.t
  | [], a, h, h1, h2 => by have : a = tl := h; omega
  | s :: l, a, h, h1, h2 => by
    have hf : s.f = a := h.1
    by_cases hin : at_ < s.t
    · exact ⟨0, s, rfl, by omega, hin⟩
    · obtain ⟨i, y, q1, q2, q3⟩ := ex_seg h.2 (by omega) h2
      exact ⟨i + 1, y, by rw [List.getElem?_cons_succ]; exact q1, q2, q3⟩

set_option maxHeartbeats 1600000 in
theorem condition_fn {w : World} {k : Nat} {A : Option Addr} {c : Nat} {g : Gs} {fs : List (List Nat × List Nat)} (h : SrcIn w k A c g) (hG : GInv fs g) (at_ : Nat) (b : Nat) (o : BF) (hc : (cbG g)[at_]? = some (b, o)) :
    Fn Tryz.prog 39 [srcV g.tx A g.sg.length c, .int .i64 at_] w (fun u w' => ∃ x : DV, u = dgV x.A x.n x.c x.r ∧ Ext w w' ∧ SB w' x.A x.n x.c x.nd ∧ Set1 k x.nd x.r o) := by
  have hat : at_ < g.tx.length := by rw [← cb_len hG]; exact (List.getElem?_eq_some_iff.1 hc).1
  obtain ⟨M, hX, hA, hck⟩ := h.ex
  have hMl := hA.len
  have hgl := h.ok.sl
  have hgt := h.ok.tl
  refine fn_of_exec (c := { c39 with cuts := [] }) gx_ok Tryz.func39 rfl rfl rfl ?_
  refine new (fun w1 hE1 hz1 hB1 => ?_)
  refine new (fun w2 hE2 hz2 hB2 => ?_)
  have hE02 := hE1.trans hE2
  have hB12 := hB1.ext hE2
  refine loop gx_ok [5] (fun s : Nat => [.int .i64 s]) (fun s w' => Ext w2 w' ∧ s ≤ g.sg.length ∧ ∀ j y, j < s → g.sg[j]? = some y → ¬ (y.f ≤ at_ ∧ at_ < y.t)) (fun s _ => g.sg.length - s) 0 rfl ⟨Ext.refl _, Nat.zero_le _, fun j y hj => by omega⟩ ?_
  rintro i w3 ⟨hE3, hi, hno⟩
  have hE03 := hE02.trans hE3
  have hB3 := hB12.ext hE3
  refine load_blk hB3 rfl ?_
  refine wif_d (fun c1 => ?_) (fun c1 => ?_)
  · have hs : g.sg[i]? = some (g.sg[i]'(by omega)) := List.getElem?_eq_getElem _
    generalize g.sg[i]'(by omega) = s at hs
    refine load_blk hB3 rfl ?_
    refine index_sls sx_len (hX.ext hE03).sl rfl (by omega) (fun p y hy hcl => ?_)
    have hy : M[i]? = some y := hy
    obtain ⟨y1, y2, y3, y4, y5⟩ := hA.get hs hy
    refine load (hcl 0 _ rfl) ?_
    have next : ¬ (s.f ≤ at_ ∧ at_ < s.t) → ∀ j z, j < i + 1 → g.sg[j]? = some z → ¬ (z.f ≤ at_ ∧ at_ < z.t) := fun hn j z hj hz => by
      by_cases e : j = i
      · subst e; rw [hs] at hz; cases hz; exact hn
      · exact hno j z (by omega) hz
    refine wif_d (fun c2 => ?_) (fun c2 => ?_)
    · refine load_blk hB3 rfl ?_
      refine index_sls sx_len (hX.ext hE03).sl rfl (by omega) (fun p2 y2 hy2 hcl2 => ?_)
      obtain rfl : y = y2 := Option.some.inj (hy.symm.trans hy2)
      refine load (hcl2 1 _ rfl) ?_
      refine wif_d (fun c3 => ?_) (fun c3 => ?_)
      · refine load_blk hB3 rfl ?_
        refine index_sls sx_len (hX.ext hE03).sl rfl (by omega) (fun p3 y3 hy3 hcl3 => ?_)
        obtain rfl : y = y3 := Option.some.inj (hy.symm.trans hy3)
        refine loadN_at (vs := [.slice y.x.A y.x.n y.x.c, .int .i64 y.x.r]) rfl (fun j v hj => by rw [Addr.add_add]; exact hcl3 (4 + j) v (by match j, hj with | 0, hj => exact hj | 1, hj => exact hj)) ?_
        refine storeN_blk0 (hB2.ext hE3) rfl (sc rfl) (fun w4 hg4 _ hB4 => ?_)
        have hM4 : Mod (· = w1.heap.size) w3 w4 := Mod.of_grown hg4 rfl
        refine loadN_blk0 hB4 rfl ?_
        obtain ⟨b', _, hcb⟩ := seg_at (tx := g.tx) (l := g.sg) (a := 0) (at_ := at_) hG.ch (sgb hG) hs (by omega) (by omega)
        rw [Nat.sub_zero] at hcb
        have hcb : (cbG g)[at_]? = some (b', s.o) := hcb
        rw [hc] at hcb
        cases hcb
        have hSB := (hX.dg y (List.mem_of_getElem? hy)).ext hE03
        refine ⟨y.x, rfl, hM4.ext hE03 (fun i hi => by have := hE1.size; omega), SB.modo hSB hM4 (fun ad e h0 hh => ?_), y5⟩
        have := SB.lt (hX.dg y (List.mem_of_getElem? hy)) ad e h0
        omega
      · refine norm_i64_to ((i + 1 : Nat) : Int) (by show ((i : Nat) : Int) + 1 = _; omega) (by omega) ?_
        exact ⟨i + 1, rfl, ⟨hE3, by omega, next (fun hh => by omega)⟩, by show g.sg.length - (i + 1) < g.sg.length - i; omega⟩
    · refine norm_i64_to ((i + 1 : Nat) : Int) (by show ((i : Nat) : Int) + 1 = _; omega) (by omega) ?_
      exact ⟨i + 1, rfl, ⟨hE3, by omega, next (fun hh => by omega)⟩, by show g.sg.length - (i + 1) < g.sg.length - i; omega⟩
  · obtain ⟨j, s, q1, q2, q3⟩ := ex_seg hG.ch (Nat.zero_le _) hat
    have hj := (List.getElem?_eq_some_iff.1 q1).1
    exact absurd ⟨q2, q3⟩ (hno j s (by omega) q1)

theorem mem_exp {ln : List Mn} {m : Mn} : ∀ {l : List Mn}, m ∈ expM ln l → m ∈ ln ∨ m ∈ l
  | [], h => by cases h
  | x :: l, h => by
    rw [expM] at h
    rcases List.mem_append.1 h with h | h
    · cases x <;> simp only [expO, List.mem_singleton] at h <;> first | exact .inl h | exact .inr (by simp [h])
    · rcases mem_exp h with h | h
      · exact .inl h
      · exact .inr (by simp [h])
theorem inc_take (R : List Nat) : incD.isPrefixOf R = decide (R.take 13 = incD) := by
  rw [pref_take]
  refine decide_eq_decide.2 ⟨fun h => h.2, fun h => ⟨?_, h⟩⟩
  have := congrArg List.length h
  rw [List.length_take] at this
  have e : incD.length = 13 := rfl
  omega

set_option maxHeartbeats 3200000 in
theorem includes_law (A B : Option Addr) (n1 c1 n2 c2 : Nat) (main other : List Lx) (w : World) (hL : SlS Lx.cells 3 w A n1 c1 main) (hok : ∀ x ∈ main, LxOk w x) (hL' : SlS Lx.cells 3 w B n2 c2 other) (hok' : ∀ x ∈ other, LxOk w x) :
    Fn Tryz.prog 9 [.slice A n1 c1, .slice B n2 c2] w (fun v w' => v = .bool true ∧ Ext w w') := by
  refine fn_of_exec (c := { c9 with cuts := [] }) gx_ok Tryz.func9 rfl rfl rfl ?_
  refine call (sanity7_fn w) ?_
  rintro _ w1 ⟨rfl, hE1⟩
  have hk : 3 ≤ 4 := by decide
  refine call (letters_fn 3 w1 (by omega)) ?_
  rintro _ w2 ⟨NA, nc, rfl, hE2, hN2⟩
  have hE02 := hE1.trans hE2
  obtain ⟨hnb, hnok, hnl⟩ := letters_ok 3 (by omega)
  refine call (rmade_fn 3 hk NA nc A B n1 c1 n2 c2 main other w2 hN2 (hL.ext hE02) (fun x hx => (hok x hx).ext hE02) (hL'.ext hE02) (fun x hx => (hok' x hx).ext hE02)) ?_
  rintro _ w3 ⟨FA, rfl, hE3, hF3⟩
  have hE03 := hE02.trans hE3
  have hi : ∀ x ∈ main, x.i ≤ 255 := fun x hx => (hok x hx).i8
  have hi' : ∀ x ∈ other, x.i ≤ 255 := fun x hx => (hok' x hx).i8
  obtain ⟨g, hr, hcb⟩ := made_read hk hi hi'
  have hG := (readE_inv hr).1
  have hN3 := hN2.ext hE3
  refine call (sread_fn (letters12.take 3) NA 3 nc (madeF 3 main other) FA 2 2 [109] w3 hN3 hnb (by omega) hF3 (made_fb hk hi hi') (by decide) (by decide)) ?_
  rw [hr]
  rintro _ w4 ⟨hE4, hg, RA, rc, RL, rfl, hS4⟩
  have hI4 : SrcIn w4 3 RA rc g := srcIn_read (by omega) hr hg hS4
  refine new (fun w5 hE5 hz5 hB5 => ?_)
  refine new (fun w6 hE6 hz6 hB6 => ?_)
  refine storeN_blk0 (hB5.ext hE6) rfl (sc rfl) (fun w7 hg7 _ hB7 => ?_)
  have hM7 : Mod (· = w4.heap.size) w6 w7 := Mod.of_grown hg7 rfl
  refine storeN_blk0 (hB6.mod hM7 (by omega)) rfl (sc rfl) (fun w8 hg8 _ hB8 => ?_)
  have hM8 : Mod (· = w5.heap.size) w7 w8 := Mod.of_grown hg8 rfl
  have hB78 := hB7.mod hM8 (by omega)
  have hE48 : Ext w4 w8 := hM8.ext (hM7.ext (hE5.trans hE6) (fun i hi => by omega)) (fun i hi => by omega)
  have hI8 := hI4.ext hE48
  have hF8 := hF3.ext (hE4.trans hE48)
  have hN8 := hN3.ext (hE4.trans hE48)
  have l1 := mns_len (main_b hk hi)
  have l2 := mns_len (oth_b hk hi')
  have q1 := main_len 3 main
  have q2 := oth_len 3 other
  have hnh : ∀ m ∈ mainM 3 main, NhOk m := md_nh hk true _ [] (fun x hx => hi x (List.mem_of_mem_take hx))
  have hwe : wfM (letters12.take 3) false 6 [] (expM (othM 3 other) (mainM 3 main)) := wf_exp (oth_wf hk hi') _ [] (main_wf hk hi) (by decide)
  have hbe : LnB 34 (expM (othM 3 other) (mainM 3 main)) := fun m hm => by
    rcases mem_exp hm with h | h
    · exact oth_b hk hi' m h
    · exact main_b hk hi m h
  have hle := exp_len (ln := othM 3 other) (M := 8) q2 (by decide) (mainM 3 main)
  have hlt := mns_len hbe
  obtain ⟨g2, hr2, hcb2⟩ := one_read (nm := letters12.take 3) (D := 6) hnok (by decide) hwe hbe (by omega) (f := [109]) (by decide)
  rw [em_exp (oth_wf hk hi')] at hcb2
  have hG2 := (readE_inv hr2).1
  have hcc : cbG g2 = cbG g := by rw [hcb, hcb2]; rfl
  have htt : g2.tx = g.tx := by rw [← cb_fst hG2, ← cb_fst hG, hcc]
  have hsc := scan_all (ln := othM 3 other) (mainM 3 main) _ hnh (Nat.le_refl _)
  have h8m := mns_b8 (wf_all (main_wf hk hi))
  have h8e := mns_b8 (wf_all hwe)
  have hf0 : (madeF 3 main other)[0]? = some ([109], unl ((mainM 3 main).map mnT)) := rfl
  have hf1 : (madeF 3 main other)[1]? = some ([110], unl ((othM 3 other).map mnT)) := rfl
  refine index_sls file_len hF8 (i := 0) (j := 0) rfl (by decide) (fun pp y hy hcl => ?_)
  obtain rfl := Option.some.inj (hf0.symm.trans hy)
  refine load (hcl 1 _ rfl) ?_
  generalize hO : unl ((othM 3 other).map mnT) = oth at *
  generalize hMm : unl ((mainM 3 main).map mnT) = mt at *
  generalize hT : unl ((expM (othM 3 other) (mainM 3 main)).map mnT) = tot at *
  refine loop gx_ok [12, 11] (fun s : List Nat × List Nat => [.string (strOf s.2), .string (strOf s.1)]) (fun s w' => w8 = w' ∧ (∀ b ∈ s.2, b < 256) ∧ ∃ f, s.2.length ≤ f ∧ s.1 ++ scanP oth f s.2 = tot) (fun s _ => s.2.length) ([], mt) rfl ⟨rfl, h8m, mt.length, Nat.le_refl _, hsc⟩ ?_
  rintro ⟨T, R⟩ _ ⟨rfl, hR8, f, hf, hsp⟩
  simp only at hR8 hf hsp
  have hTl : T.length ≤ tot.length := by rw [← hsp, List.length_append]; omega
  have sT := strOf_size T
  have sR := strOf_size R
  cases R with
  | cons b r =>
    refine wif_t (by
      rw [Bool.not_eq_true', decide_eq_false_iff_not]
      intro e
      have := congrArg ByteArray.size e
      have this : (strOf (b :: r)).size = 0 := this
      rw [sR] at this; simp at this) ?_
    cases f with
    | zero => simp at hf
    | succ f =>
    rw [scanP, inc_take] at hsp
    have one : ¬ (b :: r).take 13 = incD → ∃ f', r.length ≤ f' ∧ (T ++ [b]) ++ scanP oth f' r = tot := fun h => ⟨f, by simpa using hf, by rw [← hsp, if_neg (by rw [decide_eq_false h]; decide)]; simp⟩
    refine wif_d (fun d1 => ?_) (fun d1 => ?_)
    · refine need_to (v' := .string (strOf ((b :: r).take 13))) ⟨by decide, by decide, by rw [sR] at d1 ⊢; exact d1⟩ (by rw [strOf_extract]; rfl) ?_
      refine wif (fun d2 => ?_) (fun d2 => ?_)
      · have d2 : decide (strOf ((b :: r).take 13) = strOf incD) = true := d2
        rw [strOf_eq (fun x hx => hR8 x (List.mem_of_mem_take hx)) (by decide)] at d2
        have d3 := of_decide_eq_true d2
        rw [if_pos d2] at hsp
        refine index_sls file_len hF8 (i := 1) (j := 1) rfl (by decide) (fun pp y hy hcl => ?_)
        have hf1 : (madeF 3 main other)[1]? = some ([110], oth) := by rw [← hO]; rfl
        obtain rfl := Option.some.inj (hf1.symm.trans hy)
        refine load (hcl 1 _ rfl) ?_
        refine need_to (v' := .string (strOf (T ++ oth))) (by rw [sT, strOf_size]; show T.length + oth.length ≤ maxLen; unfold maxLen; omega) (congrArg Value.string (strOf_append _ _)) ?_
        refine need_to (v' := .string (strOf ((b :: r).drop 13))) ⟨by decide, by rw [sR] at d1 ⊢; exact d1, by omega⟩ (by
          rw [strOf_extract, sR]
          simp only [Int.toNat_natCast]
          rw [List.take_of_length_le (Nat.le_refl _)]
          rfl) ?_
        exact ⟨(T ++ oth, (b :: r).drop 13), rfl, ⟨rfl, fun x hx => hR8 x (List.mem_of_mem_drop hx), f, by show ((b :: r).drop 13).length ≤ f; rw [List.length_drop]; simp at hf ⊢; omega, by show (T ++ oth) ++ _ = _; rw [← hsp, List.append_assoc]⟩, by show ((b :: r).drop 13).length < (b :: r).length; rw [List.length_drop, List.length_cons]; omega⟩
      · have d2 : decide (strOf ((b :: r).take 13) = strOf incD) = false := d2
        rw [strOf_eq (fun x hx => hR8 x (List.mem_of_mem_take hx)) (by decide)] at d2
        obtain ⟨f', o1, o2⟩ := one (of_decide_eq_false d2)
        refine need_to (v' := .string (strOf [b])) ⟨by decide, by decide, by rw [sR, List.length_cons]; omega⟩ (by rw [strOf_extract]; rfl) ?_
        refine need_to (v' := .string (strOf (T ++ [b]))) (by rw [sT]; show _ + 1 ≤ maxLen; unfold maxLen; omega) (congrArg Value.string (strOf_append _ _)) ?_
        refine need_to (v' := .string (strOf r)) ⟨by decide, by rw [sR, List.length_cons]; omega, by omega⟩ (by
          rw [strOf_extract, sR]
          simp only [Int.toNat_natCast]
          rw [List.take_of_length_le (Nat.le_refl _)]
          rfl) ?_
        exact ⟨(T ++ [b], r), rfl, ⟨rfl, fun x hx => hR8 x (by simp [hx]), f', o1, o2⟩, by show r.length < (b :: r).length; simp⟩
    · obtain ⟨f', o1, o2⟩ := one (fun h => by
        have := congrArg List.length h
        rw [List.length_take] at this
        have e : incD.length = 13 := rfl
        have d1 : ¬ ((strOf (b :: r)).size : Int) ≥ 13 := d1
        omega)
      refine need_to (v' := .string (strOf [b])) ⟨by decide, by decide, by rw [sR, List.length_cons]; omega⟩ (by rw [strOf_extract]; rfl) ?_
      refine need_to (v' := .string (strOf (T ++ [b]))) (by rw [sT]; show _ + 1 ≤ maxLen; unfold maxLen; omega) (congrArg Value.string (strOf_append _ _)) ?_
      refine need_to (v' := .string (strOf r)) ⟨by decide, by rw [sR, List.length_cons]; omega, by omega⟩ (by
        rw [strOf_extract, sR]
        simp only [Int.toNat_natCast]
        rw [List.take_of_length_le (Nat.le_refl _)]
        rfl) ?_
      exact ⟨(T ++ [b], r), rfl, ⟨rfl, fun x hx => hR8 x (by simp [hx]), f', o1, o2⟩, by show r.length < (b :: r).length; simp⟩
  | nil =>
    have hsp2 : T = tot := by
      rw [← hsp]
      cases f <;> simp [scanP]
    subst hsp2
    refine wif_f (by rfl) ?_
    refine at_buildN gx_ok [fileC ([109], T)] rfl rfl rfl rfl rfl ⟨rfl, rfl, ⟨⟩⟩ rfl (fun cs h => by simp only [List.mem_singleton] at h; subst h; rfl) rfl (by decide) (by decide) ?_
    intro w9 hE9 hz9 hB9
    have hF9 : SlS fileC 2 w9 (some ⟨w8.heap.size, 0, none⟩) 1 1 [([109], T)] := ⟨Sl.own (sz := 2) (n := 1) hB9 (Nat.le_refl _) (by decide) (by simp [fileC]), rfl⟩
    refine call (sread_fn (letters12.take 3) NA 3 nc [([109], T)] _ 1 1 [109] w9 (hN8.ext hE9) hnb (by omega) hF9 (fun x hx => by
      simp only [List.mem_singleton] at hx
      subst hx
      exact ⟨(show ∀ b ∈ [109], b < 256 by decide), h8e, (show [109].length ≤ _ by decide), by simp only; omega⟩) (by decide) (by decide)) ?_
    rw [hr2]
    rintro _ w10 ⟨hE10, hg2, RA2, rc2, RL2, rfl, hS10⟩
    have hI10 : SrcIn w10 3 RA2 rc2 g2 := srcIn_read (by omega) hr2 hg2 hS10
    refine new (fun w11 hE11 hz11 hB11 => ?_)
    refine new (fun w12 hE12 hz12 hB12 => ?_)
    refine storeN_blk0 (hB11.ext hE12) rfl (sc rfl) (fun w13 hg13 _ hB13 => ?_)
    have hM13 : Mod (· = w10.heap.size) w12 w13 := Mod.of_grown hg13 rfl
    refine storeN_blk0 (hB12.mod hM13 (by omega)) rfl (sc rfl) (fun w14 hg14 _ hB14 => ?_)
    have hM14 : Mod (· = w11.heap.size) w13 w14 := Mod.of_grown hg14 rfl
    have hB1314 := hB13.mod hM14 (by omega)
    have hE1014 : Ext w10 w14 := hM14.ext (hM13.ext (hE11.trans hE12) (fun i hi => by omega)) (fun i hi => by omega)
    have hE814 := (hE9.trans hE10).trans hE1014
    have hB814 := hB8.ext hE814
    have hB7814 := hB78.ext hE814
    refine loadN_blk0 hB814 rfl ?_
    refine wif_f rfl ?_
    refine loadN_blk0 hB14 rfl ?_
    refine loadN_blk0 hB814 rfl ?_
    refine wif_f rfl ?_
    refine load_blk0 hB7814 rfl ?_
    refine load_blk0 hB1314 rfl ?_
    refine wif_f (by rw [htt]; simp) ?_
    refine loadN_blk0 hB7814 rfl ?_
    refine call (rchk_fn (hI8.ext hE814)) ?_
    rintro _ w15 ⟨rfl, hE15⟩
    refine wif_nef rfl ?_
    refine loadN_blk0 (hB1314.ext hE15) rfl ?_
    refine call (rchk_fn ((hI10.ext hE1014).ext hE15)) ?_
    rintro _ w16 ⟨rfl, hE16⟩
    refine wif_nef rfl ?_
    have hE816 := (hE814.trans hE15).trans hE16
    have hE1416 := hE15.trans hE16
    have hI16 := hI8.ext hE816
    have hJ16 := (hI10.ext hE1014).ext hE1416
    have hB16 := hB78.ext hE816
    have hC16 := hB1314.ext hE1416
    have hgt := hg.tl
    have hts := strOf_size g.tx
    have hE016 : Ext w w16 := ((hE03.trans hE4).trans hE48).trans hE816
    refine loop gx_ok [15] (fun s : Nat => [.int .i64 s]) (fun s w' => Ext w16 w' ∧ s ≤ g.tx.length) (fun s _ => g.tx.length - s) 0 rfl ⟨Ext.refl _, Nat.zero_le _⟩ ?_
    rintro at_ w17 ⟨hE17, hat⟩
    have hB17 := hB16.ext hE17
    have hC17 := hC16.ext hE17
    refine load_blk0 hB17 rfl ?_
    refine wif_d (fun d1 => ?_) (fun d1 => ?_)
    · have hlt2 : at_ < g.tx.length := by omega
      obtain ⟨p, hp, _⟩ := cb_get hG at_ hlt2
      refine draw_plan gx_ok (Ext w17) 8 [(true, 0), (true, 1), (true, 3), (true, 4), (false, 2), (false, 5), (false, 6), (true, 7)] (by kernel_rfl) (Ext.drew w17) ?_
      refine qloadN (vs := [.string (strOf g.tx), .slice RA g.sg.length rc]) rfl (fun w' hw' j v hj => by rw [(hB17.ext hw').cell]; exact hj) ?_
      refine qloadN (vs := [.string (strOf g2.tx), .slice RA2 g2.sg.length rc2]) rfl (fun w' hw' j v hj => by rw [(hC17.ext hw').cell]; exact hj) ?_
      have hd := Ext.drew w17
      refine call (condition_fn ((hI16.ext hE17).ext hd) hG at_ p.1 p.2 hp) ?_
      rintro _ w18 ⟨x, rfl, hE18, hx18, hxs⟩
      have hE1718 := hd.trans hE18
      refine ⟨hE1718, ?_⟩
      refine call (condition_fn ((hJ16.ext hE17).ext hE1718) hG2 at_ p.1 p.2 (by rw [hcc]; exact hp)) ?_
      rintro _ w19 ⟨y, rfl, hE19, hy19, hys⟩
      have hE1719 := hE1718.trans hE19
      refine ⟨hE1719, ?_⟩
      refine call (rsame_fn x.A y.A x.n x.c y.n y.c x.nd y.nd x.r y.r w19 (hx18.ext hE19) hy19) ?_
      rintro _ w20 ⟨rfl, hE20⟩
      have hE1720 := hE1719.trans hE20
      refine ⟨hE1720, ?_⟩
      refine wif_f (by rw [decide_eq_true (hxs.unique hys (fun _ => rfl))]; rfl) ?_
      refine norm_i64_to ((at_ + 1 : Nat) : Int) (by show ((at_ : Nat) : Int) + 1 = _; omega) (by omega) ?_
      exact ⟨at_ + 1, rfl, ⟨hE17.trans hE1720, by omega⟩, by show g.tx.length - (at_ + 1) < g.tx.length - at_; omega⟩
    · exact ⟨rfl, hE016.trans hE17⟩
end
end Go.Proofs.YtedopgkbajhanaaGreatDoor
