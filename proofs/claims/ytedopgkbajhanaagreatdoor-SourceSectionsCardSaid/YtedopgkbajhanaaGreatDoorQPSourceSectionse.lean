/-
  What PSourceSections rests on, part 5: the texts of this work, without what it does not use; printed by a program (wip/shake.py).
  Conditions: none.
-/
import Derived.Test.YtedopgkbajhanaaGreatDoorQPSourceSectionsd
namespace Go.Proofs.YtedopgkbajhanaaGreatDoor
section
section
open Go Go.RowKit

/-! ### Segments that follow one another -/
def ChG : Nat → List Sg → Nat → Prop
  | a, [], b => a = b
  | a, s :: l, b => s.f = a ∧ ChG s.t l b
theorem ChG.snoc {x : Sg} : ∀ {l : List Sg} {a b : Nat}, ChG a (l ++ [x]) b ↔ ChG a l x.f ∧ x.t = b
  | [], a, b => by simp only [List.nil_append, ChG]; exact ⟨fun h => ⟨h.1.symm, h.2⟩, fun h => ⟨h.1.symm, h.2⟩⟩
  | s :: l, a, b => by
    simp only [List.cons_append, ChG]
    rw [ChG.snoc (l := l)]
    exact ⟨fun h => ⟨⟨h.1, h.2.1⟩, h.2.2⟩, fun h => ⟨h.1.1, h.1.2, h.2⟩⟩
/-- A segment is a run of whole lines of a file. -/
structure SgOk (fs : List (List Nat × List Nat)) (tx : List Nat) (s : Sg) : Prop where
  ft : s.f < s.t
  tl : s.t ≤ tx.length
  nl : tx[s.t - 1]? = some 10
  src : ∃ x, fs[s.fl]? = some x ∧ s.at_ + (s.t - s.f) ≤ x.2.length ∧ (x.2.drop s.at_).take (s.t - s.f) = (tx.take s.t).drop s.f
theorem SgOk.app {fs : List (List Nat × List Nat)} {tx : List Nat} {s : Sg} (h : SgOk fs tx s) (l : List Nat) : SgOk fs (tx ++ l) s := by
  obtain ⟨h1, h2, h3, x, h4, h5, h6⟩ := h
  refine ⟨h1, by rw [List.length_append]; omega, by rw [List.getElem?_append_left (by omega)]; exact h3, x, h4, h5, ?_⟩
  rw [List.take_append_of_le_length h2]; exact h6
structure GInv (fs : List (List Nat × List Nat)) (g : Gs) : Prop where
  ch : ChG 0 g.sg g.tx.length
  ok : ∀ s ∈ g.sg, SgOk fs g.tx s
theorem GInv.fr {fs : List (List Nat × List Nat)} {g : Gs} (h : GInv fs g) (b : Bool) : GInv fs { g with fr := b } := ⟨h.ch, h.ok⟩
/-- The open segment ends where the reading is. -/
def CurG (n p : Nat) (k : BF) (g : Gs) : Prop := g.fr = false → ∃ l x, g.sg = l ++ [x] ∧ x.fl = n ∧ x.at_ + (x.t - x.f) = p ∧ x.o = k
theorem add_inv {fs : List (List Nat × List Nat)} {n p : Nat} {k : BF} {g g' : Gs} {s : List Nat} (h : GInv fs g) (hc : CurG n p k g) {x : List Nat × List Nat} (hx : fs[n]? = some x) (hs : x.2.drop p = s ++ x.2.drop (p + s.length)) (hp : p + s.length ≤ x.2.length) (hl : s.getLast? = some 10)
    (ha : addG s n p k g = some g') : GInv fs g' ∧ CurG n (p + s.length) k g' := by
  unfold addG at ha
  split at ha
  · cases ha
  cases ha
  have hs0 : 0 < s.length := by
    cases s with
    | nil => cases hl
    | cons _ _ => simp
  have hnl : (g.tx ++ s)[g.tx.length + s.length - 1]? = some 10 := by
    rw [List.getElem?_append_right (by omega), show g.tx.length + s.length - 1 - g.tx.length = s.length - 1 by omega, ← List.getLast?_eq_getElem?]; exact hl
  cases hf : g.fr with
  | true =>
    rw [if_pos rfl, setTo_snoc]
    refine ⟨⟨?_, fun y hy => ?_⟩, fun _ => ⟨_, _, rfl, rfl, ?_, rfl⟩⟩
    · simp only
      rw [ChG.snoc]
      exact ⟨h.ch, by simp⟩
    · simp only [List.mem_append, List.mem_singleton] at hy
      rcases hy with hy | rfl
      · exact (h.ok y hy).app s
      · refine ⟨by simp only; omega, by simp, hnl, x, hx, by simp only; omega, ?_⟩
        simp only
        rw [show g.tx.length + s.length - g.tx.length = s.length by omega, hs, List.take_left, List.take_of_length_le (by simp), List.drop_left]
    · simp only; omega
  | false =>
    rw [if_neg (by decide)]
    obtain ⟨l, y, e, e1, e2, e3⟩ := hc hf
    have hch := h.ch
    have hok := h.ok
    rw [e] at hch hok
    rw [ChG.snoc] at hch
    obtain ⟨q1, q2, q3, z, q4, q5, q6⟩ := hok y (by simp)
    rw [e, setTo_snoc]
    have hz : z = x := by rw [e1, hx] at q4; exact (Option.some.inj q4).symm
    subst hz
    refine ⟨⟨?_, fun u hu => ?_⟩, fun _ => ⟨_, _, rfl, e1, ?_, e3⟩⟩
    · simp only
      rw [ChG.snoc]
      exact ⟨hch.1, by simp⟩
    · simp only [List.mem_append, List.mem_singleton] at hu
      rcases hu with hu | rfl
      · exact (hok u (by simp [hu])).app s
      · refine ⟨by simp only; omega, by simp, hnl, z, q4, by simp only; omega, ?_⟩
        simp only
        rw [show g.tx.length + s.length - y.f = (y.t - y.f) + s.length by omega, List.take_of_length_le (l := g.tx ++ s) (by simp), List.drop_append_of_le_length (by omega)]
        rw [List.take_add, List.drop_drop, e2, hs, List.take_left, q6, hch.2, List.take_length]
    · simp only; omega

theorem rdL_inv {nm : List (List Nat)} {fs : List (List Nat × List Nat)} {n d0 : Nat} {inc : IncF} {x : List Nat × List Nat} (hx : fs[n]? = some x)
    (hi : ∀ r ln d k g g', inc r ln d k g = .ok g' → GInv fs g → GInv fs g') : ∀ (ls : List (List Nat)) (ln at_ : Nat) (k : BF) (op : List Se) (g g' : Gs),
    x.2.drop at_ = unl ls → at_ ≤ x.2.length → GInv fs g → CurG n at_ k g → rdL nm n d0 inc ls ln at_ k op g = .ok g' → GInv fs g' ∧ g'.fr = true
  | [], ln, at_, k, op, g, g', _, _, hg, _, hr => by
    cases op with
    | nil => simp only [rdL, Except.ok.injEq] at hr; subst hr; exact ⟨hg.fr true, rfl⟩
    | cons _ _ => simp [rdL] at hr
  | s :: ls, ln, at_, k, op, g, g', hd, hat, hg, hc, hr => by
    have hl1 : x.2.drop at_ = (s ++ [10]) ++ unl ls := by rw [hd, unl_cons]; simp
    have hL : (s ++ [10]).length = s.length + 1 := by simp
    have hlen : x.2.length - at_ = s.length + 1 + (unl ls).length := by
      have := congrArg List.length hl1
      simp only [List.length_drop, List.length_append, List.length_cons, List.length_nil] at this
      omega
    have hd2 : x.2.drop (at_ + s.length + 1) = unl ls := by
      rw [show at_ + s.length + 1 = at_ + (s ++ [10]).length by simp; omega, ← List.drop_drop, hl1, List.drop_left]
    have ih := fun k op g g' h1 h2 h3 => rdL_inv (nm := nm) (d0 := d0) hx hi ls (ln + 1) (at_ + s.length + 1) k op g g' hd2 (by omega) h1 h2 h3
    have cf : ∀ k' (g : Gs), CurG n (at_ + s.length + 1) k' { g with fr := true } := fun k' g h => by cases h
    rw [rdL.eq_def] at hr; simp only at hr
    cases hdir : dirOf s with
    | txt =>
      rw [hdir] at hr
      simp only at hr
      cases ha : addG (s ++ [10]) n at_ k g with
      | none => rw [ha] at hr; cases hr
      | some g1 =>
        rw [ha] at hr
        simp only at hr
        obtain ⟨i1, i2⟩ := add_inv hg hc hx (by rw [hL, ← Nat.add_assoc, hd2]; exact hl1) (by rw [hL]; omega) (by simp) ha
        exact ih k op g1 g' i1 (by rw [hL, ← Nat.add_assoc] at i2; exact i2) hr
    | ifd r =>
      rw [hdir] at hr
      simp only at hr
      cases hs : setE nm r with
      | error e => rw [hs] at hr; cases hr
      | ok d =>
        rw [hs] at hr
        simp only at hr
        split at hr
        · cases hr
        · exact ih _ _ _ _ (hg.fr true) (cf _ _) hr
    | inc r =>
      rw [hdir] at hr
      simp only at hr
      cases hs : inc r (ln + 1) (d0 + op.length) k g with
      | error e => rw [hs] at hr; cases hr
      | ok g1 =>
        rw [hs] at hr
        exact ih _ _ _ _ ((hi _ _ _ _ _ _ hs hg).fr true) (cf _ _) hr
    | elif r =>
      rw [hdir] at hr
      cases op with
      | nil => cases hr
      | cons y op =>
        simp only at hr
        split at hr
        · cases hr
        · cases hs : setE nm r with
          | error e => rw [hs] at hr; cases hr
          | ok d => rw [hs] at hr; exact ih _ _ _ _ (hg.fr true) (cf _ _) hr
    | els =>
      rw [hdir] at hr
      cases op with
      | nil => cases hr
      | cons y op =>
        simp only at hr
        split at hr
        · cases hr
        · exact ih _ _ _ _ (hg.fr true) (cf _ _) hr
    | en =>
      rw [hdir] at hr
      cases op with
      | nil => cases hr
      | cons y op => exact ih _ _ _ _ (hg.fr true) (cf _ _) hr
theorem rdF_inv {nm : List (List Nat)} {fs : List (List Nat × List Nat)} (hf : ∀ x ∈ fs, TextOk x.2) : ∀ (f : Nat) (rd : List Nat) (d n : Nat) (k : BF) (g g' : Gs), n < fs.length → GInv fs g → rdF nm fs f rd d n k g = .ok g' → GInv fs g' ∧ g'.fr = true
  | 0, _, _, _, _, _, _, _, _, hr => by cases hr
  | f + 1, rd, d, n, k, g, g', hn, hg, hr => by
    have hx : fs[n]? = some fs[n] := List.getElem?_eq_getElem hn
    rw [rdF, hx] at hr
    simp only [Option.map_some, Option.getD_some] at hr
    refine rdL_inv hx ?_ (linesOf fs[n].2) 0 0 k [] { g with fr := true } g' (by rw [List.drop_zero, unl_linesOf (hf _ (List.getElem_mem hn))]) (Nat.zero_le _) (hg.fr true) (fun h => by cases h) hr
    intro r ln d' k' g1 g2 hi hg1
    cases he : incE (ixN (fs.map (·.1))) (n :: rd) r with
    | error e => rw [he] at hi; cases hi
    | ok m =>
      rw [he] at hi
      simp only at hi
      split at hi
      · cases hi
      · have hm : m < fs.length := by
          obtain ⟨_, tn, htn⟩ := incE_ok he
          have := ixN_lt htn
          simpa using this
        exact (rdF_inv hf f _ _ m _ g1 g2 hm hg1 hi).1
theorem readE_inv {nm : List (List Nat)} {fs : List (List Nat × List Nat)} {root : List Nat} {g : Gs} (hr : readE nm fs root = .ok g) : GInv fs g ∧ fs.length ≤ 256 ∧ ∀ x ∈ fs, x.2.length ≤ 1048576 := by
  unfold readE at hr
  split at hr
  · cases hr
  cases hfe : filesE fs with
  | some p => rw [hfe] at hr; cases hr
  | none =>
    rw [hfe] at hr
    simp only at hr
    have h256 : fs.length ≤ 256 := by
      unfold filesE at hfe
      split at hfe
      · cases hfe
      · omega
    have hall : ∀ x ∈ fs, fnameOk x.1 = true ∧ textB x.2 = true ∧ x.2.length ≤ 1048576 := by
      unfold filesE at hfe
      rw [if_neg (by omega)] at hfe
      exact chkFs_ok fs [] 0 hfe
    cases hix : ixN (fs.map (·.1)) root with
    | none => rw [hix] at hr; cases hr
    | some n =>
      rw [hix] at hr
      simp only at hr
      have hn : n < fs.length := by have := ixN_lt hix; simpa using this
      exact ⟨(rdF_inv (fun x hx => textB_ok (hall x hx).2.1) 65 [] 0 n _ _ g hn (⟨rfl, fun s hs => by cases hs⟩ : GInv fs ⟨[], [], false⟩) hr).1, h256, fun x hx => (hall x hx).2.2⟩
end

section
open Go Go.RowKit

/-! ### What was read, as segments -/
def mkX (s : Sg) (x : DV) : Sx := ⟨s.f, s.t, s.fl, s.at_, x⟩
def toX (s : Sg) : Sx := ⟨s.f, s.t, s.fl, s.at_, ⟨none, 0, 0, [], 0⟩⟩
def AllS (k : Nat) : List Sg → List Sx → Prop
  | [], [] => True
  | s :: l, y :: m => (y.f = s.f ∧ y.t = s.t ∧ y.fl = s.fl ∧ y.at_ = s.at_ ∧ Set1 k y.x.nd y.x.r s.o) ∧ AllS k l m
  | _, _ => False
theorem AllS.len {k : Nat} : ∀ {l : List Sg} {m : List Sx}, AllS k l m → l.length = m.length
  | [], [], _ => rfl
  | _ :: _, _ :: _, h => by simp [AllS.len h.2]
theorem AllS.get {k : Nat} : ∀ {l : List Sg} {m : List Sx} {i : Nat} {s : Sg} {y : Sx}, AllS k l m → l[i]? = some s → m[i]? = some y → y.f = s.f ∧ y.t = s.t ∧ y.fl = s.fl ∧ y.at_ = s.at_ ∧ Set1 k y.x.nd y.x.r s.o
  | _ :: _, _ :: _, 0, _, _, h, h1, h2 => by cases h1; cases h2; exact h.1
  | _ :: _, _ :: _, i + 1, _, _, h, h1, h2 => AllS.get (i := i) h.2 (by simpa using h1) (by simpa using h2)
theorem src_in {w : World} {k : Nat} {A : Option Addr} {n c : Nat} {sg : List Sg} {L : List DV} (h : SgIn w k A n c sg L) : ∃ M, SX w A n c M ∧ AllS k sg M := by
  have key : ∀ (sg : List Sg) (L : List DV), L.length = sg.length → (∀ (j : Nat) (s : Sg) (x : DV), sg[j]? = some s → L[j]? = some x → SB w x.A x.n x.c x.nd ∧ Set1 k x.nd x.r s.o) →
      ∃ M : List Sx, M.flatMap Sx.cells = sgV sg L ∧ M.length = sg.length ∧ (∀ y ∈ M, SB w y.x.A y.x.n y.x.c y.x.nd) ∧ AllS k sg M := by
    intro sg
    induction sg with
    | nil =>
      intro L hl _
      have : L = [] := List.eq_nil_of_length_eq_zero hl
      subst this
      exact ⟨[], rfl, rfl, (fun y hy => by cases hy), ⟨⟩⟩
    | cons s sg ih =>
      intro L hl hd
      cases L with
      | nil => cases hl
      | cons x L =>
        obtain ⟨M, h1, h2, h3, h4⟩ := ih L (by simpa using hl) (fun j s x h1 h2 => hd (j + 1) s x (by simpa using h1) (by simpa using h2))
        obtain ⟨d1, d2⟩ := hd 0 s x rfl rfl
        refine ⟨mkX s x :: M, ?_, by simp [h2], ?_, ⟨⟨rfl, rfl, rfl, rfl, d2⟩, h4⟩⟩
        · rw [List.flatMap_cons, h1]; rfl
        · intro y hy
          rcases List.mem_cons.1 hy with rfl | hy
          · exact d1
          · exact h3 y hy
  obtain ⟨M, h1, h2, h3, h4⟩ := key sg L h.len h.dg
  exact ⟨M, ⟨⟨by rw [h1]; exact h.sl, by rw [h2]; exact h.n⟩, h3⟩, h4⟩
theorem chk_read {k : Nat} (hk : k ≤ 12) {fs : List (List Nat × List Nat)} {tx : List Nat} (hft : ∀ x ∈ fs, x.2.length ≤ 1048576) : ∀ {sg : List Sg} {M : List Sx} {a : Nat}, AllS k sg M → ChG a sg tx.length → (∀ s ∈ sg, SgOk fs tx s) → chkL tx a M
  | [], [], a, _, h, _ => by have : a = tx.length := h; subst this; rfl
  | s :: sg, y :: M, a, h, hc, hs => by
    obtain ⟨⟨e1, e2, e3, e4, e5⟩, hr⟩ := h
    obtain ⟨q1, q2, q3, x, q4, q5, q6⟩ := hs s (by simp)
    have hx := hft x (List.mem_of_getElem? q4)
    have hcf : s.f = a := hc.1
    refine ⟨⟨by omega, by omega, by omega, ?_, e5.chk hk, by omega, by omega, by omega⟩, ?_⟩
    · rw [show (y.t - 1).toNat = s.t - 1 by omega]; exact q3
    · rw [e2]; exact chk_read hk hft hr hc.2 (fun z hz => hs z (by simp [hz]))
theorem chkS_read {k : Nat} (hk : k ≤ 12) {nm : List (List Nat)} {fs : List (List Nat × List Nat)} {root : List Nat} {g : Gs} {M : List Sx} (hr : readE nm fs root = .ok g) (hg : GsOk g) (hM : AllS k g.sg M) : chkS g.tx M = 0 := by
  obtain ⟨h1, h2, h3⟩ := readE_inv hr
  exact chkS_zero.2 ⟨hg.tl, by rw [← hM.len]; exact hg.sl, chk_read hk h3 hM h1.ch h1.ok⟩

def onG (e : Nat → Bool) (sg : List Sg) : List Sg := sg.filter (fun s => s.o e)
def pieceG (tx : List Nat) (s : Sg) : List Nat := (tx.take s.t).drop s.f
def selG (tx : List Nat) (sg : List Sg) (e : Nat → Bool) : List Nat := (onG e sg).flatMap (pieceG tx)
def LikeS : List Sg → List Sx → Prop
  | [], [] => True
  | s :: l, y :: m => (y.f = s.f ∧ y.t = s.t ∧ y.fl = s.fl ∧ y.at_ = s.at_) ∧ LikeS l m
  | _, _ => False
theorem AllS.like {k : Nat} : ∀ {l : List Sg} {m : List Sx}, AllS k l m → LikeS l m
  | [], [], _ => ⟨⟩
  | _ :: _, _ :: _, ⟨⟨h1, h2, h3, h4, _⟩, h⟩ => ⟨⟨h1, h2, h3, h4⟩, h.like⟩
theorem AllS.on {k : Nat} (c : Nat) : ∀ {l : List Sg} {m : List Sx}, AllS k l m → LikeS (onG (bitE c) l) (selL c m)
  | [], [], _ => ⟨⟩
  | s :: l, y :: m, ⟨⟨h1, h2, h3, h4, h5⟩, h⟩ => by
    have ih := h.on c
    unfold onG selL at ih ⊢
    rw [List.filter_cons, List.filter_cons]
    have e : inS c y = s.o (bitE c) := h5.mean _
    rw [e]
    split
    · exact ⟨⟨h1, h2, h3, h4⟩, ih⟩
    · exact ih
theorem like_pieces {tx : List Nat} : ∀ {l : List Sg} {m : List Sx}, LikeS l m → m.flatMap (pieceS tx) = l.flatMap (pieceG tx)
  | [], [], _ => rfl
  | s :: l, y :: m, ⟨⟨h1, h2, _, _⟩, h⟩ => by
    rw [List.flatMap_cons, List.flatMap_cons, like_pieces h]
    unfold pieceS pieceG
    rw [h1, h2]; rfl
theorem like_loc {tl at_ : Int} : ∀ {l : List Sg} {m : List Sx} {n : Int}, LikeS l m → locL tl at_ n m = locL tl at_ n (l.map toX)
  | [], [], _, _ => rfl
  | s :: l, y :: m, n, ⟨⟨h1, h2, _, _⟩, h⟩ => by
    rw [List.map_cons, locL, locL, like_loc h, h1, h2]; rfl
theorem like_glb {tl : Int} : ∀ {l : List Sg} {m : List Sx} {at_ : Int}, LikeS l m → glbL tl at_ m = glbL tl at_ (l.map toX)
  | [], [], _, _ => rfl
  | s :: l, y :: m, n, ⟨⟨h1, h2, _, _⟩, h⟩ => by
    rw [List.map_cons, glbL, glbL, like_glb h, h1, h2]; rfl
theorem like_ori {at_ : Int} : ∀ {l : List Sg} {m : List Sx}, LikeS l m → oriL at_ m = oriL at_ (l.map toX)
  | [], [], _ => rfl
  | s :: l, y :: m, ⟨⟨h1, h2, h3, h4⟩, h⟩ => by
    rw [List.map_cons, oriL, oriL, like_ori h, h1, h2, h3, h4]; rfl
/-- Two sets over k conditions have a common configuration. -/
def bothG (k : Nat) (o o' : BF) : Bool := (List.range (2 ^ k)).any (fun c => o (bitE c) && o' (bitE c))
theorem bits_of (e : Nat → Bool) : ∀ k, ∃ c, c < 2 ^ k ∧ ∀ i, i < k → bitE c i = e i
  | 0 => ⟨0, by decide, fun i hi => by omega⟩
  | k + 1 => by
    obtain ⟨c, h1, h2⟩ := bits_of e k
    have hp : 2 ^ (k + 1) = 2 ^ k * 2 := Nat.pow_succ 2 k
    cases hk : e k with
    | false =>
      refine ⟨c, by omega, fun i hi => ?_⟩
      by_cases hik : i = k
      · subst hik; rw [hk]; unfold bitE; rw [Nat.div_eq_of_lt h1]; rfl
      · exact h2 i (by omega)
    | true =>
      refine ⟨c + 2 ^ k, by omega, fun i hi => ?_⟩
      by_cases hik : i = k
      · subst hik; rw [hk]; unfold bitE
        rw [Nat.add_div_right _ (Nat.pow_pos (by decide)), Nat.div_eq_of_lt h1]; rfl
      · rw [← h2 i (by omega)]
        unfold bitE
        congr 1
        have e1 : 2 ^ k = 2 ^ i * (2 * 2 ^ (k - i - 1)) := by
          rw [← Nat.mul_assoc, ← Nat.pow_succ, ← Nat.pow_add]; congr 1; omega
        rw [e1, Nat.add_mul_div_left _ _ (Nat.pow_pos (by decide)), Nat.add_mul_mod_self_left]
theorem meets_both {k : Nat} {a b : List Br} {ra rb : Int} {o o' : BF} (h : Set1 k a ra o) (h' : Set1 k b rb o') : Meets a ra b rb ↔ bothG k o o' = true := by
  unfold bothG
  rw [List.any_eq_true]
  constructor
  · rintro ⟨e, e1, e2⟩
    obtain ⟨c, hc, hb⟩ := bits_of e k
    refine ⟨c, List.mem_range.2 hc, ?_⟩
    rw [h.ext hb, h'.ext hb, ← h.mean, ← h'.mean, e1, e2]; rfl
  · rintro ⟨c, _, hc⟩
    rw [Bool.and_eq_true] at hc
    exact ⟨bitE c, by rw [h.mean]; exact hc.1, by rw [h'.mean]; exact hc.2⟩
def deadG (k : Nat) (o' : BF) : Nat → List Sg → List Nat
  | _, [] => []
  | i, s :: l => if bothG k s.o o' then deadG k o' (i + 1) l else i :: deadG k o' (i + 1) l
theorem dis_both {k : Nat} (hk : k ≤ 12) {a b : List Br} {ra rb : Int} {o o' : BF} (h : Set1 k a ra o) (h' : Set1 k b rb o') : disP a ra b rb = !bothG k o o' := by
  cases hb : bothG k o o' with
  | true => rw [disP_f (fun hh => hh.2.2 ((meets_both h h').2 hb))]; rfl
  | false => rw [disP_t ⟨h.chk hk, h'.chk hk, fun hh => by rw [(meets_both h h').1 hh] at hb; cases hb⟩]; rfl
theorem dead_read {k : Nat} (hk : k ≤ 12) {b : List Br} {rb : Int} {o' : BF} (h' : Set1 k b rb o') : ∀ {l : List Sg} {m : List Sx} {i : Nat}, AllS k l m → deadL b rb i m = deadG k o' i l
  | [], [], _, _ => rfl
  | s :: l, y :: m, i, ⟨⟨_, _, _, _, h⟩, hr⟩ => by
    rw [deadL, deadG, dis_both hk h h', dead_read hk h' hr]
    cases bothG k s.o o' <;> rfl

/-! ### Contracts on what was read -/
structure SrcIn (w : World) (k : Nat) (A : Option Addr) (c : Nat) (g : Gs) : Prop where
  ok : GsOk g
  kl : k ≤ 12
  ex : ∃ M, SX w A g.sg.length c M ∧ AllS k g.sg M ∧ chkS g.tx M = 0
theorem SrcIn.ext {w w' : World} {k : Nat} {A : Option Addr} {c : Nat} {g : Gs} (h : SrcIn w k A c g) (hE : Ext w w') : SrcIn w' k A c g := ⟨h.ok, h.kl, let ⟨M, h1, h2, h3⟩ := h.ex; ⟨M, h1.ext hE, h2, h3⟩⟩
theorem srcIn_read {k : Nat} (hk : k ≤ 12) {nm : List (List Nat)} {fs : List (List Nat × List Nat)} {root : List Nat} {g : Gs} (hr : readE nm fs root = .ok g) {w : World} {A : Option Addr} {c : Nat} {L : List DV} (hg : GsOk g) (h : SgIn w k A g.sg.length c g.sg L) : SrcIn w k A c g := by
  obtain ⟨M, h1, h2⟩ := src_in h
  exact ⟨hg, hk, M, h1, h2, chkS_read hk hr hg h2⟩
section
variable {w : World} {k : Nat} {A : Option Addr} {c : Nat} {g : Gs}
theorem rsel_fn (h : SrcIn w k A c g) (x : Nat) (hx : x ≤ 18446744073709551615) : Fn Tryz.prog 29 [srcV g.tx A g.sg.length c, .int .u64 x] w (fun u w' => u = .string (strOf (selG g.tx g.sg (bitE x))) ∧ Ext w w') := by
  obtain ⟨M, h1, h2, h3⟩ := h.ex
  refine (sselect_fn g.tx A _ c M x w h1 hx h.ok.b8).mono ?_
  rintro u w' ⟨rfl, hE⟩
  exact ⟨by unfold selP selG; rw [if_pos h3, like_pieces (h2.on x)], hE⟩
def locG (g : Gs) (x : Nat) (at_ : Int) : Int × Bool := locL g.tx.length at_ 0 ((onG (bitE x) g.sg).map toX)
def glbG (g : Gs) (x : Nat) (at_ : Int) : Int × Bool := if 0 ≤ at_ then glbL g.tx.length at_ ((onG (bitE x) g.sg).map toX) else (0, false)
def oriG (g : Gs) (at_ : Int) : Int × Int × Bool := if 0 ≤ at_ ∧ at_ < g.tx.length then oriL at_ (g.sg.map toX) else (0, 0, false)
theorem rloc_fn (h : SrcIn w k A c g) (x : Nat) (hx : x ≤ 18446744073709551615) (at_ : Int) : Fn Tryz.prog 19 [srcV g.tx A g.sg.length c, .int .u64 x, .int .i64 at_] w (fun u w' => u = .tuple #[.int .i64 (locG g x at_).1, .bool (locG g x at_).2] ∧ Ext w w') := by
  obtain ⟨M, h1, h2, h3⟩ := h.ex
  refine (slocal_fn g.tx A _ c M x at_ w h1 hx h.ok.b8).mono ?_
  rintro u w' ⟨rfl, hE⟩
  have e : locP g.tx M x at_ = locG g x at_ := by unfold locP locG; rw [if_pos h3, like_loc (h2.on x)]
  exact ⟨by rw [e], hE⟩
theorem rglb_fn (h : SrcIn w k A c g) (x : Nat) (hx : x ≤ 18446744073709551615) (at_ : Int) (ha : at_ ≤ 9223372036854775807) : Fn Tryz.prog 21 [srcV g.tx A g.sg.length c, .int .u64 x, .int .i64 at_] w (fun u w' => u = .tuple #[.int .i64 (glbG g x at_).1, .bool (glbG g x at_).2] ∧ Ext w w') := by
  obtain ⟨M, h1, h2, h3⟩ := h.ex
  refine (sglobal_fn g.tx A _ c M x at_ w h1 hx h.ok.b8 ha).mono ?_
  rintro u w' ⟨rfl, hE⟩
  have e : glbP g.tx M x at_ = glbG g x at_ := by
    unfold glbP glbG
    by_cases h0 : 0 ≤ at_
    · rw [if_pos ⟨h3, h0⟩, if_pos h0, like_glb (h2.on x)]
    · rw [if_neg (fun hh => h0 hh.2), if_neg h0]
  exact ⟨by rw [e], hE⟩
theorem rori_fn (h : SrcIn w k A c g) (at_ : Int) : Fn Tryz.prog 23 [srcV g.tx A g.sg.length c, .int .i64 at_] w (fun u w' => u = .tuple #[.int .i64 (oriG g at_).1, .int .i64 (oriG g at_).2.1, .bool (oriG g at_).2.2] ∧ Ext w w') := by
  obtain ⟨M, h1, h2, h3⟩ := h.ex
  refine (sorigin_fn g.tx A _ c M at_ w h1 h.ok.b8).mono ?_
  rintro u w' ⟨rfl, hE⟩
  have e : oriP g.tx M at_ = oriG g at_ := by
    unfold oriP oriG
    by_cases h0 : 0 ≤ at_ ∧ at_ < g.tx.length
    · rw [if_pos ⟨h3, h0⟩, if_pos h0, like_ori h2.like]
    · rw [if_neg (fun hh => h0 hh.2), if_neg h0]
  exact ⟨by rw [e], hE⟩
theorem rdead_fn (h : SrcIn w k A c g) {B : Option Addr} {m d : Nat} {b : List Br} {rb : Int} {o' : BF} (hb : SB w B m d b) (hs : Set1 k b rb o') : Fn Tryz.prog 25 [srcV g.tx A g.sg.length c, dgV B m d rb] w (fun u w' => ∃ O oc, u = .tuple #[.slice O (deadG k o' 0 g.sg).length oc, .int .i64 0] ∧ Ext w w' ∧ Sl w' 1 O (deadG k o' 0 g.sg).length oc (ixV (deadG k o' 0 g.sg))) := by
  obtain ⟨M, h1, h2, h3⟩ := h.ex
  refine (sdead_fn g.tx A _ c M B m d b rb w h1 hb h.ok.b8).mono ?_
  rintro u w' ⟨O, oc, rfl, hE, hO⟩
  have e : deadP g.tx M b rb = (deadG k o' 0 g.sg, 0) := by unfold deadP; rw [if_neg (fun hh => hh h3), if_neg (fun hh => hh (hs.chk h.kl)), dead_read h.kl hs h2]
  rw [e] at hO ⊢
  exact ⟨O, oc, rfl, hE, hO⟩
end

/-! ### Numbers do not lie among texts -/
theorem Sl.sep {w : World} {sz n c g t : Nat} {A : Option Addr} {cs l : List Value} {x : Int} (h : Sl w sz A n c cs) (h0 : cs[0]? = some (.int .i64 x)) (hB : Blk w g t l) (hl : ∀ v ∈ l, ∃ s, v = .string s) : 0 < n → ∀ i, rowS A i → ¬ i = g := fun hn i hi e => by
  obtain ⟨ad, rfl, hc⟩ := h.at_ hn
  obtain ⟨ad', e', rfl⟩ := hi
  cases e'
  have h1 := hc 0 _ h0
  unfold World.cell? at h1
  rw [block_add, e, show w.heap[g]? = _ from hB] at h1
  simp only at h1
  split at h1
  · cases h1
  · rw [List.getElem?_toArray] at h1
    obtain ⟨s, hs⟩ := hl _ (List.mem_of_getElem? h1)
    cases hs
theorem SB.modT {w w' : World} {A : Option Addr} {n c g t : Nat} {nd : List Br} {l : List Value} (h : SB w A n c nd) (hB : Blk w g t l) (hl : ∀ v ∈ l, ∃ s, v = .string s) (hm : Mod (· = g) w w') : SB w' A n c nd := by
  refine ⟨h.1.modS hm (fun hn i hi => ?_), h.2⟩
  cases nd with
  | nil => have := h.2; simp at this; omega
  | cons b nd => exact h.1.sep (x := b.v) (by simp [Br.cells]) hB hl hn i hi
theorem SX.modT {w w' : World} {A : Option Addr} {n c g t : Nat} {L : List Sx} {l : List Value} (h : SX w A n c L) (hB : Blk w g t l) (hl : ∀ v ∈ l, ∃ s, v = .string s) (hm : Mod (· = g) w w') : SX w' A n c L := by
  refine ⟨⟨h.sl.1.modS hm (fun hn i hi => ?_), h.sl.2⟩, fun y hy => (h.dg y hy).modT hB hl hm⟩
  cases L with
  | nil => have := h.sl.2; simp at this; omega
  | cons y L => exact h.sl.1.sep (x := y.f) (by simp [Sx.cells]) hB hl hn i hi
theorem SrcIn.modT {w w' : World} {k : Nat} {A : Option Addr} {c gg t : Nat} {g : Gs} {l : List Value} (h : SrcIn w k A c g) (hB : Blk w gg t l) (hl : ∀ v ∈ l, ∃ s, v = .string s) (hm : Mod (· = gg) w w') : SrcIn w' k A c g :=
  ⟨h.ok, h.kl, let ⟨M, h1, h2, h3⟩ := h.ex; ⟨M, h1.modT hB hl hm, h2, h3⟩⟩
end

section
open Go Go.RowKit

def sanM : List Nat := [111, 110, 101, 10, 35, 105, 102, 32, 65, 32, 38, 38, 32, 33, 66, 10, 116, 119, 111, 10, 35, 101, 108, 105, 102, 32, 66, 10, 35, 105, 110, 99, 108, 117, 100, 101, 32, 34, 110, 34, 10, 35, 101, 108, 115, 101, 10, 102, 111, 117, 114, 10, 35, 101, 110, 100, 10, 102, 105, 118, 101, 10]
def sanN : List Nat := [116, 104, 114, 101, 101, 10]
def sanT : List Nat := [111, 110, 101, 10, 116, 119, 111, 10, 116, 104, 114, 101, 101, 10, 102, 111, 117, 114, 10, 102, 105, 118, 101, 10]
def sanNm : List (List Nat) := [[65], [66]]
def sanF : List (List Nat × List Nat) := [([109], sanM), ([110], sanN)]
def sanR : Except Pl Gs := readE sanNm sanF [109]
def okR (r : Except Pl Gs) : Bool := match r with | .ok _ => true | .error _ => false
def getR (r : Except Pl Gs) : Gs := match r with | .ok g => g | .error _ => ⟨[], [], false⟩
theorem ok_get {r : Except Pl Gs} (h : okR r = true) : r = .ok (getR r) := by
  cases r with
  | ok g => rfl
  | error _ => cases h
def sanG : Gs := getR sanR
theorem san_ok : readE sanNm sanF [109] = .ok sanG := ok_get (by decide)
theorem san_tx : sanG.tx = sanT := by decide
theorem san_sg : sanG.sg.length = 5 := by decide
theorem san_at : (sanG.sg.map (·.at_)) = [0, 16, 0, 47, 57] := by decide
theorem san_l1 : locG sanG 1 19 = (8, true) := by decide
theorem san_g1 : glbG sanG 1 8 = (19, true) := by decide
theorem san_l2 : (locG sanG 1 8).2 = false := by decide
theorem san_o : oriG sanG 9 = (1, 1, true) := by decide
theorem san_d : deadG 2 (fun e => e 1) 0 sanG.sg = [1, 3] := by decide
theorem san_s : selG sanG.tx sanG.sg (bitE 1) = [111, 110, 101, 10, 116, 119, 111, 10, 102, 105, 118, 101, 10] := by decide
def sanF2 : List (List Nat × List Nat) := [([109], sanM.take 47), ([110], sanN)]
theorem san_2 : readE sanNm sanF2 [109] = .error ⟨72, 0, 2⟩ := by
  have h : (match readE sanNm sanF2 [109] with | .ok _ => none | .error q => some (q.e, q.f, q.l)) = some (72, 0, 2) := by decide
  cases hr : readE sanNm sanF2 [109] with
  | ok g => rw [hr] at h; cases h
  | error q =>
    rw [hr] at h
    obtain ⟨a, b, c⟩ := q
    simp only [Option.some.injEq, Prod.mk.injEq] at h
    obtain ⟨rfl, rfl, rfl⟩ := h
    rfl
theorem san_fb : ∀ x ∈ sanF, FileB x := fun x hx => by
  simp only [sanF, List.mem_cons, List.not_mem_nil, or_false] at hx
  rcases hx with rfl | rfl
  · exact ⟨by decide, by decide, by decide, by decide⟩
  · exact ⟨by decide, by decide, by decide, by decide⟩
theorem san_fb2 : ∀ x ∈ sanF2, FileB x := fun x hx => by
  simp only [sanF2, List.mem_cons, List.not_mem_nil, or_false] at hx
  rcases hx with rfl | rfl
  · exact ⟨by decide, by decide, by decide, by decide⟩
  · exact ⟨by decide, by decide, by decide, by decide⟩

theorem file_str (x : List Nat × List Nat) : ∀ v ∈ fileC x, ∃ s, v = .string s := fun v hv => by
  simp only [fileC, List.mem_cons, List.not_mem_nil, or_false] at hv
  rcases hv with rfl | rfl <;> exact ⟨_, rfl⟩
theorem san_nb : NamesOk sanNm := fun s hs => by
  simp only [sanNm, List.mem_cons, List.not_mem_nil, or_false] at hs
  rcases hs with rfl | rfl <;> exact ⟨by decide, by decide⟩
set_option maxHeartbeats 1600000 in
theorem sanity7_fn (w : World) : Fn Tryz.prog 13 [] w (fun v w' => v = .bool true ∧ Ext w w') := by
  refine fn_of_exec (c := { c13 with cuts := [] }) gx_ok Tryz.func13 rfl rfl rfl ?_
  refine new (fun w1 hE1 hz1 hB1 => ?_)
  refine storeN_blk0 hB1 rfl (sc rfl) (fun w2 hg2 _ hB2 => ?_)
  have hE2 : Ext w w2 := newBox hE1 hB1 hg2
  refine new (fun w3 hE3 hz3 hB3 => ?_)
  refine storeN_blk0 hB3 rfl (sc rfl) (fun w4 hg4 _ hB4 => ?_)
  have hE24 : Ext w2 w4 := newBox hE3 hB3 hg4
  have hE04 := hE2.trans hE24
  refine at_buildN gx_ok [[.string (strOf [65])], [.string (strOf [66])]] rfl rfl rfl rfl rfl ⟨rfl, rfl, rfl, rfl, ⟨⟩⟩ rfl (fun cs h => by simp only [List.mem_cons, List.not_mem_nil, or_false] at h; rcases h with rfl | rfl <;> rfl) rfl (by decide) (by decide) ?_
  intro w5 hE5 hz5 hB5
  have hN5 : Sl w5 1 (some ⟨w4.heap.size, 0, none⟩) 2 2 (strsV sanNm) := Sl.own' (n := 2) hB5 rfl (by decide)
  have hE05 := hE04.trans hE5
  refine loadN_blk0 (hB2.ext (hE24.trans hE5)) rfl ?_
  refine loadN_blk0 (hB4.ext hE5) rfl ?_
  refine at_buildN gx_ok [fileC ([109], sanM), fileC ([110], sanN)] rfl rfl rfl rfl rfl ⟨rfl, rfl, rfl, rfl, ⟨⟩⟩ rfl (fun cs h => by simp only [List.mem_cons, List.not_mem_nil, or_false] at h; rcases h with rfl | rfl <;> rfl) rfl (by decide) (by decide) ?_
  intro w6 hE6 hz6 hB6
  have hF6 : SlS fileC 2 w6 (some ⟨w5.heap.size, 0, none⟩) 2 2 sanF := ⟨Sl.own (sz := 2) (n := 2) hB6 (Nat.le_refl _) (by decide) (by simp [fileC]), rfl⟩
  refine call (sread_fn sanNm _ 2 2 sanF _ 2 2 [109] w6 (hN5.ext hE6) san_nb (by decide) hF6 san_fb (by decide) (by decide)) ?_
  rw [san_ok]
  rintro _ w7 ⟨hE7, hg, RA, rc, RL, rfl, hS7⟩
  have hI7 := srcIn_read (by decide) san_ok hg hS7
  have hE67 := hE6.trans hE7
  refine new (fun w8 hE8 hz8 hB8 => ?_)
  refine new (fun w9 hE9 hz9 hB9 => ?_)
  refine storeN_blk0 (hB8.ext hE9) rfl (sc rfl) (fun w10 hg10 _ hB10 => ?_)
  have hM10 : Mod (· = w7.heap.size) w9 w10 := Mod.of_grown hg10 rfl
  refine storeN_blk0 (hB9.mod hM10 (by omega)) rfl (sc rfl) (fun w11 hg11 _ hB11 => ?_)
  have hM11 : Mod (· = w8.heap.size) w10 w11 := Mod.of_grown hg11 rfl
  have hB10' := hB10.mod hM11 (by omega)
  have hE711 : Ext w7 w11 := hM11.ext (hM10.ext (hE8.trans hE9) (fun i hi => by omega)) (fun i hi => by omega)
  have hI11 := hI7.ext hE711
  refine loadN_blk0 hB11 rfl ?_
  refine wif_f rfl ?_
  refine load_blk0 hB10' rfl ?_
  refine wif_f (by rw [san_tx]; rfl) ?_
  refine load_blk hB10' rfl ?_
  refine wif_f (by rw [san_sg]; rfl) ?_
  refine load_blk hB10' rfl ?_
  obtain ⟨M, hX, hA, hck⟩ := hI11.ex
  refine index_sls (j := 4) sx_len hX.sl rfl (by rw [san_sg]; decide) (fun p y hy hcl => ?_)
  have hy4 : y.at_ = 57 := by
    have h4 : sanG.sg[4]? = some (sanG.sg[4]'(by rw [san_sg]; decide)) := List.getElem?_eq_getElem _
    have e1 := (hA.get h4 hy).2.2.2.1
    have e2 : (sanG.sg.map (·.at_))[4]? = some (sanG.sg[4]'(by rw [san_sg]; decide)).at_ := by rw [List.getElem?_map, h4]; rfl
    rw [san_at] at e2
    have e3 := Option.some.inj e2
    rw [e1, ← e3]; rfl
  refine load (hcl 3 _ rfl) ?_
  refine wif_f (by rw [hy4]; rfl) ?_
  have hS : ∀ w', Ext w11 w' → Blk w' w7.heap.size 29 [.string (strOf sanG.tx), .slice RA sanG.sg.length rc] := fun w' hw' => hB10'.ext hw'
  refine loadN_blk0 (hS _ (Ext.refl _)) rfl ?_
  refine call (rloc_fn hI11 1 (by decide) 19) ?_
  rw [san_l1]
  rintro _ w12 ⟨rfl, hE12⟩
  refine loadN_blk0 (hS _ hE12) rfl ?_
  refine call (rglb_fn (hI11.ext hE12) 1 (by decide) 8 (by decide)) ?_
  rw [san_g1]
  rintro _ w13 ⟨rfl, hE13⟩
  have hE113 := hE12.trans hE13
  refine loadN_blk0 (hS _ hE113) rfl ?_
  refine call (rloc_fn (hI11.ext hE113) 1 (by decide) 8) ?_
  rw [san_l2]
  rintro _ w14 ⟨rfl, hE14⟩
  have hE114 := hE113.trans hE14
  refine loadN_blk0 (hS _ hE114) rfl ?_
  refine call (rori_fn (hI11.ext hE114) 9) ?_
  rw [san_o]
  rintro _ w15 ⟨rfl, hE15⟩
  have hE115 := hE114.trans hE15
  refine call (rvar_fn 1 w15 (by decide) (by decide)) ?_
  rintro _ w16 ⟨A16, n16, c16, rfl, hE16, hS16, hR16⟩
  have hE116 := hE115.trans hE16
  refine new (fun w17 hE17 hz17 hB17 => ?_)
  refine storeN_blk0 hB17 rfl (sc rfl) (fun w18 hg18 _ hB18 => ?_)
  have hE1618 : Ext w16 w18 := newBox hE17 hB17 hg18
  have hE118 := hE116.trans hE1618
  refine loadN_blk0 (hS _ hE118) rfl ?_
  refine loadN_blk0 hB18 rfl ?_
  refine call (rdead_fn (hI11.ext hE118) (hS16.ext hE1618) (var_set (k := 2) (v := 1) (by decide) (by decide))) ?_
  rw [show deadG sanNm.length (fun e => e 1) 0 sanG.sg = [1, 3] from san_d]
  rintro _ w19 ⟨O, oc, rfl, hE19, hO⟩
  have hE119 := hE118.trans hE19
  have hE1119 : Ext w4 w19 := ((hE5.trans hE67).trans hE711).trans hE119
  have hB2' : Blk w19 w.heap.size 38 (fileC ([109], sanM)) := hB2.ext (hE24.trans hE1119)
  refine load_blk hB2' rfl ?_
  refine need_to (v' := .string (strOf (sanM.take 47))) ⟨by decide, by decide, by show (47 : Int) ≤ ((strOf sanM).size : Int); rw [strOf_size]; decide⟩ (by show Value.string ((strOf sanM).extract 0 47) = _; rw [strOf_extract]; rfl) ?_
  refine store_mod (j := 1) hB2' (by decide) (fun w20 hM20 hB20 => ?_)
  have hN20 : Sl w20 1 (some ⟨w4.heap.size, 0, none⟩) 2 2 (strsV sanNm) := (hN5.ext ((hE67.trans hE711).trans hE119)).modS hM20 (fun _ i hi => by
    obtain ⟨ad, e, rfl⟩ := hi
    cases e
    have := hE04.size
    have := hB1.lt
    have := hE24.size
    simp only
    have := hg2.size
    omega)
  have hB4' := (hB4.ext hE1119).mod hM20 (by have := hB1.lt; have := hg2.size; omega)
  refine loadN_blk0 hB20 rfl ?_
  refine loadN_blk0 hB4' rfl ?_
  refine at_buildN gx_ok [fileC ([109], sanM.take 47), fileC ([110], sanN)] rfl rfl rfl rfl rfl ⟨rfl, rfl, rfl, rfl, ⟨⟩⟩ rfl (fun cs h => by simp only [List.mem_cons, List.not_mem_nil, or_false] at h; rcases h with rfl | rfl <;> rfl) rfl (by decide) (by decide) ?_
  intro w21 hE21 hz21 hB21
  have hF21 : SlS fileC 2 w21 (some ⟨w20.heap.size, 0, none⟩) 2 2 sanF2 := ⟨Sl.own (sz := 2) (n := 2) hB21 (Nat.le_refl _) (by decide) (by simp [fileC]), rfl⟩
  refine call (sread_fn sanNm _ 2 2 sanF2 _ 2 2 [109] w21 (hN20.ext hE21) san_nb (by decide) hF21 san_fb2 (by decide) (by decide)) ?_
  rw [san_2]
  rintro _ w22 ⟨hE22, rfl⟩
  have hE2022 := hE21.trans hE22
  refine new (fun w23 hE23 hz23 hB23 => ?_)
  refine new (fun w24 hE24' hz24 hB24 => ?_)
  refine storeN_blk0 (hB23.ext hE24') rfl (sc rfl) (fun w25 hg25 _ hB25 => ?_)
  have hM25 : Mod (· = w22.heap.size) w24 w25 := Mod.of_grown hg25 rfl
  refine storeN_blk0 (hB24.mod hM25 (by omega)) rfl (sc rfl) (fun w26 hg26 _ hB26 => ?_)
  have hM26 : Mod (· = w23.heap.size) w25 w26 := Mod.of_grown hg26 rfl
  have hE2226 : Ext w22 w26 := hM26.ext (hM25.ext (hE23.trans hE24') (fun i hi => by omega)) (fun i hi => by omega)
  have hE2026 := hE2022.trans hE2226
  refine wif_t rfl ?_
  refine wif_t rfl ?_
  refine wif_t rfl ?_
  refine wif_t rfl ?_
  refine wif_t rfl ?_
  refine wif_t rfl ?_
  refine wif_t rfl ?_
  refine wif_t rfl ?_
  refine wif_t rfl ?_
  refine wif_t rfl ?_
  have hO26 : Sl w26 1 O 2 oc (ixV [1, 3]) := (hO.modS hM20 (hO.sep (x := 1) rfl hB2' (file_str _))).ext hE2026
  have hI26 := ((hI11.ext hE119).modT hB2' (file_str _) hM20).ext hE2026
  have hS26 : Blk w26 w7.heap.size 29 [.string (strOf sanG.tx), .slice RA sanG.sg.length rc] := ((hS _ hE119).mod hM20 (by have := hE04.size; have := hE1119.size; have := (hE5.trans hE67).size; have := hB1.lt; have := hg2.size; have := hE24.size; omega)).ext hE2026
  refine index_sl (j := 0) hO26 (by decide) (fun ad u hA' hu hcell => ?_)
  cases hu
  refine load hcell ?_
  refine wif_t rfl ?_
  refine index_sl (j := 1) hO26 (by decide) (fun ad u hA' hu hcell => ?_)
  cases hu
  refine load hcell ?_
  refine wif_t rfl ?_
  refine loadN_blk0 hS26 rfl ?_
  refine call (rsel_fn hI26 1 (by decide)) ?_
  rw [san_s]
  rintro _ w27 ⟨rfl, hE27⟩
  refine wif_t rfl ?_
  refine loadN_blk0 (hB26.ext hE27) rfl ?_
  exact ⟨rfl, ((hM20.ext (hE04.trans hE1119) (fun i hi => by omega)).trans hE2026).trans hE27⟩
end
end
end Go.Proofs.YtedopgkbajhanaaGreatDoor

namespace Go.Proofs.YtedopgkbajhanaaGreatDoor
section
open Go Go.RowKit

theorem addS (a b : List Nat) (h : a.length + b.length ≤ 100000) : (strOf a).size + (strOf b).size ≤ maxLen := by
  rw [strOf_size, strOf_size]; unfold maxLen; omega
def formA (p q : List Nat) (b : Nat) : List Nat :=
  if b = 0 ∨ b = 1 then p else if b = 2 then 33 :: p else if b = 3 then p ++ [32, 38, 38, 32] ++ q else if b = 4 then p ++ [32, 124, 124, 32, 33] ++ q
  else if b = 5 then [33, 40] ++ p ++ [32, 38, 38, 32] ++ q ++ [41] else if b = 6 then [33] ++ p ++ [38, 38, 33] ++ q else [116, 114, 117, 101]
/-- The expression that a number makes. -/
def formT (nm : List (List Nat)) (b : Nat) : List Nat :=
  if nm = [] then ([[116, 114, 117, 101], [102, 97, 108, 115, 101], [33, 102, 97, 108, 115, 101]][b % 3]?).getD []
  else formA ((nm[b / 8 % nm.length]?).getD []) ((nm[(b / 64 + b / 8 + 1) % nm.length]?).getD []) (b % 8)

set_option maxHeartbeats 1600000 in
theorem formula_fn (nm : List (List Nat)) (A : Option Addr) (n c : Nat) (b : Nat) (w : World) (h : Sl w 1 A n c (strsV nm)) (hl : ∀ s ∈ nm, s.length ≤ 100) (hb : b ≤ 255) :
    Fn Tryz.prog 33 [.slice A n c, .int .u8 b] w (fun v w' => v = .string (strOf (formT nm b)) ∧ Ext w w') := by
  have hn : nm.length = n := by have := h.len; rw [strsV_length] at this; omega
  have hcap : n ≤ 9223372036854775807 := by have := h.le; have := h.cap; simp only [maxLen] at this; omega
  refine fn_of_exec (c := { c33 with cuts := [] }) gx_ok Tryz.func33 rfl rfl rfl ?_
  refine wif_eq (fun c1 => ?_) (fun c1 => ?_)
  · have hnil : nm = [] := List.eq_nil_of_length_eq_zero (by omega)
    have hft : formT nm b = ([[116, 114, 117, 101], [102, 97, 108, 115, 101], [33, 102, 97, 108, 115, 101]][b % 3]?).getD [] := if_pos hnil
    have h3 : b % 3 < 3 := Nat.mod_lt _ (by decide)
    refine at_buildN gx_ok ([[116, 114, 117, 101], [102, 97, 108, 115, 101], [33, 102, 97, 108, 115, 101]].map (fun s => [Value.string (strOf s)])) rfl rfl rfl rfl rfl ⟨rfl, rfl, rfl, rfl, rfl, rfl, ⟨⟩⟩ rfl (fun cs h => by simp only [List.mem_map] at h; obtain ⟨s, _, rfl⟩ := h; rfl) rfl (by decide) (by decide) ?_
    intro w1 hE1 hz1 hB1
    refine norm_i64_to ((b : Nat) : Int) rfl (by omega) ?_
    refine normIf (m := ((b % 3 : Nat) : Int)) (by decide) rfl ?_
    refine index (j := b % 3) h3 ?_
    refine load_blk hB1 (v := .string (strOf (([[116, 114, 117, 101], [102, 97, 108, 115, 101], [33, 102, 97, 108, 115, 101]][b % 3]?).getD []))) (by
      generalize b % 3 = r at h3
      rcases (show r = 0 ∨ r = 1 ∨ r = 2 by omega) with rfl | rfl | rfl <;> rfl) ?_
    exact ⟨by rw [hft], hE1⟩
  · have hne : nm ≠ [] := fun e => by rw [e] at hn; simp at hn; omega
    have hpos : 0 < n := by omega
    have hft : formT nm b = formA ((nm[b / 8 % nm.length]?).getD []) ((nm[(b / 64 + b / 8 + 1) % nm.length]?).getD []) (b % 8) := if_neg hne
    rw [hn] at hft
    have l1 : b / 8 % n < n := Nat.mod_lt _ hpos
    have l2 : (b / 64 + b / 8 + 1) % n < n := Nat.mod_lt _ hpos
    have hq8 : IntKind.u8.wrap (((b : Nat) : Int).tdiv 8) = ((b / 8 : Nat) : Int) := by
      show IntKind.u8.wrap ((b / 8 : Nat) : Int) = _
      rw [wrap_u8_nat]; omega
    have hq64 : IntKind.u8.wrap (((b : Nat) : Int).tdiv 64) = ((b / 64 : Nat) : Int) := by
      show IntKind.u8.wrap ((b / 64 : Nat) : Int) = _
      rw [wrap_u8_nat]; omega
    have hg1 : nm[b / 8 % n]? = some (nm[b / 8 % n]'(by omega)) := List.getElem?_eq_getElem _
    have hg2 : nm[(b / 64 + b / 8 + 1) % n]? = some (nm[(b / 64 + b / 8 + 1) % n]'(by omega)) := List.getElem?_eq_getElem _
    have p100 := hl _ (List.mem_of_getElem? hg1)
    have q100 := hl _ (List.mem_of_getElem? hg2)
    rw [hg1, hg2] at hft
    simp only [Option.getD_some] at hft
    generalize nm[b / 8 % n]'(by omega) = p at *
    generalize nm[(b / 64 + b / 8 + 1) % n]'(by omega) = q at *
    have ps := strOf_size p
    have qs := strOf_size q
    refine normIf (m := ((b / 8 : Nat) : Int)) (by decide) hq8 ?_
    refine norm_i64_to ((b / 8 : Nat) : Int) rfl (by omega) ?_
    refine normIf (m := ((b / 8 % n : Nat) : Int)) (by omega) (tmod_nat _ _) ?_
    refine index_sl h l1 (fun ad u hA hu hcell => ?_)
    rw [strsV_get hg1] at hu
    cases hu
    refine load hcell ?_
    refine normIf (m := ((b / 64 : Nat) : Int)) (by decide) hq64 ?_
    refine normIf (m := ((b / 8 : Nat) : Int)) (by decide) hq8 ?_
    refine norm (m := ((b / 64 + b / 8 : Nat) : Int)) (by show IntKind.u8.wrap (((b / 64 : Nat) : Int) + ((b / 8 : Nat) : Int)) = _; rw [← Int.natCast_add, wrap_u8_nat]; omega) ?_
    refine norm (m := ((b / 64 + b / 8 + 1 : Nat) : Int)) (by show IntKind.u8.wrap (((b / 64 + b / 8 : Nat) : Int) + ((1 : Nat) : Int)) = _; rw [← Int.natCast_add, wrap_u8_nat]; omega) ?_
    refine norm_i64_to ((b / 64 + b / 8 + 1 : Nat) : Int) rfl (by omega) ?_
    refine normIf (m := (((b / 64 + b / 8 + 1) % n : Nat) : Int)) (by omega) (tmod_nat _ _) ?_
    refine index_sl h l2 (fun ad' u' hA' hu' hcell' => ?_)
    rw [strsV_get hg2] at hu'
    cases hu'
    refine load hcell' ?_
    have hr8 : ((b : Nat) : Int).tmod 8 = ((b % 8 : Nat) : Int) := tmod_nat b 8
    have m8 : b % 8 < 8 := Nat.mod_lt _ (by decide)
    generalize b % 8 = r at hr8 m8 hft
    refine normIf (m := ((r : Nat) : Int)) (by decide) hr8 ?_
    clear hr8 hq8 hq64
    rw [hft]
    rcases (show r = 0 ∨ r = 1 ∨ r = 2 ∨ r = 3 ∨ r = 4 ∨ r = 5 ∨ r = 6 ∨ r = 7 by omega) with rfl | rfl | rfl | rfl | rfl | rfl | rfl | rfl
    · refine wif_t rfl ?_
      exact ⟨rfl, Ext.refl _⟩
    · refine wif_f rfl ?_
      refine wif_t rfl ?_
      exact ⟨rfl, Ext.refl _⟩
    · refine wif_f rfl ?_
      refine wif_f rfl ?_
      refine wif_t rfl ?_
      refine need_to (v' := .string (strOf ([33] ++ p))) (addS [33] p (by simp; omega)) (congrArg Value.string (strOf_append [33] p)) ?_
      exact ⟨rfl, Ext.refl _⟩
    · refine wif_f rfl ?_
      refine wif_f rfl ?_
      refine wif_f rfl ?_
      refine wif_t rfl ?_
      refine need_to (v' := .string (strOf (p ++ [32, 38, 38, 32]))) (addS p [32, 38, 38, 32] (by simp; omega)) (congrArg Value.string (strOf_append p [32, 38, 38, 32])) ?_
      refine need_to (v' := .string (strOf ((p ++ [32, 38, 38, 32]) ++ q))) (addS (p ++ [32, 38, 38, 32]) q (by simp; omega)) (congrArg Value.string (strOf_append (p ++ [32, 38, 38, 32]) q)) ?_
      exact ⟨rfl, Ext.refl _⟩
    · refine wif_f rfl ?_
      refine wif_f rfl ?_
      refine wif_f rfl ?_
      refine wif_f rfl ?_
      refine wif_t rfl ?_
      refine need_to (v' := .string (strOf (p ++ [32, 124, 124, 32, 33]))) (addS p [32, 124, 124, 32, 33] (by simp; omega)) (congrArg Value.string (strOf_append p [32, 124, 124, 32, 33])) ?_
      refine need_to (v' := .string (strOf ((p ++ [32, 124, 124, 32, 33]) ++ q))) (addS (p ++ [32, 124, 124, 32, 33]) q (by simp; omega)) (congrArg Value.string (strOf_append (p ++ [32, 124, 124, 32, 33]) q)) ?_
      exact ⟨rfl, Ext.refl _⟩
    · refine wif_f rfl ?_
      refine wif_f rfl ?_
      refine wif_f rfl ?_
      refine wif_f rfl ?_
      refine wif_f rfl ?_
      refine wif_t rfl ?_
      refine need_to (v' := .string (strOf ([33, 40] ++ p))) (addS [33, 40] p (by simp; omega)) (congrArg Value.string (strOf_append [33, 40] p)) ?_
      refine need_to (v' := .string (strOf (([33, 40] ++ p) ++ [32, 38, 38, 32]))) (addS ([33, 40] ++ p) [32, 38, 38, 32] (by simp; omega)) (congrArg Value.string (strOf_append ([33, 40] ++ p) [32, 38, 38, 32])) ?_
      refine need_to (v' := .string (strOf (([33, 40] ++ p ++ [32, 38, 38, 32]) ++ q))) (addS ([33, 40] ++ p ++ [32, 38, 38, 32]) q (by simp; omega)) (congrArg Value.string (strOf_append ([33, 40] ++ p ++ [32, 38, 38, 32]) q)) ?_
      refine need_to (v' := .string (strOf (([33, 40] ++ p ++ [32, 38, 38, 32] ++ q) ++ [41]))) (addS ([33, 40] ++ p ++ [32, 38, 38, 32] ++ q) [41] (by simp; omega)) (congrArg Value.string (strOf_append ([33, 40] ++ p ++ [32, 38, 38, 32] ++ q) [41])) ?_
      exact ⟨rfl, Ext.refl _⟩
    · refine wif_f rfl ?_
      refine wif_f rfl ?_
      refine wif_f rfl ?_
      refine wif_f rfl ?_
      refine wif_f rfl ?_
      refine wif_f rfl ?_
      refine wif_t rfl ?_
      refine need_to (v' := .string (strOf ([33] ++ p))) (addS [33] p (by simp; omega)) (congrArg Value.string (strOf_append [33] p)) ?_
      refine need_to (v' := .string (strOf (([33] ++ p) ++ [38, 38, 33]))) (addS ([33] ++ p) [38, 38, 33] (by simp; omega)) (congrArg Value.string (strOf_append ([33] ++ p) [38, 38, 33])) ?_
      refine need_to (v' := .string (strOf (([33] ++ p ++ [38, 38, 33]) ++ q))) (addS ([33] ++ p ++ [38, 38, 33]) q (by simp; omega)) (congrArg Value.string (strOf_append ([33] ++ p ++ [38, 38, 33]) q)) ?_
      exact ⟨rfl, Ext.refl _⟩
    · refine wif_f rfl ?_
      refine wif_f rfl ?_
      refine wif_f rfl ?_
      refine wif_f rfl ?_
      refine wif_f rfl ?_
      refine wif_f rfl ?_
      refine wif_f rfl ?_
      exact ⟨rfl, Ext.refl _⟩
end
end Go.Proofs.YtedopgkbajhanaaGreatDoor

namespace Go.Proofs.YtedopgkbajhanaaGreatDoor
section
open Go Go.RowKit

def formB (p q : Fm) (b : Nat) : Fm :=
  if b = 0 ∨ b = 1 then p else if b = 2 then .not p else if b = 3 then .and p q else if b = 4 then .or p (.not q) else if b = 5 then .not (.and p q) else if b = 6 then .and (.not p) (.not q) else .c true
/-- The formula that a number makes over k conditions. -/
def formF (k b : Nat) : Fm := if k = 0 then (if b % 3 = 0 then .c true else if b % 3 = 1 then .c false else .not (.c false)) else formB (.v (b / 8 % k)) (.v ((b / 64 + b / 8 + 1) % k)) (b % 8)
def okF (k b : Nat) : Bool := match parseT (letters12.take k) (formT (letters12.take k) b) with
  | .ok t => decide (t = formF k b)
  | .error _ => false
theorem okF_ok {k b : Nat} (h : okF k b = true) : parseT (letters12.take k) (formT (letters12.take k) b) = .ok (formF k b) := by
  unfold okF at h
  split at h
  · rename_i t ht; rw [ht, of_decide_eq_true h]
  · cases h
theorem okF_4 : (List.range 256).all (okF 4) = true := by decide +kernel
theorem okF_3 : (List.range 256).all (okF 3) = true := by decide +kernel
theorem okF_2 : (List.range 256).all (okF 2) = true := by decide +kernel
theorem okF_1 : (List.range 256).all (okF 1) = true := by decide +kernel
theorem okF_0 : (List.range 256).all (okF 0) = true := by decide +kernel
theorem form_parse {k b : Nat} (hk : k ≤ 4) (hb : b ≤ 255) : parseT (letters12.take k) (formT (letters12.take k) b) = .ok (formF k b) := by
  have hm : b ∈ List.range 256 := List.mem_range.2 (by omega)
  rcases (show k = 0 ∨ k = 1 ∨ k = 2 ∨ k = 3 ∨ k = 4 by omega) with rfl | rfl | rfl | rfl | rfl
  · exact okF_ok (List.all_eq_true.1 okF_0 b hm)
  · exact okF_ok (List.all_eq_true.1 okF_1 b hm)
  · exact okF_ok (List.all_eq_true.1 okF_2 b hm)
  · exact okF_ok (List.all_eq_true.1 okF_3 b hm)
  · exact okF_ok (List.all_eq_true.1 okF_4 b hm)
/-- The set of an expression that a number makes. -/
def formO (k b : Nat) : BF := evF (formF k b)
theorem form_set {k b : Nat} (hk : k ≤ 4) (hb : b ≤ 255) : setE (letters12.take k) (formT (letters12.take k) b) = .ok (formO k b) := by
  unfold setE
  rw [form_parse hk hb]; rfl
end
end Go.Proofs.YtedopgkbajhanaaGreatDoor

namespace Go.Proofs.YtedopgkbajhanaaGreatDoor
section
open Go Go.RowKit

/-! ### Lines without directives -/
theorem txt_dir {s : List Nat} (h : s.head? ≠ some 35) : dirOf s = .txt := by
  unfold dirOf
  cases s with
  | nil => rfl
  | cons b t =>
    have hb : b ≠ 35 := fun e => h (by rw [e]; rfl)
    have e1 : pIf.isPrefixOf (b :: t) = false := by simp [pIf, List.isPrefixOf, hb.symm]
    have e2 : pInc.isPrefixOf (b :: t) = false := by simp [pInc, List.isPrefixOf, hb.symm]
    have e3 : pElif.isPrefixOf (b :: t) = false := by simp [pElif, List.isPrefixOf, hb.symm]
    rw [e1, e2, e3, if_neg (by decide), if_neg (by decide), if_neg (by decide), if_neg (by simp [lElse, hb]), if_neg (by simp [lEnd, hb])]
theorem addG_new {s : List Nat} {n p : Nat} {k : BF} {g : Gs} (hf : g.fr = true) (hs : g.sg.length ≠ 65536) (hl : g.tx.length + s.length ≤ 1048576) : addG s n p k g = some ⟨g.tx ++ s, g.sg ++ [⟨g.tx.length, g.tx.length + s.length, n, p, k⟩], false⟩ := by
  unfold addG
  rw [if_neg (by intro hh; rcases hh with hh | ⟨_, hh⟩; omega; exact hs hh), if_pos hf, setTo_snoc]
theorem rdL_tx1 {nm : List (List Nat)} {fl d0 : Nat} {inc : IncF} {s : List Nat} {ls : List (List Nat)} {ln at_ : Nat} {k : BF} {op : List Se} {g g' : Gs} (hd : dirOf s = .txt) (ha : addG (s ++ [10]) fl at_ k g = some g') :
    rdL nm fl d0 inc (s :: ls) ln at_ k op g = rdL nm fl d0 inc ls (ln + 1) (at_ + s.length + 1) k op g' := by
  rw [rdL.eq_def]; simp only [hd, ha]
theorem textB_unl (ls : List (List Nat)) : textB (unl ls) = true := by
  unfold textB
  rcases unl_ok ls with h | h
  · rw [h]; rfl
  · rw [h]; simp
theorem plain_b8 {ls : List (List Nat)} (h : ∀ s ∈ ls, ∀ x ∈ s, x < 256) : ∀ x ∈ unl ls, x < 256 := fun x hx => by
  unfold unl at hx
  obtain ⟨s, hs, hxs⟩ := List.mem_flatMap.1 hx
  rcases List.mem_append.1 hxs with hxs | hxs
  · exact h s hs x hxs
  · simp only [List.mem_singleton] at hxs; subst hxs; decide
/-! ### The law -/
end
end Go.Proofs.YtedopgkbajhanaaGreatDoor

namespace Go.Proofs.YtedopgkbajhanaaGreatDoor
section
open Go Go.RowKit

/-! ### few -/
/-! ### What an error depends on -/
/-- Two lists of files that differ in the texts of some being read. -/
structure SameF (rd : List Nat) (fs fs' : List (List Nat × List Nat)) : Prop where
  nm : fs'.map (·.1) = fs.map (·.1)
  tx : ∀ i, i ∉ rd → fs'[i]? = fs[i]?
theorem SameF.cons {rd : List Nat} {fs fs' : List (List Nat × List Nat)} (h : SameF rd fs fs') (n : Nat) : SameF (n :: rd) fs fs' := ⟨h.nm, fun i hi => h.tx i (fun hh => hi (List.mem_cons_of_mem _ hh))⟩
/-! ### The plain law -/
theorem ixR_nin {l : List Nat} : ∀ {names : List (List Nat)} {i : Nat} {acc : Option Nat}, l ∉ names → ixR l names i acc = acc
  | [], _, _, _ => rfl
  | s :: names, i, acc, h => by
    simp only [List.mem_cons, not_or] at h
    rw [ixR, if_neg (fun e => h.1 e.symm)]
    exact ixR_nin h.2
theorem ixN_head {x : List Nat} {l : List (List Nat)} (h : x ∉ l) : ixN (x :: l) x = some 0 := by
  unfold ixN
  rw [ixR, if_pos rfl]
  exact ixR_nin h
end
end Go.Proofs.YtedopgkbajhanaaGreatDoor

namespace Go.Proofs.YtedopgkbajhanaaGreatDoor
section
open Go Go.RowKit

theorem dir_ifs (F : List Nat) : dirOf (pIf ++ F) = .ifd F := by simp [dirOf, pIf, List.isPrefixOf]
theorem dir_elifs (F : List Nat) : dirOf (pElif ++ F) = .elif F := by simp [dirOf, pIf, pElif, pInc, List.isPrefixOf]
def secL (F0 F1 F2 F3 : List Nat) : List (List Nat) := [pIf ++ F0, [119], pIf ++ F1, [97], pElif ++ F2, [98], pElif ++ F3, [99], lElse, [100], lEnd, [122], lEnd]
theorem sec_read {nm : List (List Nat)} {F0 F1 F2 F3 : List Nat} {o0 o1 o2 o3 : BF} (hn : numsOk nm = true) (h0 : setE nm F0 = .ok o0) (h1 : setE nm F1 = .ok o1) (h2 : setE nm F2 = .ok o2) (h3 : setE nm F3 = .ok o3)
    (n0 : 10 ∉ F0) (n1 : 10 ∉ F1) (n2 : 10 ∉ F2) (n3 : 10 ∉ F3) (hl : F0.length + F1.length + F2.length + F3.length ≤ 1000) :
    ∃ g, readE nm [([109], unl (secL F0 F1 F2 F3))] [109] = .ok g ∧ g.sg.map (·.o) = [bAnd (fun _ => true) o0, bAnd (bAnd (fun _ => true) o0) o1, bAnd (bSub (bAnd (fun _ => true) o0) o1) o2, bAnd (bSub (bSub (bAnd (fun _ => true) o0) o1) o2) o3, bSub (bSub (bSub (bAnd (fun _ => true) o0) o1) o2) o3, bAnd (fun _ => true) o0] := by
  have hL : Lines (secL F0 F1 F2 F3) := by
    intro s hs
    simp only [secL, List.mem_cons, List.not_mem_nil, or_false] at hs
    rcases hs with rfl | rfl | rfl | rfl | rfl | rfl | rfl | rfl | rfl | rfl | rfl | rfl | rfl <;> first | decide | (simp [pIf, pElif]; assumption)
  have hlen : (unl (secL F0 F1 F2 F3)).length ≤ 1048576 := by simp [unl, secL, pIf, pElif, lElse, lEnd]; omega
  have hf : filesE [([109], unl (secL F0 F1 F2 F3))] = none := by
    unfold filesE
    rw [if_neg (by simp)]
    unfold chkFs
    have ht := textB_unl (secL F0 F1 F2 F3)
    rw [if_neg (fun hh => hh ⟨(show fnameOk [109] = true by decide), (by simp), ht⟩), if_neg (by simp only; omega)]
    rfl
  unfold readE
  rw [if_neg (by rw [hn]; decide), hf]
  simp only [show ixN ([([109], unl (secL F0 F1 F2 F3))].map (·.1)) [109] = some 0 from ixN_head (by simp)]
  rw [rdF]
  simp only [List.getElem?_cons_zero, Option.map_some, Option.getD_some]
  rw [linesOf_unl hL]
  generalize (fun (r : List Nat) (ln d : Nat) (k : BF) (g : Gs) => match incE (ixN ([([109], unl (secL F0 F1 F2 F3))].map (·.1))) [0] r with
      | .error e => (Except.error ⟨e, (0 : Nat), ln⟩ : Except Pl Gs)
      | .ok m => if d = 64 then .error ⟨2, (0 : Nat), ln⟩ else rdF nm [([109], unl (secL F0 F1 F2 F3))] 64 [0] (d + 1) m k g) = inc
  unfold secL
  rw [rdL.eq_def]; simp only [dir_ifs, h0, List.length_nil]
  rw [if_neg (by decide)]
  rw [rdL_tx1 (txt_dir (s := [119]) (by decide)) (addG_new rfl (by simp) (by simp))]
  rw [rdL.eq_def]; simp only [dir_ifs, h1, List.length_cons, List.length_nil]
  rw [if_neg (by decide)]
  rw [rdL_tx1 (txt_dir (s := [97]) (by decide)) (addG_new rfl (by simp) (by simp))]
  rw [rdL.eq_def]; simp only [dir_elifs, h2]
  rw [if_neg (by decide)]
  rw [rdL_tx1 (txt_dir (s := [98]) (by decide)) (addG_new rfl (by simp) (by simp))]
  rw [rdL.eq_def]; simp only [dir_elifs, h3]
  rw [if_neg (by decide)]
  rw [rdL_tx1 (txt_dir (s := [99]) (by decide)) (addG_new rfl (by simp) (by simp))]
  rw [rdL.eq_def]; simp only [dir_else]
  rw [if_neg (by decide)]
  rw [rdL_tx1 (txt_dir (s := [100]) (by decide)) (addG_new rfl (by simp) (by simp))]
  rw [rdL.eq_def]; simp only [dir_end]
  rw [rdL_tx1 (txt_dir (s := [122]) (by decide)) (addG_new rfl (by simp) (by simp))]
  rw [rdL.eq_def]; simp only [dir_end]
  rw [rdL.eq_def]
  exact ⟨_, rfl, rfl⟩
end
end Go.Proofs.YtedopgkbajhanaaGreatDoor

namespace Go.Proofs.YtedopgkbajhanaaGreatDoor
section
open Go Go.RowKit

theorem okL : ((List.range 5).all fun k => (List.range 256).all fun b => (formT (letters12.take k) b).all (fun x => decide (x ≠ 10 ∧ x < 256)) && decide ((formT (letters12.take k) b).length ≤ 20)) = true := by decide +kernel
theorem form_line {k b : Nat} (hk : k ≤ 4) (hb : b ≤ 255) : 10 ∉ formT (letters12.take k) b ∧ (∀ x ∈ formT (letters12.take k) b, x < 256) ∧ (formT (letters12.take k) b).length ≤ 20 := by
  have h := List.all_eq_true.1 (List.all_eq_true.1 okL k (List.mem_range.2 (by omega))) b (List.mem_range.2 (by omega))
  rw [Bool.and_eq_true] at h
  have h1 := List.all_eq_true.1 h.1
  exact ⟨fun hh => (of_decide_eq_true (h1 10 hh)).1 rfl, fun x hx => (of_decide_eq_true (h1 x hx)).2, of_decide_eq_true h.2⟩

set_option maxHeartbeats 1600000 in
theorem sections_law (b0 b1 b2 b3 n : Nat) (w : World) (h0 : b0 ≤ 255) (h1 : b1 ≤ 255) (h2 : b2 ≤ 255) (h3 : b3 ≤ 255) (hn : n ≤ 255) :
    Fn Tryz.prog 7 [.agg #[.int .u8 b0, .int .u8 b1, .int .u8 b2, .int .u8 b3], .int .u8 n] w (fun v w' => v = .bool true ∧ Ext w w') := by
  refine fn_of_exec (c := { c7 with cuts := [] }) gx_ok Tryz.func7 rfl rfl rfl ?_
  refine new (fun w1 hE1 hz1 hB1 => ?_)
  refine call (sanity7_fn w1) ?_
  rintro _ w2 ⟨rfl, hE2⟩
  have hE02 := hE1.trans hE2
  have m4 : n % 4 < 4 := Nat.mod_lt _ (by decide)
  refine norm_i64_to ((n : Nat) : Int) rfl (by omega) ?_
  refine normIf (m := ((n % 4 : Nat) : Int)) (by decide) (tmod_nat n 4) ?_
  refine norm_i64_to ((1 + n % 4 : Nat) : Int) (by omega) (by omega) ?_
  have hk : 1 + n % 4 ≤ 4 := by omega
  generalize 1 + n % 4 = k at *
  refine call (letters_fn k w2 (by omega)) ?_
  rintro _ w3 ⟨NA, nc, rfl, hE3, hN3⟩
  have hE03 := hE02.trans hE3
  obtain ⟨hnb, hnok, hnl⟩ := letters_ok k (by omega)
  have hs100 : ∀ s ∈ letters12.take k, s.length ≤ 100 := fun s hs => by
    have h12 : letters12.all (fun s => decide (s.length ≤ 100)) = true := by decide
    exact of_decide_eq_true (List.all_eq_true.1 h12 s (List.mem_of_mem_take hs))
  have f0 := form_line hk h0
  have f1 := form_line hk h1
  have f2 := form_line hk h2
  have f3 := form_line hk h3
  have e0 := form_set hk h0
  have e1 := form_set hk h1
  have e2 := form_set hk h2
  have e3 := form_set hk h3
  have g0 := fun w' (hw' : Ext w3 w') => formula_fn (letters12.take k) NA k nc b0 w' (hN3.ext hw') hs100 h0
  have g1 := fun w' (hw' : Ext w3 w') => formula_fn (letters12.take k) NA k nc b1 w' (hN3.ext hw') hs100 h1
  have g2 := fun w' (hw' : Ext w3 w') => formula_fn (letters12.take k) NA k nc b2 w' (hN3.ext hw') hs100 h2
  have g3 := fun w' (hw' : Ext w3 w') => formula_fn (letters12.take k) NA k nc b3 w' (hN3.ext hw') hs100 h3
  have qB : ∀ w', Ext w3 w' → ∀ (j : Nat) (v : Value), ([.int .u8 b0, .int .u8 b1, .int .u8 b2, .int .u8 b3] : List Value)[j]? = some v → w'.cell? ((⟨w.heap.size, 0, none⟩ : Addr).add j) = some v := fun w' hw' j v hj => by rw [((hB1.ext (hE2.trans hE3)).ext hw').cell]; exact hj
  have hsec := sec_read hnok e0 e1 e2 e3 f0.1 f1.1 f2.1 f3.1 (by omega)
  generalize formT (letters12.take k) b0 = F0 at *
  generalize formT (letters12.take k) b1 = F1 at *
  generalize formT (letters12.take k) b2 = F2 at *
  generalize formT (letters12.take k) b3 = F3 at *
  refine draw_plan gx_ok (Ext w3) 25 [(true, 0), (true, 1), (true, 2), (true, 6), (true, 7), (true, 8), (true, 12), (true, 13), (true, 14), (true, 18), (true, 19), (true, 20), (false, 3), (true, 4), (true, 5), (false, 9), (true, 10), (true, 11), (false, 15), (true, 16), (true, 17), (false, 21), (true, 22), (true, 23), (true, 24)] (by kernel_rfl) (Ext.drew w3) ?_
  refine index (j := 0) (by decide) ?_
  refine qload (v := .int .u8 b0) (fun w' hw' => qB w' hw' 0 _ rfl) ?_
  refine index (j := 1) (by decide) ?_
  refine qload (v := .int .u8 b1) (fun w' hw' => qB w' hw' 1 _ rfl) ?_
  refine index (j := 2) (by decide) ?_
  refine qload (v := .int .u8 b2) (fun w' hw' => qB w' hw' 2 _ rfl) ?_
  refine index (j := 3) (by decide) ?_
  refine qload (v := .int .u8 b3) (fun w' hw' => qB w' hw' 3 _ rfl) ?_
  have hd3 := Ext.drew w3
  refine call (g0 _ hd3) ?_
  rintro _ w4 ⟨rfl, hE4⟩
  have hE34 := hd3.trans hE4
  refine ⟨hE34, ?_⟩
  refine need_to (v' := .string (strOf ([35, 105, 102, 32] ++ F0))) (addS ([35, 105, 102, 32]) F0 (by simp; omega)) (congrArg Value.string (strOf_append ([35, 105, 102, 32]) F0)) ?_
  refine need_to (v' := .string (strOf (([35, 105, 102, 32] ++ F0) ++ [10, 119, 10, 35, 105, 102, 32]))) (addS (([35, 105, 102, 32] ++ F0)) [10, 119, 10, 35, 105, 102, 32] (by simp; omega)) (congrArg Value.string (strOf_append (([35, 105, 102, 32] ++ F0)) [10, 119, 10, 35, 105, 102, 32])) ?_
  refine call (g1 _ hE34) ?_
  rintro _ w5 ⟨rfl, hE5⟩
  have hE35 := hE34.trans hE5
  refine ⟨hE35, ?_⟩
  refine need_to (v' := .string (strOf ((([35, 105, 102, 32] ++ F0) ++ [10, 119, 10, 35, 105, 102, 32]) ++ F1))) (addS ((([35, 105, 102, 32] ++ F0) ++ [10, 119, 10, 35, 105, 102, 32])) F1 (by simp; omega)) (congrArg Value.string (strOf_append ((([35, 105, 102, 32] ++ F0) ++ [10, 119, 10, 35, 105, 102, 32])) F1)) ?_
  refine need_to (v' := .string (strOf (((([35, 105, 102, 32] ++ F0) ++ [10, 119, 10, 35, 105, 102, 32]) ++ F1) ++ [10, 97, 10, 35, 101, 108, 105, 102, 32]))) (addS (((([35, 105, 102, 32] ++ F0) ++ [10, 119, 10, 35, 105, 102, 32]) ++ F1)) [10, 97, 10, 35, 101, 108, 105, 102, 32] (by simp; omega)) (congrArg Value.string (strOf_append (((([35, 105, 102, 32] ++ F0) ++ [10, 119, 10, 35, 105, 102, 32]) ++ F1)) [10, 97, 10, 35, 101, 108, 105, 102, 32])) ?_
  refine call (g2 _ hE35) ?_
  rintro _ w6 ⟨rfl, hE6⟩
  have hE36 := hE35.trans hE6
  refine ⟨hE36, ?_⟩
  refine need_to (v' := .string (strOf ((((([35, 105, 102, 32] ++ F0) ++ [10, 119, 10, 35, 105, 102, 32]) ++ F1) ++ [10, 97, 10, 35, 101, 108, 105, 102, 32]) ++ F2))) (addS ((((([35, 105, 102, 32] ++ F0) ++ [10, 119, 10, 35, 105, 102, 32]) ++ F1) ++ [10, 97, 10, 35, 101, 108, 105, 102, 32])) F2 (by simp; omega)) (congrArg Value.string (strOf_append ((((([35, 105, 102, 32] ++ F0) ++ [10, 119, 10, 35, 105, 102, 32]) ++ F1) ++ [10, 97, 10, 35, 101, 108, 105, 102, 32])) F2)) ?_
  refine need_to (v' := .string (strOf (((((([35, 105, 102, 32] ++ F0) ++ [10, 119, 10, 35, 105, 102, 32]) ++ F1) ++ [10, 97, 10, 35, 101, 108, 105, 102, 32]) ++ F2) ++ [10, 98, 10, 35, 101, 108, 105, 102, 32]))) (addS (((((([35, 105, 102, 32] ++ F0) ++ [10, 119, 10, 35, 105, 102, 32]) ++ F1) ++ [10, 97, 10, 35, 101, 108, 105, 102, 32]) ++ F2)) [10, 98, 10, 35, 101, 108, 105, 102, 32] (by simp; omega)) (congrArg Value.string (strOf_append (((((([35, 105, 102, 32] ++ F0) ++ [10, 119, 10, 35, 105, 102, 32]) ++ F1) ++ [10, 97, 10, 35, 101, 108, 105, 102, 32]) ++ F2)) [10, 98, 10, 35, 101, 108, 105, 102, 32])) ?_
  refine call (g3 _ hE36) ?_
  rintro _ w7 ⟨rfl, hE7⟩
  have hE37 := hE36.trans hE7
  refine ⟨hE37, ?_⟩
  refine need_to (v' := .string (strOf ((((((([35, 105, 102, 32] ++ F0) ++ [10, 119, 10, 35, 105, 102, 32]) ++ F1) ++ [10, 97, 10, 35, 101, 108, 105, 102, 32]) ++ F2) ++ [10, 98, 10, 35, 101, 108, 105, 102, 32]) ++ F3))) (addS ((((((([35, 105, 102, 32] ++ F0) ++ [10, 119, 10, 35, 105, 102, 32]) ++ F1) ++ [10, 97, 10, 35, 101, 108, 105, 102, 32]) ++ F2) ++ [10, 98, 10, 35, 101, 108, 105, 102, 32])) F3 (by simp; omega)) (congrArg Value.string (strOf_append ((((((([35, 105, 102, 32] ++ F0) ++ [10, 119, 10, 35, 105, 102, 32]) ++ F1) ++ [10, 97, 10, 35, 101, 108, 105, 102, 32]) ++ F2) ++ [10, 98, 10, 35, 101, 108, 105, 102, 32])) F3)) ?_
  refine need_to (v' := .string (strOf (((((((([35, 105, 102, 32] ++ F0) ++ [10, 119, 10, 35, 105, 102, 32]) ++ F1) ++ [10, 97, 10, 35, 101, 108, 105, 102, 32]) ++ F2) ++ [10, 98, 10, 35, 101, 108, 105, 102, 32]) ++ F3) ++ [10, 99, 10, 35, 101, 108, 115, 101, 10, 100, 10, 35, 101, 110, 100, 10, 122, 10, 35, 101, 110, 100, 10]))) (addS (((((((([35, 105, 102, 32] ++ F0) ++ [10, 119, 10, 35, 105, 102, 32]) ++ F1) ++ [10, 97, 10, 35, 101, 108, 105, 102, 32]) ++ F2) ++ [10, 98, 10, 35, 101, 108, 105, 102, 32]) ++ F3)) [10, 99, 10, 35, 101, 108, 115, 101, 10, 100, 10, 35, 101, 110, 100, 10, 122, 10, 35, 101, 110, 100, 10] (by simp; omega)) (congrArg Value.string (strOf_append (((((((([35, 105, 102, 32] ++ F0) ++ [10, 119, 10, 35, 105, 102, 32]) ++ F1) ++ [10, 97, 10, 35, 101, 108, 105, 102, 32]) ++ F2) ++ [10, 98, 10, 35, 101, 108, 105, 102, 32]) ++ F3)) [10, 99, 10, 35, 101, 108, 115, 101, 10, 100, 10, 35, 101, 110, 100, 10, 122, 10, 35, 101, 110, 100, 10])) ?_
  have htx : (((((((([35, 105, 102, 32] ++ F0) ++ [10, 119, 10, 35, 105, 102, 32]) ++ F1) ++ [10, 97, 10, 35, 101, 108, 105, 102, 32]) ++ F2) ++ [10, 98, 10, 35, 101, 108, 105, 102, 32]) ++ F3) ++ [10, 99, 10, 35, 101, 108, 115, 101, 10, 100, 10, 35, 101, 110, 100, 10, 122, 10, 35, 101, 110, 100, 10]) = unl (secL F0 F1 F2 F3) := by simp [unl, secL, pIf, pElif, lElse, lEnd]
  rw [htx]
  have hlen : (unl (secL F0 F1 F2 F3)).length ≤ 1000 := by simp [unl, secL, pIf, pElif, lElse, lEnd]; omega
  have h8 : ∀ x ∈ unl (secL F0 F1 F2 F3), x < 256 := plain_b8 (fun s hs => by
    simp only [secL, List.mem_cons, List.not_mem_nil, or_false] at hs
    rcases hs with rfl | rfl | rfl | rfl | rfl | rfl | rfl | rfl | rfl | rfl | rfl | rfl | rfl
    · exact b8_app (by decide) f0.2.1
    · decide
    · exact b8_app (by decide) f1.2.1
    · decide
    · exact b8_app (by decide) f2.2.1
    · decide
    · exact b8_app (by decide) f3.2.1
    all_goals decide)
  obtain ⟨gg, hr, hol⟩ := hsec
  generalize unl (secL F0 F1 F2 F3) = T at *
  refine at_buildN gx_ok [fileC ([109], T)] rfl rfl rfl rfl rfl ⟨rfl, rfl, ⟨⟩⟩ rfl (fun cs h => by simp only [List.mem_singleton] at h; subst h; rfl) rfl (by decide) (by decide) ?_
  intro w8 hE8 hz8 hB8
  have hE38 := hE37.trans hE8
  have hF8 : SlS fileC 2 w8 (some ⟨w7.heap.size, 0, none⟩) 1 1 [([109], T)] := ⟨Sl.own (sz := 2) (n := 1) hB8 (Nat.le_refl _) (by decide) (by simp [fileC]), rfl⟩
  refine call (sread_fn (letters12.take k) NA k nc [([109], T)] _ 1 1 [109] w8 (hN3.ext hE38) hnb (by omega) hF8 (fun x hx => by
    simp only [List.mem_singleton] at hx
    subst hx
    exact ⟨(show ∀ b ∈ [109], b < 256 by decide), h8, (show [109].length ≤ _ by decide), by simp only; omega⟩) (by decide) (by decide)) ?_
  rw [hr]
  rintro _ w9 ⟨hE9, hg, RA, rc, RL, rfl, hS9⟩
  have hI9 := srcIn_read (by omega) hr hg hS9
  have hl6 : gg.sg.length = 6 := by have := congrArg List.length hol; simpa using this
  refine new (fun w10 hE10 hz10 hB10 => ?_)
  refine new (fun w11 hE11 hz11 hB11 => ?_)
  refine storeN_blk0 (hB10.ext hE11) rfl (sc rfl) (fun w12 hg12 _ hB12 => ?_)
  have hM12 : Mod (· = w9.heap.size) w11 w12 := Mod.of_grown hg12 rfl
  refine storeN_blk0 (hB11.mod hM12 (by omega)) rfl (sc rfl) (fun w13 hg13 _ hB13 => ?_)
  have hM13 : Mod (· = w10.heap.size) w12 w13 := Mod.of_grown hg13 rfl
  have hB12' := hB12.mod hM13 (by omega)
  have hE913 : Ext w9 w13 := hM13.ext (hM12.ext (hE10.trans hE11) (fun i hi => by omega)) (fun i hi => by omega)
  have hE013 : Ext w w13 := ((hE03.trans hE38).trans hE9).trans hE913
  refine loadN_blk0 hB13 rfl ?_
  refine wif_f rfl ?_
  refine load_blk hB12' rfl ?_
  refine wif_f (by rw [hl6]; rfl) ?_
  refine call (dconst_fn false w13) ?_
  rintro _ w14 ⟨rfl, hE14⟩
  have hE014 := hE013.trans hE14
  refine new (fun w15 hE15 hz15 hB15 => ?_)
  refine storeN_blk0 hB15 rfl (sc rfl) (fun w16 hg16 _ hB16 => ?_)
  have hE1416 : Ext w14 w16 := newBox hE15 hB15 hg16
  have hE1316 := hE14.trans hE1416
  have hE016 := hE013.trans hE1316
  have hI13 := hI9.ext hE913
  have hS13 : Blk w13 w9.heap.size 29 [.string (strOf gg.tx), .slice RA gg.sg.length rc] := hB12'
  obtain ⟨M, hX, hA, hck⟩ := hI13.ex
  rw [hl6] at hX hS13
  have hMl : M.length = 6 := by rw [← hA.len]; exact hl6
  have hks : (letters12.take k).length = k := hnl
  have seg : ∀ j, j < 6 → ∃ y o, M[j]? = some y ∧ SB w13 y.x.A y.x.n y.x.c y.x.nd ∧ ([bAnd (fun _ => true) (formO k b0), bAnd (bAnd (fun _ => true) (formO k b0)) (formO k b1), bAnd (bSub (bAnd (fun _ => true) (formO k b0)) (formO k b1)) (formO k b2), bAnd (bSub (bSub (bAnd (fun _ => true) (formO k b0)) (formO k b1)) (formO k b2)) (formO k b3), bSub (bSub (bSub (bAnd (fun _ => true) (formO k b0)) (formO k b1)) (formO k b2)) (formO k b3), bAnd (fun _ => true) (formO k b0)] : List BF)[j]? = some o ∧ Set1 (letters12.take k).length y.x.nd y.x.r o := fun j hj => by
    have h1 : M[j]? = some (M[j]'(by omega)) := List.getElem?_eq_getElem _
    have h2 : gg.sg[j]? = some (gg.sg[j]'(by omega)) := List.getElem?_eq_getElem _
    refine ⟨_, (gg.sg[j]'(by omega)).o, h1, hX.dg _ (List.getElem_mem _), ?_, (hA.get h2 h1).2.2.2.2⟩
    rw [← hol, List.getElem?_map, h2]; rfl
  have hk12 : (letters12.take k).length ≤ 12 := by omega
  clear hol hr e0 e1 e2 e3
  generalize formO k b0 = o0 at *
  generalize formO k b1 = o1 at *
  generalize formO k b2 = o2 at *
  generalize formO k b3 = o3 at *
  generalize hOL : ([bAnd (fun _ => true) o0, bAnd (bAnd (fun _ => true) o0) o1, bAnd (bSub (bAnd (fun _ => true) o0) o1) o2, bAnd (bSub (bSub (bAnd (fun _ => true) o0) o1) o2) o3, bSub (bSub (bSub (bAnd (fun _ => true) o0) o1) o2) o3, bAnd (fun _ => true) o0] : List BF) = OL at *
  have hdis : ∀ i j (oi oj : BF), i < 5 → 1 ≤ j → j < i → OL[i]? = some oi → OL[j]? = some oj → ∀ e, ¬ (oi e = true ∧ oj e = true) := by
    intro i j oi oj hi hj hji h1 h2 e
    subst hOL
    rcases (show (i = 2 ∧ j = 1) ∨ (i = 3 ∧ j = 1) ∨ (i = 3 ∧ j = 2) ∨ (i = 4 ∧ j = 1) ∨ (i = 4 ∧ j = 2) ∨ (i = 4 ∧ j = 3) by omega) with ⟨rfl, rfl⟩ | ⟨rfl, rfl⟩ | ⟨rfl, rfl⟩ | ⟨rfl, rfl⟩ | ⟨rfl, rfl⟩ | ⟨rfl, rfl⟩
    all_goals
      cases h1; cases h2
      cases o0 e <;> cases o1 e <;> cases o2 e <;> cases o3 e <;> simp_all
  have hub : w13.heap.size ≤ w14.heap.size := hE14.size
  refine loop gx_ok [11] (fun s : Nat => [.int .i64 s]) (fun s w' => Mod (· = w14.heap.size) w16 w' ∧ 1 ≤ s ∧ s ≤ 5 ∧ ∃ (x : DV) (o : BF), Blk w' w14.heap.size 42 x.cells ∧ SB w' x.A x.n x.c x.nd ∧ (∀ r, rowS x.A r → r ≠ w14.heap.size) ∧ Set1 (letters12.take k).length x.nd x.r o ∧ ∀ e, o e = true ↔ ∃ j oj, 1 ≤ j ∧ j < s ∧ OL[j]? = some oj ∧ oj e = true) (fun s _ => 5 - s) 1 rfl ⟨Mod.refl _ _, Nat.le_refl _, by decide, ⟨none, 0, 0, [], 0⟩, fun _ => false, hB16, SlS.nil _, (fun r ⟨_, e, _⟩ => by cases e), const_set _ false, fun e => ⟨fun hh => (by cases hh), fun ⟨j, oj, j1, j2, _⟩ => by omega⟩⟩ ?_
  rintro s w17 ⟨hM17, s1, s5, x, o, hBx, hx, hrx, hsx, hux⟩
  have hE1317 : Ext w13 w17 := hM17.ext hE1316 (fun i hi => by omega)
  have hE017 := hE013.trans hE1317
  have hS17 := hS13.ext hE1317
  have hX17 := hX.ext hE1317
  refine wif_d (fun c1 => ?_) (fun c1 => ?_)
  · have hs4 : s < 5 := by omega
    obtain ⟨yi, oi, hyi, hdi, hoi, hsi⟩ := seg s (by omega)
    refine loop gx_ok [12] (fun j : Nat => [.int .i64 j]) (fun j w' => Ext w17 w' ∧ 1 ≤ j ∧ j ≤ s) (fun j _ => s - j) 1 rfl ⟨Ext.refl _, Nat.le_refl _, s1⟩ ?_
    rintro j w18 ⟨hE18, j1, js⟩
    have hE1318 := hE1317.trans hE18
    have hS18 := hS17.ext hE18
    have hX18 := hX17.ext hE18
    refine wif_d (fun c2 => ?_) (fun c2 => ?_)
    · have hjs : j < s := by omega
      obtain ⟨yj, oj, hyj, hdj, hoj, hsj⟩ := seg j (by omega)
      refine draw_plan gx_ok (Ext w18) 14 [(true, 0), (true, 1), (true, 2), (true, 3), (true, 4), (true, 5), (true, 6), (true, 7), (true, 8), (true, 9), (true, 10), (true, 11), (false, 12), (true, 13)] (by kernel_rfl) (Ext.drew w18) ?_
      refine qload (v := .slice RA 6 rc) (fun w' hw' => by rw [(hS18.ext hw').cell]; rfl) ?_
      refine index_sls (j := s) sx_len hX18.sl rfl (by omega) (fun p y hy hcl => ?_)
      rw [hyi] at hy; cases hy
      refine qloadN (vs := [.slice yi.x.A yi.x.n yi.x.c, .int .i64 yi.x.r]) rfl (fun w' hw' t v ht => by
        rw [Addr.add_add]
        exact hw'.cell (hcl (4 + t) v (by match t, ht with | 0, ht => exact ht | 1, ht => exact ht))) ?_
      refine qload (v := .slice RA 6 rc) (fun w' hw' => by rw [(hS18.ext hw').cell]; rfl) ?_
      refine index_sls (j := j) sx_len hX18.sl rfl (by omega) (fun p2 y2 hy2 hcl2 => ?_)
      rw [hyj] at hy2; cases hy2
      refine qloadN (vs := [.slice yj.x.A yj.x.n yj.x.c, .int .i64 yj.x.r]) rfl (fun w' hw' t v ht => by
        rw [Addr.add_add]
        exact hw'.cell (hcl2 (4 + t) v (by match t, ht with | 0, ht => exact ht | 1, ht => exact ht))) ?_
      have hd := Ext.drew w18
      refine call (disjoint_fn yi.x.A yi.x.n yi.x.c yi.x.nd yi.x.r yj.x.A yj.x.n yj.x.c yj.x.nd yj.x.r _ (hdi.ext (hE1318.trans hd)) (hdj.ext (hE1318.trans hd))) ?_
      rintro _ w19 ⟨rfl, hE19⟩
      have hE1819 := hd.trans hE19
      refine ⟨hE1819, ?_⟩
      have hdp : disP yi.x.nd yi.x.r yj.x.nd yj.x.r = true := disP_t ⟨hsi.chk hk12, hsj.chk hk12, fun ⟨e, q1, q2⟩ => hdis s j oi oj hs4 j1 hjs hoi hoj e ⟨by rw [← hsi.mean]; exact q1, by rw [← hsj.mean]; exact q2⟩⟩
      refine wif_f (by rw [hdp]; rfl) ?_
      refine norm_i64_to ((j + 1 : Nat) : Int) (by show ((j : Nat) : Int) + 1 = _; omega) (by omega) ?_
      exact ⟨j + 1, rfl, ⟨hE18.trans hE1819, by omega, by omega⟩, by show s - (j + 1) < s - j; omega⟩
    · have hB18 := hBx.ext hE18
      have hx18 := hx.ext hE18
      refine draw_plan gx_ok (Mod (· = w14.heap.size) w18) 12 [(true, 1), (true, 2), (true, 3), (true, 4), (true, 5), (true, 6), (false, 0), (false, 7), (true, 8), (true, 9), (true, 10), (false, 11)] (by kernel_rfl) (Mod.of_ext _ (Ext.drew w18)) ?_
      have hz1318 := hE1318.size
      have hne : w9.heap.size ≠ w14.heap.size := by have := hB12'.lt; omega
      refine qload (v := .slice RA 6 rc) (fun w' hw' => by rw [(hS18.mod hw' hne).cell]; rfl) ?_
      refine index_sls (j := s) sx_len hX.sl rfl (by omega) (fun p y hy hcl => ?_)
      rw [hyi] at hy; cases hy
      have mx : ∀ w', Mod (· = w14.heap.size) w18 w' → Ext w13 w' := fun w' hw' => hw'.ext hE1318 (fun i hi => by omega)
      refine qloadN (vs := [.slice yi.x.A yi.x.n yi.x.c, .int .i64 yi.x.r]) rfl (fun w' hw' t v ht => by
        rw [Addr.add_add]
        exact (mx w' hw').cell (hcl (4 + t) v (by match t, ht with | 0, ht => exact ht | 1, ht => exact ht))) ?_
      have hd := Ext.drew w18
      refine loadN_blk0 (hB18.ext hd) rfl ?_
      refine ⟨Mod.of_ext _ hd, ?_⟩
      refine call (dor_fn x.A x.n x.c x.nd x.r yi.x.A yi.x.n yi.x.c yi.x.nd yi.x.r _ (hx18.ext hd) (hdi.ext (hE1318.trans hd))) ?_
      rw [op_set hk12 hsx hsi 1]
      have hcs := comb_set hsx hsi 1
      generalize combD x.nd x.r yi.x.nd yi.x.r 1 = D at *
      obtain ⟨D1, D2⟩ := D
      rintro _ w19 ⟨PA, pn, pc, rfl, hE19, hP19, hR19⟩
      have hE1819 := hd.trans hE19
      refine ⟨Mod.of_ext _ hE1819, ?_⟩
      refine storeN_blk0 (hB18.ext hE1819) rfl (sc rfl) (fun w20 hg20 _ hB20 => ?_)
      have hM20 : Mod (· = w14.heap.size) w19 w20 := Mod.of_grown hg20 rfl
      have hM1820 : Mod (· = w14.heap.size) w18 w20 := (Mod.of_ext (· = w14.heap.size) hE1819).trans hM20 (fun i hi => .inl hi)
      refine ⟨hM1820, ?_⟩
      refine norm_i64_to ((s + 1 : Nat) : Int) (by show ((s : Nat) : Int) + 1 = _; omega) (by omega) ?_
      have hrP : ∀ r, rowS PA r → r ≠ w14.heap.size := fun r hr e => by
        have := hR19 r hr
        have := hB18.lt
        have := hd.size
        omega
      refine ⟨s + 1, rfl, ⟨(hM17.trans (Mod.of_ext (· = w14.heap.size) hE18) (fun i hi => .inl hi)).trans hM1820 (fun i hi => .inl hi), by omega, by omega, ⟨PA, pn, pc, D1, D2⟩, _, hB20, hP19.mod hM20 (fun i hi => hrP i hi), hrP, hcs, fun e => ?_⟩, by show 5 - (s + 1) < 5 - s; omega⟩
      have ho : opB 1 (o e) (oi e) = (o e || oi e) := by simp [opB]
      rw [ho, Bool.or_eq_true, hux e]
      constructor
      · rintro (⟨j', oj, j1', j2', j3, j4⟩ | h1)
        · exact ⟨j', oj, j1', by omega, j3, j4⟩
        · exact ⟨s, oi, s1, by omega, hoi, h1⟩
      · rintro ⟨j', oj, j1', j2', j3, j4⟩
        by_cases hjs : j' = s
        · subst hjs
          rw [hoi] at j3; cases j3
          exact .inr j4
        · exact .inl ⟨j', oj, j1', by omega, j3, j4⟩
  · have hs5 : s = 5 := by omega
    subst hs5
    obtain ⟨y0, p0, hy0, hd0, ho0, hs0⟩ := seg 0 (by omega)
    obtain ⟨y5, p5, hy5, hd5, ho5, hs5⟩ := seg 5 (by omega)
    have hsame : ∀ e, p5 e = p0 e := fun e => by subst hOL; cases ho0; cases ho5; rfl
    have hall : ∀ e, o e = p0 e := fun e => by
      have h1 := hux e
      have hcov : p0 e = true ↔ ∃ j oj, 1 ≤ j ∧ j < 5 ∧ OL[j]? = some oj ∧ oj e = true := by
        subst hOL
        cases ho0
        constructor
        · intro hh
          have hh : (true && o0 e) = true := hh
          cases c1' : o1 e with
          | true => exact ⟨1, _, by decide, by decide, rfl, by simp_all⟩
          | false =>
            cases c2' : o2 e with
            | true => exact ⟨2, _, by decide, by decide, rfl, by simp_all⟩
            | false =>
              cases c3' : o3 e with
              | true => exact ⟨3, _, by decide, by decide, rfl, by simp_all⟩
              | false => exact ⟨4, _, by decide, by decide, rfl, by simp_all⟩
        · rintro ⟨j, oj, j1, j2, j3, j4⟩
          rcases (show j = 1 ∨ j = 2 ∨ j = 3 ∨ j = 4 by omega) with rfl | rfl | rfl | rfl
          all_goals
            cases j3
            simp_all
      cases ha : o e with
      | true => exact ((hcov.2 (h1.1 ha)).symm)
      | false =>
        cases hb : p0 e with
        | false => rfl
        | true => have := h1.2 (hcov.1 hb); rw [ha] at this; cases this
    refine draw_plan gx_ok (Ext w17) 24 [(true, 0), (true, 1), (true, 2), (true, 3), (true, 4), (true, 5), (false, 6), (true, 7), (true, 8), (true, 9), (true, 10), (true, 11), (true, 12), (true, 13), (true, 14), (true, 15), (true, 16), (true, 17), (false, 18), (true, 19), (true, 20), (true, 21), (true, 22), (true, 23)] (by kernel_rfl) (Ext.drew w17) ?_
    refine qloadN (vs := x.cells) rfl (fun w' hw' t v ht => by rw [(hBx.ext hw').cell]; exact ht) ?_
    refine qload (v := .slice RA 6 rc) (fun w' hw' => by rw [(hS17.ext hw').cell]; rfl) ?_
    refine index_sls (j := 0) sx_len hX17.sl rfl (by omega) (fun pa za hza hcla => ?_)
    rw [hy0] at hza; cases hza
    refine qloadN (vs := [.slice y0.x.A y0.x.n y0.x.c, .int .i64 y0.x.r]) rfl (fun w' hw' t v ht => by
      rw [Addr.add_add]
      exact hw'.cell (hcla (4 + t) v (by match t, ht with | 0, ht => exact ht | 1, ht => exact ht))) ?_
    have hd := Ext.drew w17
    refine call (same_fn x.A y0.x.A x.n x.c y0.x.n y0.x.c x.nd y0.x.nd x.r y0.x.r _ (hx.ext hd) (hd0.ext (hE1317.trans hd))) ?_
    rintro _ w18 ⟨rfl, hE18⟩
    have hE1718 := hd.trans hE18
    refine ⟨hE1718, ?_⟩
    refine wif_t (decide_eq_true (hsx.unique hs0 hall)) ?_
    refine qload (v := .slice RA 6 rc) (fun w' hw' => by rw [(hS17.ext hw').cell]; rfl) ?_
    refine index_sls (j := 5) sx_len hX17.sl rfl (by omega) (fun pb zb hzb hclb => ?_)
    rw [hy5] at hzb; cases hzb
    refine qloadN (vs := [.slice y5.x.A y5.x.n y5.x.c, .int .i64 y5.x.r]) rfl (fun w' hw' t v ht => by
      rw [Addr.add_add]
      exact hw'.cell (hclb (4 + t) v (by match t, ht with | 0, ht => exact ht | 1, ht => exact ht))) ?_
    refine qload (v := .slice RA 6 rc) (fun w' hw' => by rw [(hS17.ext hw').cell]; rfl) ?_
    refine index_sls (j := 0) sx_len hX17.sl rfl (by omega) (fun pc zc hzc hclc => ?_)
    rw [hy0] at hzc; cases hzc
    refine qloadN (vs := [.slice y0.x.A y0.x.n y0.x.c, .int .i64 y0.x.r]) rfl (fun w' hw' t v ht => by
      rw [Addr.add_add]
      exact hw'.cell (hclc (4 + t) v (by match t, ht with | 0, ht => exact ht | 1, ht => exact ht))) ?_
    refine call (same_fn y5.x.A y0.x.A y5.x.n y5.x.c y0.x.n y0.x.c y5.x.nd y0.x.nd y5.x.r y0.x.r _ (hd5.ext (hE1317.trans hE1718)) (hd0.ext (hE1317.trans hE1718))) ?_
    rintro _ w19 ⟨rfl, hE19⟩
    have hE1719 := hE1718.trans hE19
    refine ⟨hE1719, ?_⟩
    refine wif_t (decide_eq_true (hs5.unique hs0 hsame)) ?_
    exact ⟨rfl, hE017.trans hE1719⟩
end
end Go.Proofs.YtedopgkbajhanaaGreatDoor

namespace Go.Proofs.YtedopgkbajhanaaGreatDoor
section
open Go Go.RowKit Go.ChangeShapes

variable {H : Type} {enc : TypeId × Value → H}

theorem law_of {P : Program} {f : FuncId} {l : List Value} {w : World} (h : Fn P f l w (fun v w' => v = .bool true ∧ Ext w w')) :
    Calls P f l.toArray w fun e w' => e = .returned (.bool true) ∧ Below w.heap.size w w' := by
  unfold Fn at h
  exact h.mono fun e w' he => by
    cases e with
    | returned v => exact ⟨by rw [he.1], he.2.below⟩
    | panicked ch => exact he.elim
    | outgrown => exact he.elim

theorem u8_of {a : Int} (w : (Lit.int .u8 a).wf = true) : ∃ n : Nat, a = n ∧ n ≤ 255 := by
  simp [Lit.wf, IntKind.min, IntKind.max, IntKind.signed, IntKind.bits] at w
  exact ⟨a.toNat, by omega, by omega⟩
end
end Go.Proofs.YtedopgkbajhanaaGreatDoor

namespace Go.Proofs.YtedopgkbajhanaaGreatDoor
section
open Go Go.RowKit Go.ChangeShapes

variable {H : Type} {enc : TypeId × Value → H}

theorem lst4 {α : Type} {l : List α} (h : l.length = 4) : ∃ a b c d, l = [a, b, c, d] := by
  match l, h with
  | [a, b, c, d], _ => exact ⟨a, b, c, d, rfl⟩
end
end Go.Proofs.YtedopgkbajhanaaGreatDoor

namespace Go.Proofs.YtedopgkbajhanaaGreatDoor
section
open Go Go.RowKit Go.ChangeShapes

variable {H : Type} {enc : TypeId × Value → H}

/-! ### Lines of made files -/
structure Lx where
  k : Nat
  i : Nat
  ws : List Nat
  A : Option Addr
  n : Nat
  c : Nat
def Lx.cells (x : Lx) : List Value := [.int .u8 (x.k : Nat), .int .u8 (x.i : Nat), .slice x.A x.n x.c]
structure LxOk (W : World) (x : Lx) : Prop where
  k8 : x.k ≤ 255
  i8 : x.i ≤ 255
  sl : Sl W 1 x.A x.n x.c (bytesV x.ws)
  w8 : ∀ b ∈ x.ws, b ≤ 255
theorem LxOk.ext {W W' : World} {x : Lx} (h : LxOk W x) (k : Ext W W') : LxOk W' x := ⟨h.k8, h.i8, h.sl.ext k, h.w8⟩
/-! ### Sources -/
/-! ### Arrays -/
set_option maxRecDepth 100000 in
theorem a4u8_of {W : World} {base : Nat} {v : Value} {d : DataW H} {p : List MemPlace} (hval : Value.okWide Tryz.prog W .any base 62 v) (h : DataW.Trod enc Tryz.prog W 0 (fun _ => true) true 62 v d p) :
    ∃ a b c e : Nat, v = .agg #[.int .u8 a, .int .u8 b, .int .u8 c, .int .u8 e] ∧ a ≤ 255 ∧ b ≤ 255 ∧ c ≤ 255 ∧ e ≤ 255 := by
  obtain ⟨fuel, hf⟩ := h
  simp only [Value.okWide, Tryz.underlying62] at hval
  obtain ⟨cs, rfl, hsz, _⟩ := hval
  have hc : Tryz.prog.cellsOf 62 = 4 := by kernel_rfl
  have hc22 : Tryz.prog.cellsOf 5 = 1 := by kernel_rfl
  rw [hc] at hsz
  obtain ⟨xs, m, _, _, _, hxl, hx⟩ := DataW.trod_array Tryz.underlying62 hf
  obtain ⟨v0, v1, v2, v3, hl⟩ := lst4 (show cs.toList.length = 4 by simpa using hsz)
  obtain ⟨x0, x1, x2, x3, rfl⟩ := lst4 hxl
  have g0 := hx 0 (by omega)
  have g1 := hx 1 (by omega)
  have g2 := hx 2 (by omega)
  have g3 := hx 3 (by omega)
  simp [hc22, Value.cells, hl] at g0 g1 g2 g3
  obtain ⟨n0, e0, _, w0⟩ := DataW.trod_int Tryz.underlying5 g0
  obtain ⟨n1, e1, _, w1⟩ := DataW.trod_int Tryz.underlying5 g1
  obtain ⟨n2, e2, _, w2⟩ := DataW.trod_int Tryz.underlying5 g2
  obtain ⟨n3, e3, _, w3⟩ := DataW.trod_int Tryz.underlying5 g3
  simp at e0 e1 e2 e3
  subst e0 e1 e2 e3
  obtain ⟨a, rfl, ha⟩ := u8_of w0
  obtain ⟨b, rfl, hb⟩ := u8_of w1
  obtain ⟨c, rfl, hc'⟩ := u8_of w2
  obtain ⟨e, rfl, he⟩ := u8_of w3
  exact ⟨a, b, c, e, congrArg Value.agg (Array.ext' hl), ha, hb, hc', he⟩
end
end Go.Proofs.YtedopgkbajhanaaGreatDoor
