/-
  What PSourceNesting rests on, part 5: the texts of this work, without what it does not use; printed by a program (wip/shake.py).
  Conditions: none.
-/
import Derived.Test.YtedopgkbajhanaaDoorQPSourceNestingd
namespace Go.Proofs.YtedopgkbajhanaaDoor
section
section
open Go Go.RowKit

/-! ### Segments that follow one another -/
def ChG : Nat → List Sg → Nat → Prop
  | a, [], b => a = b
  | a, s :: l, b => s.f = a ∧ ChG s.t l b
theorem ChG.snoc {x : Sg} : ∀ {l : List Sg} {a b : Nat}, ChG a (l ++ [x]) b ↔ ChG a l x.f ∧ x.t = b
  | [], a, b => by simp only [List.nil_append, ChG]; exact ⟨fun h => ⟨h.1.symm, h.2⟩, fun h => ⟨h.1.symm, h.2⟩⟩
  | s :: l, a, b => by
    simp only [List.cons_append, ChG]
    rw [ChG.snoc (l := l)]
    exact ⟨fun h => ⟨⟨h.1, h.2.1⟩, h.2.2⟩, fun h => ⟨h.1.1, h.1.2, h.2⟩⟩
/-- A segment is a run of whole lines of a file. -/
structure SgOk (fs : List (List Nat × List Nat)) (tx : List Nat) (s : Sg) : Prop where
  ft : s.f < s.t
  tl : s.t ≤ tx.length
  nl : tx[s.t - 1]? = some 10
  src : ∃ x, fs[s.fl]? = some x ∧ s.at_ + (s.t - s.f) ≤ x.2.length ∧ (x.2.drop s.at_).take (s.t - s.f) = (tx.take s.t).drop s.f
theorem SgOk.app {fs : List (List Nat × List Nat)} {tx : List Nat} {s : Sg} (h : SgOk fs tx s) (l : List Nat) : SgOk fs (tx ++ l) s := by
  obtain ⟨h1, h2, h3, x, h4, h5, h6⟩ := h
  refine ⟨h1, by rw [List.length_append]; omega, by rw [List.getElem?_append_left (by omega)]; exact h3, x, h4, h5, ?_⟩
  rw [List.take_append_of_le_length h2]; exact h6
structure GInv (fs : List (List Nat × List Nat)) (g : Gs) : Prop where
  ch : ChG 0 g.sg g.tx.length
  ok : ∀ s ∈ g.sg, SgOk fs g.tx s
theorem GInv.fr {fs : List (List Nat × List Nat)} {g : Gs} (h : GInv fs g) (b : Bool) : GInv fs { g with fr := b } := ⟨h.ch, h.ok⟩
/-- The open segment ends where the reading is. -/
def CurG (n p : Nat) (k : BF) (g : Gs) : Prop := g.fr = false → ∃ l x, g.sg = l ++ [x] ∧ x.fl = n ∧ x.at_ + (x.t - x.f) = p ∧ x.o = k
theorem add_inv {fs : List (List Nat × List Nat)} {n p : Nat} {k : BF} {g g' : Gs} {s : List Nat} (h : GInv fs g) (hc : CurG n p k g) {x : List Nat × List Nat} (hx : fs[n]? = some x) (hs : x.2.drop p = s ++ x.2.drop (p + s.length)) (hp : p + s.length ≤ x.2.length) (hl : s.getLast? = some 10)
    (ha : addG s n p k g = some g') : GInv fs g' ∧ CurG n (p + s.length) k g' := by
  unfold addG at ha
  split at ha
  · cases ha
  cases ha
  have hs0 : 0 < s.length := by
    cases s with
    | nil => cases hl
    | cons _ _ => simp
  have hnl : (g.tx ++ s)[g.tx.length + s.length - 1]? = some 10 := by
    rw [List.getElem?_append_right (by omega), show g.tx.length + s.length - 1 - g.tx.length = s.length - 1 by omega, ← List.getLast?_eq_getElem?]; exact hl
  cases hf : g.fr with
  | true =>
    rw [if_pos rfl, setTo_snoc]
    refine ⟨⟨?_, fun y hy => ?_⟩, fun _ => ⟨_, _, rfl, rfl, ?_, rfl⟩⟩
    · simp only
      rw [ChG.snoc]
      exact ⟨h.ch, by simp⟩
    · simp only [List.mem_append, List.mem_singleton] at hy
      rcases hy with hy | rfl
      · exact (h.ok y hy).app s
      · refine ⟨by simp only; omega, by simp, hnl, x, hx, by simp only; omega, ?_⟩
        simp only
        rw [show g.tx.length + s.length - g.tx.length = s.length by omega, hs, List.take_left, List.take_of_length_le (by simp), List.drop_left]
    · simp only; omega
  | false =>
    rw [if_neg (by decide)]
    obtain ⟨l, y, e, e1, e2, e3⟩ := hc hf
    have hch := h.ch
    have hok := h.ok
    rw [e] at hch hok
    rw [ChG.snoc] at hch
    obtain ⟨q1, q2, q3, z, q4, q5, q6⟩ := hok y (by simp)
    rw [e, setTo_snoc]
    have hz : z = x := by rw [e1, hx] at q4; exact (Option.some.inj q4).symm
    subst hz
    refine ⟨⟨?_, fun u hu => ?_⟩, fun _ => ⟨_, _, rfl, e1, ?_, e3⟩⟩
    · simp only
      rw [ChG.snoc]
      exact ⟨hch.1, by simp⟩
    · simp only [List.mem_append, List.mem_singleton] at hu
      rcases hu with hu | rfl
      · exact (hok u (by simp [hu])).app s
      · refine ⟨by simp only; omega, by simp, hnl, z, q4, by simp only; omega, ?_⟩
        simp only
        rw [show g.tx.length + s.length - y.f = (y.t - y.f) + s.length by omega, List.take_of_length_le (l := g.tx ++ s) (by simp), List.drop_append_of_le_length (by omega)]
        rw [List.take_add, List.drop_drop, e2, hs, List.take_left, q6, hch.2, List.take_length]
    · simp only; omega

theorem rdL_inv {nm : List (List Nat)} {fs : List (List Nat × List Nat)} {n d0 : Nat} {inc : IncF} {x : List Nat × List Nat} (hx : fs[n]? = some x)
    (hi : ∀ r ln d k g g', inc r ln d k g = .ok g' → GInv fs g → GInv fs g') : ∀ (ls : List (List Nat)) (ln at_ : Nat) (k : BF) (op : List Se) (g g' : Gs),
    x.2.drop at_ = unl ls → at_ ≤ x.2.length → GInv fs g → CurG n at_ k g → rdL nm n d0 inc ls ln at_ k op g = .ok g' → GInv fs g' ∧ g'.fr = true
  | [], ln, at_, k, op, g, g', _, _, hg, _, hr => by
    cases op with
    | nil => simp only [rdL, Except.ok.injEq] at hr; subst hr; exact ⟨hg.fr true, rfl⟩
    | cons _ _ => simp [rdL] at hr
  | s :: ls, ln, at_, k, op, g, g', hd, hat, hg, hc, hr => by
    have hl1 : x.2.drop at_ = (s ++ [10]) ++ unl ls := by rw [hd, unl_cons]; simp
    have hL : (s ++ [10]).length = s.length + 1 := by simp
    have hlen : x.2.length - at_ = s.length + 1 + (unl ls).length := by
      have := congrArg List.length hl1
      simp only [List.length_drop, List.length_append, List.length_cons, List.length_nil] at this
      omega
    have hd2 : x.2.drop (at_ + s.length + 1) = unl ls := by
      rw [show at_ + s.length + 1 = at_ + (s ++ [10]).length by simp; omega, ← List.drop_drop, hl1, List.drop_left]
    have ih := fun k op g g' h1 h2 h3 => rdL_inv (nm := nm) (d0 := d0) hx hi ls (ln + 1) (at_ + s.length + 1) k op g g' hd2 (by omega) h1 h2 h3
    have cf : ∀ k' (g : Gs), CurG n (at_ + s.length + 1) k' { g with fr := true } := fun k' g h => by cases h
    rw [rdL.eq_def] at hr; simp only at hr
    cases hdir : dirOf s with
    | txt =>
      rw [hdir] at hr
      simp only at hr
      cases ha : addG (s ++ [10]) n at_ k g with
      | none => rw [ha] at hr; cases hr
      | some g1 =>
        rw [ha] at hr
        simp only at hr
        obtain ⟨i1, i2⟩ := add_inv hg hc hx (by rw [hL, ← Nat.add_assoc, hd2]; exact hl1) (by rw [hL]; omega) (by simp) ha
        exact ih k op g1 g' i1 (by rw [hL, ← Nat.add_assoc] at i2; exact i2) hr
    | ifd r =>
      rw [hdir] at hr
      simp only at hr
      cases hs : setE nm r with
      | error e => rw [hs] at hr; cases hr
      | ok d =>
        rw [hs] at hr
        simp only at hr
        split at hr
        · cases hr
        · exact ih _ _ _ _ (hg.fr true) (cf _ _) hr
    | inc r =>
      rw [hdir] at hr
      simp only at hr
      cases hs : inc r (ln + 1) (d0 + op.length) k g with
      | error e => rw [hs] at hr; cases hr
      | ok g1 =>
        rw [hs] at hr
        exact ih _ _ _ _ ((hi _ _ _ _ _ _ hs hg).fr true) (cf _ _) hr
    | elif r =>
      rw [hdir] at hr
      cases op with
      | nil => cases hr
      | cons y op =>
        simp only at hr
        split at hr
        · cases hr
        · cases hs : setE nm r with
          | error e => rw [hs] at hr; cases hr
          | ok d => rw [hs] at hr; exact ih _ _ _ _ (hg.fr true) (cf _ _) hr
    | els =>
      rw [hdir] at hr
      cases op with
      | nil => cases hr
      | cons y op =>
        simp only at hr
        split at hr
        · cases hr
        · exact ih _ _ _ _ (hg.fr true) (cf _ _) hr
    | en =>
      rw [hdir] at hr
      cases op with
      | nil => cases hr
      | cons y op => exact ih _ _ _ _ (hg.fr true) (cf _ _) hr
theorem rdF_inv {nm : List (List Nat)} {fs : List (List Nat × List Nat)} (hf : ∀ x ∈ fs, TextOk x.2) : ∀ (f : Nat) (rd : List Nat) (d n : Nat) (k : BF) (g g' : Gs), n < fs.length → GInv fs g → rdF nm fs f rd d n k g = .ok g' → GInv fs g' ∧ g'.fr = true
  | 0, _, _, _, _, _, _, _, _, hr => by cases hr
  | f + 1, rd, d, n, k, g, g', hn, hg, hr => by
    have hx : fs[n]? = some fs[n] := List.getElem?_eq_getElem hn
    rw [rdF, hx] at hr
    simp only [Option.map_some, Option.getD_some] at hr
    refine rdL_inv hx ?_ (linesOf fs[n].2) 0 0 k [] { g with fr := true } g' (by rw [List.drop_zero, unl_linesOf (hf _ (List.getElem_mem hn))]) (Nat.zero_le _) (hg.fr true) (fun h => by cases h) hr
    intro r ln d' k' g1 g2 hi hg1
    cases he : incE (ixN (fs.map (·.1))) (n :: rd) r with
    | error e => rw [he] at hi; cases hi
    | ok m =>
      rw [he] at hi
      simp only at hi
      split at hi
      · cases hi
      · have hm : m < fs.length := by
          obtain ⟨_, tn, htn⟩ := incE_ok he
          have := ixN_lt htn
          simpa using this
        exact (rdF_inv hf f _ _ m _ g1 g2 hm hg1 hi).1
theorem readE_inv {nm : List (List Nat)} {fs : List (List Nat × List Nat)} {root : List Nat} {g : Gs} (hr : readE nm fs root = .ok g) : GInv fs g ∧ fs.length ≤ 256 ∧ ∀ x ∈ fs, x.2.length ≤ 1048576 := by
  unfold readE at hr
  split at hr
  · cases hr
  cases hfe : filesE fs with
  | some p => rw [hfe] at hr; cases hr
  | none =>
    rw [hfe] at hr
    simp only at hr
    have h256 : fs.length ≤ 256 := by
      unfold filesE at hfe
      split at hfe
      · cases hfe
      · omega
    have hall : ∀ x ∈ fs, fnameOk x.1 = true ∧ textB x.2 = true ∧ x.2.length ≤ 1048576 := by
      unfold filesE at hfe
      rw [if_neg (by omega)] at hfe
      exact chkFs_ok fs [] 0 hfe
    cases hix : ixN (fs.map (·.1)) root with
    | none => rw [hix] at hr; cases hr
    | some n =>
      rw [hix] at hr
      simp only at hr
      have hn : n < fs.length := by have := ixN_lt hix; simpa using this
      exact ⟨(rdF_inv (fun x hx => textB_ok (hall x hx).2.1) 65 [] 0 n _ _ g hn (⟨rfl, fun s hs => by cases hs⟩ : GInv fs ⟨[], [], false⟩) hr).1, h256, fun x hx => (hall x hx).2.2⟩
end

section
open Go Go.RowKit

/-! ### What was read, as segments -/
def mkX (s : Sg) (x : DV) : Sx := ⟨s.f, s.t, s.fl, s.at_, x⟩
def toX (s : Sg) : Sx := ⟨s.f, s.t, s.fl, s.at_, ⟨none, 0, 0, [], 0⟩⟩
def AllS (k : Nat) : List Sg → List Sx → Prop
  | [], [] => True
  | s :: l, y :: m => (y.f = s.f ∧ y.t = s.t ∧ y.fl = s.fl ∧ y.at_ = s.at_ ∧ Set1 k y.x.nd y.x.r s.o) ∧ AllS k l m
  | _, _ => False
theorem AllS.len {k : Nat} : ∀ {l : List Sg} {m : List Sx}, AllS k l m → l.length = m.length
  | [], [], _ => rfl
  | _ :: _, _ :: _, h => by simp [AllS.len h.2]
theorem AllS.get {k : Nat} : ∀ {l : List Sg} {m : List Sx} {i : Nat} {s : Sg} {y : Sx}, AllS k l m → l[i]? = some s → m[i]? = some y → y.f = s.f ∧ y.t = s.t ∧ y.fl = s.fl ∧ y.at_ = s.at_ ∧ Set1 k y.x.nd y.x.r s.o
  | _ :: _, _ :: _, 0, _, _, h, h1, h2 => by cases h1; cases h2; exact h.1
  | _ :: _, _ :: _, i + 1, _, _, h, h1, h2 => AllS.get (i := i) h.2 (by simpa using h1) (by simpa using h2)
theorem src_in {w : World} {k : Nat} {A : Option Addr} {n c : Nat} {sg : List Sg} {L : List DV} (h : SgIn w k A n c sg L) : ∃ M, SX w A n c M ∧ AllS k sg M := by
  have key : ∀ (sg : List Sg) (L : List DV), L.length = sg.length → (∀ (j : Nat) (s : Sg) (x : DV), sg[j]? = some s → L[j]? = some x → SB w x.A x.n x.c x.nd ∧ Set1 k x.nd x.r s.o) →
      ∃ M : List Sx, M.flatMap Sx.cells = sgV sg L ∧ M.length = sg.length ∧ (∀ y ∈ M, SB w y.x.A y.x.n y.x.c y.x.nd) ∧ AllS k sg M := by
    intro sg
    induction sg with
    | nil =>
      intro L hl _
      have : L = [] := List.eq_nil_of_length_eq_zero hl
      subst this
      exact ⟨[], rfl, rfl, (fun y hy => by cases hy), ⟨⟩⟩
    | cons s sg ih =>
      intro L hl hd
      cases L with
      | nil => cases hl
      | cons x L =>
        obtain ⟨M, h1, h2, h3, h4⟩ := ih L (by simpa using hl) (fun j s x h1 h2 => hd (j + 1) s x (by simpa using h1) (by simpa using h2))
        obtain ⟨d1, d2⟩ := hd 0 s x rfl rfl
        refine ⟨mkX s x :: M, ?_, by simp [h2], ?_, ⟨⟨rfl, rfl, rfl, rfl, d2⟩, h4⟩⟩
        · rw [List.flatMap_cons, h1]; rfl
        · intro y hy
          rcases List.mem_cons.1 hy with rfl | hy
          · exact d1
          · exact h3 y hy
  obtain ⟨M, h1, h2, h3, h4⟩ := key sg L h.len h.dg
  exact ⟨M, ⟨⟨by rw [h1]; exact h.sl, by rw [h2]; exact h.n⟩, h3⟩, h4⟩
theorem chk_read {k : Nat} (hk : k ≤ 12) {fs : List (List Nat × List Nat)} {tx : List Nat} (hft : ∀ x ∈ fs, x.2.length ≤ 1048576) : ∀ {sg : List Sg} {M : List Sx} {a : Nat}, AllS k sg M → ChG a sg tx.length → (∀ s ∈ sg, SgOk fs tx s) → chkL tx a M
  | [], [], a, _, h, _ => by have : a = tx.length := h; subst this; rfl
  | s :: sg, y :: M, a, h, hc, hs => by
    obtain ⟨⟨e1, e2, e3, e4, e5⟩, hr⟩ := h
    obtain ⟨q1, q2, q3, x, q4, q5, q6⟩ := hs s (by simp)
    have hx := hft x (List.mem_of_getElem? q4)
    have hcf : s.f = a := hc.1
    refine ⟨⟨by omega, by omega, by omega, ?_, e5.chk hk, by omega, by omega, by omega⟩, ?_⟩
    · rw [show (y.t - 1).toNat = s.t - 1 by omega]; exact q3
    · rw [e2]; exact chk_read hk hft hr hc.2 (fun z hz => hs z (by simp [hz]))
theorem chkS_read {k : Nat} (hk : k ≤ 12) {nm : List (List Nat)} {fs : List (List Nat × List Nat)} {root : List Nat} {g : Gs} {M : List Sx} (hr : readE nm fs root = .ok g) (hg : GsOk g) (hM : AllS k g.sg M) : chkS g.tx M = 0 := by
  obtain ⟨h1, h2, h3⟩ := readE_inv hr
  exact chkS_zero.2 ⟨hg.tl, by rw [← hM.len]; exact hg.sl, chk_read hk h3 hM h1.ch h1.ok⟩

def onG (e : Nat → Bool) (sg : List Sg) : List Sg := sg.filter (fun s => s.o e)
def pieceG (tx : List Nat) (s : Sg) : List Nat := (tx.take s.t).drop s.f
def selG (tx : List Nat) (sg : List Sg) (e : Nat → Bool) : List Nat := (onG e sg).flatMap (pieceG tx)
def LikeS : List Sg → List Sx → Prop
  | [], [] => True
  | s :: l, y :: m => (y.f = s.f ∧ y.t = s.t ∧ y.fl = s.fl ∧ y.at_ = s.at_) ∧ LikeS l m
  | _, _ => False
theorem AllS.like {k : Nat} : ∀ {l : List Sg} {m : List Sx}, AllS k l m → LikeS l m
  | [], [], _ => ⟨⟩
  | _ :: _, _ :: _, ⟨⟨h1, h2, h3, h4, _⟩, h⟩ => ⟨⟨h1, h2, h3, h4⟩, h.like⟩
theorem AllS.on {k : Nat} (c : Nat) : ∀ {l : List Sg} {m : List Sx}, AllS k l m → LikeS (onG (bitE c) l) (selL c m)
  | [], [], _ => ⟨⟩
  | s :: l, y :: m, ⟨⟨h1, h2, h3, h4, h5⟩, h⟩ => by
    have ih := h.on c
    unfold onG selL at ih ⊢
    rw [List.filter_cons, List.filter_cons]
    have e : inS c y = s.o (bitE c) := h5.mean _
    rw [e]
    split
    · exact ⟨⟨h1, h2, h3, h4⟩, ih⟩
    · exact ih
theorem like_pieces {tx : List Nat} : ∀ {l : List Sg} {m : List Sx}, LikeS l m → m.flatMap (pieceS tx) = l.flatMap (pieceG tx)
  | [], [], _ => rfl
  | s :: l, y :: m, ⟨⟨h1, h2, _, _⟩, h⟩ => by
    rw [List.flatMap_cons, List.flatMap_cons, like_pieces h]
    unfold pieceS pieceG
    rw [h1, h2]; rfl
theorem like_loc {tl at_ : Int} : ∀ {l : List Sg} {m : List Sx} {n : Int}, LikeS l m → locL tl at_ n m = locL tl at_ n (l.map toX)
  | [], [], _, _ => rfl
  | s :: l, y :: m, n, ⟨⟨h1, h2, _, _⟩, h⟩ => by
    rw [List.map_cons, locL, locL, like_loc h, h1, h2]; rfl
theorem like_glb {tl : Int} : ∀ {l : List Sg} {m : List Sx} {at_ : Int}, LikeS l m → glbL tl at_ m = glbL tl at_ (l.map toX)
  | [], [], _, _ => rfl
  | s :: l, y :: m, n, ⟨⟨h1, h2, _, _⟩, h⟩ => by
    rw [List.map_cons, glbL, glbL, like_glb h, h1, h2]; rfl
theorem like_ori {at_ : Int} : ∀ {l : List Sg} {m : List Sx}, LikeS l m → oriL at_ m = oriL at_ (l.map toX)
  | [], [], _ => rfl
  | s :: l, y :: m, ⟨⟨h1, h2, h3, h4⟩, h⟩ => by
    rw [List.map_cons, oriL, oriL, like_ori h, h1, h2, h3, h4]; rfl
/-- Two sets over k conditions have a common configuration. -/
def bothG (k : Nat) (o o' : BF) : Bool := (List.range (2 ^ k)).any (fun c => o (bitE c) && o' (bitE c))
theorem bits_of (e : Nat → Bool) : ∀ k, ∃ c, c < 2 ^ k ∧ ∀ i, i < k → bitE c i = e i
  | 0 => ⟨0, by decide, fun i hi => by omega⟩
  | k + 1 => by
    obtain ⟨c, h1, h2⟩ := bits_of e k
    have hp : 2 ^ (k + 1) = 2 ^ k * 2 := Nat.pow_succ 2 k
    cases hk : e k with
    | false =>
      refine ⟨c, by omega, fun i hi => ?_⟩
      by_cases hik : i = k
      · subst hik; rw [hk]; unfold bitE; rw [Nat.div_eq_of_lt h1]; rfl
      · exact h2 i (by omega)
    | true =>
      refine ⟨c + 2 ^ k, by omega, fun i hi => ?_⟩
      by_cases hik : i = k
      · subst hik; rw [hk]; unfold bitE
        rw [Nat.add_div_right _ (Nat.pow_pos (by decide)), Nat.div_eq_of_lt h1]; rfl
      · rw [← h2 i (by omega)]
        unfold bitE
        congr 1
        have e1 : 2 ^ k = 2 ^ i * (2 * 2 ^ (k - i - 1)) := by
          rw [← Nat.mul_assoc, ← Nat.pow_succ, ← Nat.pow_add]; congr 1; omega
        rw [e1, Nat.add_mul_div_left _ _ (Nat.pow_pos (by decide)), Nat.add_mul_mod_self_left]
theorem meets_both {k : Nat} {a b : List Br} {ra rb : Int} {o o' : BF} (h : Set1 k a ra o) (h' : Set1 k b rb o') : Meets a ra b rb ↔ bothG k o o' = true := by
  unfold bothG
  rw [List.any_eq_true]
  constructor
  · rintro ⟨e, e1, e2⟩
    obtain ⟨c, hc, hb⟩ := bits_of e k
    refine ⟨c, List.mem_range.2 hc, ?_⟩
    rw [h.ext hb, h'.ext hb, ← h.mean, ← h'.mean, e1, e2]; rfl
  · rintro ⟨c, _, hc⟩
    rw [Bool.and_eq_true] at hc
    exact ⟨bitE c, by rw [h.mean]; exact hc.1, by rw [h'.mean]; exact hc.2⟩
def deadG (k : Nat) (o' : BF) : Nat → List Sg → List Nat
  | _, [] => []
  | i, s :: l => if bothG k s.o o' then deadG k o' (i + 1) l else i :: deadG k o' (i + 1) l
theorem dis_both {k : Nat} (hk : k ≤ 12) {a b : List Br} {ra rb : Int} {o o' : BF} (h : Set1 k a ra o) (h' : Set1 k b rb o') : disP a ra b rb = !bothG k o o' := by
  cases hb : bothG k o o' with
  | true => rw [disP_f (fun hh => hh.2.2 ((meets_both h h').2 hb))]; rfl
  | false => rw [disP_t ⟨h.chk hk, h'.chk hk, fun hh => by rw [(meets_both h h').1 hh] at hb; cases hb⟩]; rfl
theorem dead_read {k : Nat} (hk : k ≤ 12) {b : List Br} {rb : Int} {o' : BF} (h' : Set1 k b rb o') : ∀ {l : List Sg} {m : List Sx} {i : Nat}, AllS k l m → deadL b rb i m = deadG k o' i l
  | [], [], _, _ => rfl
  | s :: l, y :: m, i, ⟨⟨_, _, _, _, h⟩, hr⟩ => by
    rw [deadL, deadG, dis_both hk h h', dead_read hk h' hr]
    cases bothG k s.o o' <;> rfl

/-! ### Contracts on what was read -/
structure SrcIn (w : World) (k : Nat) (A : Option Addr) (c : Nat) (g : Gs) : Prop where
  ok : GsOk g
  kl : k ≤ 12
  ex : ∃ M, SX w A g.sg.length c M ∧ AllS k g.sg M ∧ chkS g.tx M = 0
theorem SrcIn.ext {w w' : World} {k : Nat} {A : Option Addr} {c : Nat} {g : Gs} (h : SrcIn w k A c g) (hE : Ext w w') : SrcIn w' k A c g := ⟨h.ok, h.kl, let ⟨M, h1, h2, h3⟩ := h.ex; ⟨M, h1.ext hE, h2, h3⟩⟩
theorem srcIn_read {k : Nat} (hk : k ≤ 12) {nm : List (List Nat)} {fs : List (List Nat × List Nat)} {root : List Nat} {g : Gs} (hr : readE nm fs root = .ok g) {w : World} {A : Option Addr} {c : Nat} {L : List DV} (hg : GsOk g) (h : SgIn w k A g.sg.length c g.sg L) : SrcIn w k A c g := by
  obtain ⟨M, h1, h2⟩ := src_in h
  exact ⟨hg, hk, M, h1, h2, chkS_read hk hr hg h2⟩
section
variable {w : World} {k : Nat} {A : Option Addr} {c : Nat} {g : Gs}
theorem rsel_fn (h : SrcIn w k A c g) (x : Nat) (hx : x ≤ 18446744073709551615) : Fn Tryd.prog 11 [srcV g.tx A g.sg.length c, .int .u64 x] w (fun u w' => u = .string (strOf (selG g.tx g.sg (bitE x))) ∧ Ext w w') := by
  obtain ⟨M, h1, h2, h3⟩ := h.ex
  refine (sselect_fn g.tx A _ c M x w h1 hx h.ok.b8).mono ?_
  rintro u w' ⟨rfl, hE⟩
  exact ⟨by unfold selP selG; rw [if_pos h3, like_pieces (h2.on x)], hE⟩
def locG (g : Gs) (x : Nat) (at_ : Int) : Int × Bool := locL g.tx.length at_ 0 ((onG (bitE x) g.sg).map toX)
def glbG (g : Gs) (x : Nat) (at_ : Int) : Int × Bool := if 0 ≤ at_ then glbL g.tx.length at_ ((onG (bitE x) g.sg).map toX) else (0, false)
def oriG (g : Gs) (at_ : Int) : Int × Int × Bool := if 0 ≤ at_ ∧ at_ < g.tx.length then oriL at_ (g.sg.map toX) else (0, 0, false)
theorem rloc_fn (h : SrcIn w k A c g) (x : Nat) (hx : x ≤ 18446744073709551615) (at_ : Int) : Fn Tryd.prog 6 [srcV g.tx A g.sg.length c, .int .u64 x, .int .i64 at_] w (fun u w' => u = .tuple #[.int .i64 (locG g x at_).1, .bool (locG g x at_).2] ∧ Ext w w') := by
  obtain ⟨M, h1, h2, h3⟩ := h.ex
  refine (slocal_fn g.tx A _ c M x at_ w h1 hx h.ok.b8).mono ?_
  rintro u w' ⟨rfl, hE⟩
  have e : locP g.tx M x at_ = locG g x at_ := by unfold locP locG; rw [if_pos h3, like_loc (h2.on x)]
  exact ⟨by rw [e], hE⟩
theorem rglb_fn (h : SrcIn w k A c g) (x : Nat) (hx : x ≤ 18446744073709551615) (at_ : Int) (ha : at_ ≤ 9223372036854775807) : Fn Tryd.prog 7 [srcV g.tx A g.sg.length c, .int .u64 x, .int .i64 at_] w (fun u w' => u = .tuple #[.int .i64 (glbG g x at_).1, .bool (glbG g x at_).2] ∧ Ext w w') := by
  obtain ⟨M, h1, h2, h3⟩ := h.ex
  refine (sglobal_fn g.tx A _ c M x at_ w h1 hx h.ok.b8 ha).mono ?_
  rintro u w' ⟨rfl, hE⟩
  have e : glbP g.tx M x at_ = glbG g x at_ := by
    unfold glbP glbG
    by_cases h0 : 0 ≤ at_
    · rw [if_pos ⟨h3, h0⟩, if_pos h0, like_glb (h2.on x)]
    · rw [if_neg (fun hh => h0 hh.2), if_neg h0]
  exact ⟨by rw [e], hE⟩
theorem rori_fn (h : SrcIn w k A c g) (at_ : Int) : Fn Tryd.prog 8 [srcV g.tx A g.sg.length c, .int .i64 at_] w (fun u w' => u = .tuple #[.int .i64 (oriG g at_).1, .int .i64 (oriG g at_).2.1, .bool (oriG g at_).2.2] ∧ Ext w w') := by
  obtain ⟨M, h1, h2, h3⟩ := h.ex
  refine (sorigin_fn g.tx A _ c M at_ w h1 h.ok.b8).mono ?_
  rintro u w' ⟨rfl, hE⟩
  have e : oriP g.tx M at_ = oriG g at_ := by
    unfold oriP oriG
    by_cases h0 : 0 ≤ at_ ∧ at_ < g.tx.length
    · rw [if_pos ⟨h3, h0⟩, if_pos h0, like_ori h2.like]
    · rw [if_neg (fun hh => h0 hh.2), if_neg h0]
  exact ⟨by rw [e], hE⟩
theorem rdead_fn (h : SrcIn w k A c g) {B : Option Addr} {m d : Nat} {b : List Br} {rb : Int} {o' : BF} (hb : SB w B m d b) (hs : Set1 k b rb o') : Fn Tryd.prog 10 [srcV g.tx A g.sg.length c, dgV B m d rb] w (fun u w' => ∃ O oc, u = .tuple #[.slice O (deadG k o' 0 g.sg).length oc, .int .i64 0] ∧ Ext w w' ∧ Sl w' 1 O (deadG k o' 0 g.sg).length oc (ixV (deadG k o' 0 g.sg))) := by
  obtain ⟨M, h1, h2, h3⟩ := h.ex
  refine (sdead_fn g.tx A _ c M B m d b rb w h1 hb h.ok.b8).mono ?_
  rintro u w' ⟨O, oc, rfl, hE, hO⟩
  have e : deadP g.tx M b rb = (deadG k o' 0 g.sg, 0) := by unfold deadP; rw [if_neg (fun hh => hh h3), if_neg (fun hh => hh (hs.chk h.kl)), dead_read h.kl hs h2]
  rw [e] at hO ⊢
  exact ⟨O, oc, rfl, hE, hO⟩
end

/-! ### Numbers do not lie among texts -/
theorem Sl.sep {w : World} {sz n c g t : Nat} {A : Option Addr} {cs l : List Value} {x : Int} (h : Sl w sz A n c cs) (h0 : cs[0]? = some (.int .i64 x)) (hB : Blk w g t l) (hl : ∀ v ∈ l, ∃ s, v = .string s) : 0 < n → ∀ i, rowS A i → ¬ i = g := fun hn i hi e => by
  obtain ⟨ad, rfl, hc⟩ := h.at_ hn
  obtain ⟨ad', e', rfl⟩ := hi
  cases e'
  have h1 := hc 0 _ h0
  unfold World.cell? at h1
  rw [block_add, e, show w.heap[g]? = _ from hB] at h1
  simp only at h1
  split at h1
  · cases h1
  · rw [List.getElem?_toArray] at h1
    obtain ⟨s, hs⟩ := hl _ (List.mem_of_getElem? h1)
    cases hs
theorem SB.modT {w w' : World} {A : Option Addr} {n c g t : Nat} {nd : List Br} {l : List Value} (h : SB w A n c nd) (hB : Blk w g t l) (hl : ∀ v ∈ l, ∃ s, v = .string s) (hm : Mod (· = g) w w') : SB w' A n c nd := by
  refine ⟨h.1.modS hm (fun hn i hi => ?_), h.2⟩
  cases nd with
  | nil => have := h.2; simp at this; omega
  | cons b nd => exact h.1.sep (x := b.v) (by simp [Br.cells]) hB hl hn i hi
theorem SX.modT {w w' : World} {A : Option Addr} {n c g t : Nat} {L : List Sx} {l : List Value} (h : SX w A n c L) (hB : Blk w g t l) (hl : ∀ v ∈ l, ∃ s, v = .string s) (hm : Mod (· = g) w w') : SX w' A n c L := by
  refine ⟨⟨h.sl.1.modS hm (fun hn i hi => ?_), h.sl.2⟩, fun y hy => (h.dg y hy).modT hB hl hm⟩
  cases L with
  | nil => have := h.sl.2; simp at this; omega
  | cons y L => exact h.sl.1.sep (x := y.f) (by simp [Sx.cells]) hB hl hn i hi
theorem SrcIn.modT {w w' : World} {k : Nat} {A : Option Addr} {c gg t : Nat} {g : Gs} {l : List Value} (h : SrcIn w k A c g) (hB : Blk w gg t l) (hl : ∀ v ∈ l, ∃ s, v = .string s) (hm : Mod (· = gg) w w') : SrcIn w' k A c g :=
  ⟨h.ok, h.kl, let ⟨M, h1, h2, h3⟩ := h.ex; ⟨M, h1.modT hB hl hm, h2, h3⟩⟩
end

section
open Go Go.RowKit

def sanM : List Nat := [111, 110, 101, 10, 35, 105, 102, 32, 65, 32, 38, 38, 32, 33, 66, 10, 116, 119, 111, 10, 35, 101, 108, 105, 102, 32, 66, 10, 35, 105, 110, 99, 108, 117, 100, 101, 32, 34, 110, 34, 10, 35, 101, 108, 115, 101, 10, 102, 111, 117, 114, 10, 35, 101, 110, 100, 10, 102, 105, 118, 101, 10]
def sanN : List Nat := [116, 104, 114, 101, 101, 10]
def sanT : List Nat := [111, 110, 101, 10, 116, 119, 111, 10, 116, 104, 114, 101, 101, 10, 102, 111, 117, 114, 10, 102, 105, 118, 101, 10]
def sanNm : List (List Nat) := [[65], [66]]
def sanF : List (List Nat × List Nat) := [([109], sanM), ([110], sanN)]
def sanR : Except Pl Gs := readE sanNm sanF [109]
def okR (r : Except Pl Gs) : Bool := match r with | .ok _ => true | .error _ => false
def getR (r : Except Pl Gs) : Gs := match r with | .ok g => g | .error _ => ⟨[], [], false⟩
theorem ok_get {r : Except Pl Gs} (h : okR r = true) : r = .ok (getR r) := by
  cases r with
  | ok g => rfl
  | error _ => cases h
def sanG : Gs := getR sanR
theorem san_ok : readE sanNm sanF [109] = .ok sanG := ok_get (by decide)
theorem san_tx : sanG.tx = sanT := by decide
theorem san_sg : sanG.sg.length = 5 := by decide
theorem san_at : (sanG.sg.map (·.at_)) = [0, 16, 0, 47, 57] := by decide
theorem san_l1 : locG sanG 1 19 = (8, true) := by decide
theorem san_g1 : glbG sanG 1 8 = (19, true) := by decide
theorem san_l2 : (locG sanG 1 8).2 = false := by decide
theorem san_o : oriG sanG 9 = (1, 1, true) := by decide
theorem san_d : deadG 2 (fun e => e 1) 0 sanG.sg = [1, 3] := by decide
theorem san_s : selG sanG.tx sanG.sg (bitE 1) = [111, 110, 101, 10, 116, 119, 111, 10, 102, 105, 118, 101, 10] := by decide
def sanF2 : List (List Nat × List Nat) := [([109], sanM.take 47), ([110], sanN)]
theorem san_2 : readE sanNm sanF2 [109] = .error ⟨72, 0, 2⟩ := by
  have h : (match readE sanNm sanF2 [109] with | .ok _ => none | .error q => some (q.e, q.f, q.l)) = some (72, 0, 2) := by decide
  cases hr : readE sanNm sanF2 [109] with
  | ok g => rw [hr] at h; cases h
  | error q =>
    rw [hr] at h
    obtain ⟨a, b, c⟩ := q
    simp only [Option.some.injEq, Prod.mk.injEq] at h
    obtain ⟨rfl, rfl, rfl⟩ := h
    rfl
theorem san_fb : ∀ x ∈ sanF, FileB x := fun x hx => by
  simp only [sanF, List.mem_cons, List.not_mem_nil, or_false] at hx
  rcases hx with rfl | rfl
  · exact ⟨by decide, by decide, by decide, by decide⟩
  · exact ⟨by decide, by decide, by decide, by decide⟩
theorem san_fb2 : ∀ x ∈ sanF2, FileB x := fun x hx => by
  simp only [sanF2, List.mem_cons, List.not_mem_nil, or_false] at hx
  rcases hx with rfl | rfl
  · exact ⟨by decide, by decide, by decide, by decide⟩
  · exact ⟨by decide, by decide, by decide, by decide⟩

theorem file_str (x : List Nat × List Nat) : ∀ v ∈ fileC x, ∃ s, v = .string s := fun v hv => by
  simp only [fileC, List.mem_cons, List.not_mem_nil, or_false] at hv
  rcases hv with rfl | rfl <;> exact ⟨_, rfl⟩
theorem san_nb : NamesOk sanNm := fun s hs => by
  simp only [sanNm, List.mem_cons, List.not_mem_nil, or_false] at hs
  rcases hs with rfl | rfl <;> exact ⟨by decide, by decide⟩
set_option maxHeartbeats 1600000 in
theorem sanity7_fn (w : World) : Fn Tryd.prog 4 [] w (fun v w' => v = .bool true ∧ Ext w w') := by
  refine fn_of_exec (c := { c4 with cuts := [] }) gx_ok Tryd.func4 rfl rfl rfl ?_
  refine new (fun w1 hE1 hz1 hB1 => ?_)
  refine storeN_blk0 hB1 rfl (sc rfl) (fun w2 hg2 _ hB2 => ?_)
  have hE2 : Ext w w2 := newBox hE1 hB1 hg2
  refine new (fun w3 hE3 hz3 hB3 => ?_)
  refine storeN_blk0 hB3 rfl (sc rfl) (fun w4 hg4 _ hB4 => ?_)
  have hE24 : Ext w2 w4 := newBox hE3 hB3 hg4
  have hE04 := hE2.trans hE24
  refine at_buildN gx_ok [[.string (strOf [65])], [.string (strOf [66])]] rfl rfl rfl rfl rfl ⟨rfl, rfl, rfl, rfl, ⟨⟩⟩ rfl (fun cs h => by simp only [List.mem_cons, List.not_mem_nil, or_false] at h; rcases h with rfl | rfl <;> rfl) rfl (by decide) (by decide) ?_
  intro w5 hE5 hz5 hB5
  have hN5 : Sl w5 1 (some ⟨w4.heap.size, 0, none⟩) 2 2 (strsV sanNm) := Sl.own' (n := 2) hB5 rfl (by decide)
  have hE05 := hE04.trans hE5
  refine loadN_blk0 (hB2.ext (hE24.trans hE5)) rfl ?_
  refine loadN_blk0 (hB4.ext hE5) rfl ?_
  refine at_buildN gx_ok [fileC ([109], sanM), fileC ([110], sanN)] rfl rfl rfl rfl rfl ⟨rfl, rfl, rfl, rfl, ⟨⟩⟩ rfl (fun cs h => by simp only [List.mem_cons, List.not_mem_nil, or_false] at h; rcases h with rfl | rfl <;> rfl) rfl (by decide) (by decide) ?_
  intro w6 hE6 hz6 hB6
  have hF6 : SlS fileC 2 w6 (some ⟨w5.heap.size, 0, none⟩) 2 2 sanF := ⟨Sl.own (sz := 2) (n := 2) hB6 (Nat.le_refl _) (by decide) (by simp [fileC]), rfl⟩
  refine call (sread_fn sanNm _ 2 2 sanF _ 2 2 [109] w6 (hN5.ext hE6) san_nb (by decide) hF6 san_fb (by decide) (by decide)) ?_
  rw [san_ok]
  rintro _ w7 ⟨hE7, hg, RA, rc, RL, rfl, hS7⟩
  have hI7 := srcIn_read (by decide) san_ok hg hS7
  have hE67 := hE6.trans hE7
  refine new (fun w8 hE8 hz8 hB8 => ?_)
  refine new (fun w9 hE9 hz9 hB9 => ?_)
  refine storeN_blk0 (hB8.ext hE9) rfl (sc rfl) (fun w10 hg10 _ hB10 => ?_)
  have hM10 : Mod (· = w7.heap.size) w9 w10 := Mod.of_grown hg10 rfl
  refine storeN_blk0 (hB9.mod hM10 (by omega)) rfl (sc rfl) (fun w11 hg11 _ hB11 => ?_)
  have hM11 : Mod (· = w8.heap.size) w10 w11 := Mod.of_grown hg11 rfl
  have hB10' := hB10.mod hM11 (by omega)
  have hE711 : Ext w7 w11 := hM11.ext (hM10.ext (hE8.trans hE9) (fun i hi => by omega)) (fun i hi => by omega)
  have hI11 := hI7.ext hE711
  refine loadN_blk0 hB11 rfl ?_
  refine wif_f rfl ?_
  refine load_blk0 hB10' rfl ?_
  refine wif_f (by rw [san_tx]; rfl) ?_
  refine load_blk hB10' rfl ?_
  refine wif_f (by rw [san_sg]; rfl) ?_
  refine load_blk hB10' rfl ?_
  obtain ⟨M, hX, hA, hck⟩ := hI11.ex
  refine index_sls (j := 4) sx_len hX.sl rfl (by rw [san_sg]; decide) (fun p y hy hcl => ?_)
  have hy4 : y.at_ = 57 := by
    have h4 : sanG.sg[4]? = some (sanG.sg[4]'(by rw [san_sg]; decide)) := List.getElem?_eq_getElem _
    have e1 := (hA.get h4 hy).2.2.2.1
    have e2 : (sanG.sg.map (·.at_))[4]? = some (sanG.sg[4]'(by rw [san_sg]; decide)).at_ := by rw [List.getElem?_map, h4]; rfl
    rw [san_at] at e2
    have e3 := Option.some.inj e2
    rw [e1, ← e3]; rfl
  refine load (hcl 3 _ rfl) ?_
  refine wif_f (by rw [hy4]; rfl) ?_
  have hS : ∀ w', Ext w11 w' → Blk w' w7.heap.size 25 [.string (strOf sanG.tx), .slice RA sanG.sg.length rc] := fun w' hw' => hB10'.ext hw'
  refine loadN_blk0 (hS _ (Ext.refl _)) rfl ?_
  refine call (rloc_fn hI11 1 (by decide) 19) ?_
  rw [san_l1]
  rintro _ w12 ⟨rfl, hE12⟩
  refine loadN_blk0 (hS _ hE12) rfl ?_
  refine call (rglb_fn (hI11.ext hE12) 1 (by decide) 8 (by decide)) ?_
  rw [san_g1]
  rintro _ w13 ⟨rfl, hE13⟩
  have hE113 := hE12.trans hE13
  refine loadN_blk0 (hS _ hE113) rfl ?_
  refine call (rloc_fn (hI11.ext hE113) 1 (by decide) 8) ?_
  rw [san_l2]
  rintro _ w14 ⟨rfl, hE14⟩
  have hE114 := hE113.trans hE14
  refine loadN_blk0 (hS _ hE114) rfl ?_
  refine call (rori_fn (hI11.ext hE114) 9) ?_
  rw [san_o]
  rintro _ w15 ⟨rfl, hE15⟩
  have hE115 := hE114.trans hE15
  refine call (rvar_fn 1 w15 (by decide) (by decide)) ?_
  rintro _ w16 ⟨A16, n16, c16, rfl, hE16, hS16, hR16⟩
  have hE116 := hE115.trans hE16
  refine new (fun w17 hE17 hz17 hB17 => ?_)
  refine storeN_blk0 hB17 rfl (sc rfl) (fun w18 hg18 _ hB18 => ?_)
  have hE1618 : Ext w16 w18 := newBox hE17 hB17 hg18
  have hE118 := hE116.trans hE1618
  refine loadN_blk0 (hS _ hE118) rfl ?_
  refine loadN_blk0 hB18 rfl ?_
  refine call (rdead_fn (hI11.ext hE118) (hS16.ext hE1618) (var_set (k := 2) (v := 1) (by decide) (by decide))) ?_
  rw [show deadG sanNm.length (fun e => e 1) 0 sanG.sg = [1, 3] from san_d]
  rintro _ w19 ⟨O, oc, rfl, hE19, hO⟩
  have hE119 := hE118.trans hE19
  have hE1119 : Ext w4 w19 := ((hE5.trans hE67).trans hE711).trans hE119
  have hB2' : Blk w19 w.heap.size 32 (fileC ([109], sanM)) := hB2.ext (hE24.trans hE1119)
  refine load_blk hB2' rfl ?_
  refine need_to (v' := .string (strOf (sanM.take 47))) ⟨by decide, by decide, by show (47 : Int) ≤ ((strOf sanM).size : Int); rw [strOf_size]; decide⟩ (by show Value.string ((strOf sanM).extract 0 47) = _; rw [strOf_extract]; rfl) ?_
  refine store_mod (j := 1) hB2' (by decide) (fun w20 hM20 hB20 => ?_)
  have hN20 : Sl w20 1 (some ⟨w4.heap.size, 0, none⟩) 2 2 (strsV sanNm) := (hN5.ext ((hE67.trans hE711).trans hE119)).modS hM20 (fun _ i hi => by
    obtain ⟨ad, e, rfl⟩ := hi
    cases e
    have := hE04.size
    have := hB1.lt
    have := hE24.size
    simp only
    have := hg2.size
    omega)
  have hB4' := (hB4.ext hE1119).mod hM20 (by have := hB1.lt; have := hg2.size; omega)
  refine loadN_blk0 hB20 rfl ?_
  refine loadN_blk0 hB4' rfl ?_
  refine at_buildN gx_ok [fileC ([109], sanM.take 47), fileC ([110], sanN)] rfl rfl rfl rfl rfl ⟨rfl, rfl, rfl, rfl, ⟨⟩⟩ rfl (fun cs h => by simp only [List.mem_cons, List.not_mem_nil, or_false] at h; rcases h with rfl | rfl <;> rfl) rfl (by decide) (by decide) ?_
  intro w21 hE21 hz21 hB21
  have hF21 : SlS fileC 2 w21 (some ⟨w20.heap.size, 0, none⟩) 2 2 sanF2 := ⟨Sl.own (sz := 2) (n := 2) hB21 (Nat.le_refl _) (by decide) (by simp [fileC]), rfl⟩
  refine call (sread_fn sanNm _ 2 2 sanF2 _ 2 2 [109] w21 (hN20.ext hE21) san_nb (by decide) hF21 san_fb2 (by decide) (by decide)) ?_
  rw [san_2]
  rintro _ w22 ⟨hE22, rfl⟩
  have hE2022 := hE21.trans hE22
  refine new (fun w23 hE23 hz23 hB23 => ?_)
  refine new (fun w24 hE24' hz24 hB24 => ?_)
  refine storeN_blk0 (hB23.ext hE24') rfl (sc rfl) (fun w25 hg25 _ hB25 => ?_)
  have hM25 : Mod (· = w22.heap.size) w24 w25 := Mod.of_grown hg25 rfl
  refine storeN_blk0 (hB24.mod hM25 (by omega)) rfl (sc rfl) (fun w26 hg26 _ hB26 => ?_)
  have hM26 : Mod (· = w23.heap.size) w25 w26 := Mod.of_grown hg26 rfl
  have hE2226 : Ext w22 w26 := hM26.ext (hM25.ext (hE23.trans hE24') (fun i hi => by omega)) (fun i hi => by omega)
  have hE2026 := hE2022.trans hE2226
  refine wif_t rfl ?_
  refine wif_t rfl ?_
  refine wif_t rfl ?_
  refine wif_t rfl ?_
  refine wif_t rfl ?_
  refine wif_t rfl ?_
  refine wif_t rfl ?_
  refine wif_t rfl ?_
  refine wif_t rfl ?_
  refine wif_t rfl ?_
  have hO26 : Sl w26 1 O 2 oc (ixV [1, 3]) := (hO.modS hM20 (hO.sep (x := 1) rfl hB2' (file_str _))).ext hE2026
  have hI26 := ((hI11.ext hE119).modT hB2' (file_str _) hM20).ext hE2026
  have hS26 : Blk w26 w7.heap.size 25 [.string (strOf sanG.tx), .slice RA sanG.sg.length rc] := ((hS _ hE119).mod hM20 (by have := hE04.size; have := hE1119.size; have := (hE5.trans hE67).size; have := hB1.lt; have := hg2.size; have := hE24.size; omega)).ext hE2026
  refine index_sl (j := 0) hO26 (by decide) (fun ad u hA' hu hcell => ?_)
  cases hu
  refine load hcell ?_
  refine wif_t rfl ?_
  refine index_sl (j := 1) hO26 (by decide) (fun ad u hA' hu hcell => ?_)
  cases hu
  refine load hcell ?_
  refine wif_t rfl ?_
  refine loadN_blk0 hS26 rfl ?_
  refine call (rsel_fn hI26 1 (by decide)) ?_
  rw [san_s]
  rintro _ w27 ⟨rfl, hE27⟩
  refine wif_t rfl ?_
  refine loadN_blk0 (hB26.ext hE27) rfl ?_
  exact ⟨rfl, ((hM20.ext (hE04.trans hE1119) (fun i hi => by omega)).trans hE2026).trans hE27⟩
end
end
end Go.Proofs.YtedopgkbajhanaaDoor

namespace Go.Proofs.YtedopgkbajhanaaDoor
section
open Go Go.RowKit

set_option maxHeartbeats 800000 in
theorem nesting_law (n : Nat) (w : World) (hn : n ≤ 255) :
    Fn Tryd.prog 3 [.int .u8 n] w (fun v w' => v = .bool true ∧ Ext w w') := by
  refine fn_of_exec (c := { c3 with cuts := [] }) gx_ok Tryd.func3 rfl rfl rfl ?_
  refine call (sanity7_fn w) ?_
  rintro _ w1 ⟨rfl, hE1⟩
  refine norm_i64_to ((n : Nat) : Int) rfl (by omega) ?_
  refine normIf (m := ((n % 8 : Nat) : Int)) (by decide) rfl ?_
  have hn8 : n % 8 < 8 := Nat.mod_lt _ (by decide)
  generalize n % 8 = r at hn8
  refine norm_i64_to ((60 + r : Nat) : Int) (by omega) (by omega) ?_
  obtain ⟨k, hk⟩ : ∃ k, 60 + r = k := ⟨_, rfl⟩
  rw [hk]
  refine loop gx_ok [6, 5] (fun i : Nat => [.int .i64 i, .string (strOf (nestT i))]) (fun i w' => w1 = w' ∧ i ≤ k) (fun i _ => k - i) 0 rfl ⟨rfl, Nat.zero_le _⟩ ?_
  rintro i _ ⟨rfl, hi⟩
  have hli := nest_len i
  have hsi := strOf_size (nestT i)
  refine wif_d (fun c1 => ?_) (fun c1 => ?_)
  · have hs2 := strOf_size (ifT ++ nestT i)
    have hle : (ifT ++ nestT i).length = 9 + (nestT i).length := by rw [List.length_append]; rfl
    refine need_to (v' := .string (strOf (ifT ++ nestT i))) (by rw [hsi, hli]; show 9 + _ ≤ _; unfold maxLen; omega) (by show Value.string (strOf ifT ++ strOf (nestT i)) = _; rw [strOf_append]) ?_
    refine need_to (v' := .string (strOf ((ifT ++ nestT i) ++ endT))) (by rw [hs2, hle, hli]; show _ + 5 ≤ _; unfold maxLen; omega) (by show Value.string (strOf (ifT ++ nestT i) ++ strOf endT) = _; rw [strOf_append]) ?_
    refine norm_i64_to ((i + 1 : Nat) : Int) (by show ((i : Nat) : Int) + 1 = _; omega) (by omega) ?_
    exact ⟨i + 1, rfl, ⟨rfl, by omega⟩, by show k - (i + 1) < k - i; omega⟩
  have hik : i = k := by omega
  subst hik
  refine at_buildN gx_ok [fileC ([109], nestT i), fileC ([110], [120, 10])] rfl rfl rfl rfl rfl ⟨rfl, rfl, rfl, rfl, ⟨⟩⟩ rfl (fun cs h => by simp only [List.mem_cons, List.not_mem_nil, or_false] at h; rcases h with rfl | rfl <;> rfl) rfl (by decide) (by decide) ?_
  intro w2 hE2 hz2 hB2
  have hF2 : SlS fileC 2 w2 (some ⟨w1.heap.size, 0, none⟩) 2 2 (nestF i) := ⟨Sl.own (sz := 2) (n := 2) hB2 (Nat.le_refl _) (by decide) (by simp [fileC]), rfl⟩
  have hfb : ∀ x ∈ nestF i, FileB x := fun x hx => by
    unfold nestF at hx
    rcases List.mem_cons.1 hx with rfl | hx
    · exact ⟨(by show ∀ b ∈ [109], b < 256; decide), nest_8 i, (by show 1 ≤ 9223372036854775807; decide), by show (nestT i).length ≤ _; omega⟩
    · rw [List.mem_singleton.1 hx]
      exact ⟨by decide, by decide, by decide, by decide⟩
  refine call (sread_fn [] none 0 0 (nestF i) _ 2 2 [109] w2 (Sl.nil w2 1) (fun s hs => by cases hs) (by decide) hF2 hfb (by decide) (by decide)) ?_
  intro u w3 hR
  by_cases h64 : i < 64
  · obtain ⟨g, hr, hg⟩ := nest_ok i (by omega) h64
    rw [hr] at hR
    obtain ⟨hE3, _, A, c, L, rfl, hS⟩ := hR
    refine new (fun w4 hE4 hz4 hB4 => ?_)
    refine new (fun w5 hE5 hz5 hB5 => ?_)
    refine storeN_blk0 (hB4.ext hE5) rfl (sc rfl) (fun w6 hg6 _ hB6 => ?_)
    have hM6 : Mod (· = w3.heap.size) w5 w6 := Mod.of_grown hg6 rfl
    refine storeN_blk0 (hB5.mod hM6 (by omega)) rfl (sc rfl) (fun w7 hg7 _ hB7 => ?_)
    have hM7 : Mod (· = w4.heap.size) w6 w7 := Mod.of_grown hg7 rfl
    have hE37 : Ext w3 w7 := hM7.ext (hM6.ext (hE4.trans hE5) (fun i hi => by omega)) (fun i hi => by omega)
    refine wif_dt (by omega) ?_
    refine loadN_blk0 hB7 rfl ?_
    refine wif_t rfl ?_
    refine load_blk0 (hB6.mod hM7 (by omega)) rfl ?_
    refine wif_t (by rw [hg]; rfl) ?_
    exact ⟨rfl, ((hE1.trans hE2).trans hE3).trans hE37⟩
  · have hr := nest_bad i (by omega) (by omega)
    rw [hr] at hR
    obtain ⟨hE3, rfl⟩ := hR
    refine new (fun w4 hE4 hz4 hB4 => ?_)
    refine new (fun w5 hE5 hz5 hB5 => ?_)
    refine storeN_blk0 (hB4.ext hE5) rfl (sc rfl) (fun w6 hg6 _ hB6 => ?_)
    have hM6 : Mod (· = w3.heap.size) w5 w6 := Mod.of_grown hg6 rfl
    refine storeN_blk0 (hB5.mod hM6 (by omega)) rfl (sc rfl) (fun w7 hg7 _ hB7 => ?_)
    have hM7 : Mod (· = w4.heap.size) w6 w7 := Mod.of_grown hg7 rfl
    have hE37 : Ext w3 w7 := hM7.ext (hM6.ext (hE4.trans hE5) (fun i hi => by omega)) (fun i hi => by omega)
    have hB6' := hB6.mod hM7 (by omega)
    refine wif_df (by omega) ?_
    refine loadN_blk0 hB7 rfl ?_
    refine wif_t rfl ?_
    refine load_blk0 hB6' rfl ?_
    refine wif_t rfl ?_
    refine load_blk hB6' rfl ?_
    refine wif_t rfl ?_
    exact ⟨rfl, ((hE1.trans hE2).trans hE3).trans hE37⟩
end
end Go.Proofs.YtedopgkbajhanaaDoor

namespace Go.Proofs.YtedopgkbajhanaaDoor
section
open Go Go.RowKit Go.ChangeShapes

variable {H : Type} {enc : TypeId × Value → H}

theorem law_of {P : Program} {f : FuncId} {l : List Value} {w : World} (h : Fn P f l w (fun v w' => v = .bool true ∧ Ext w w')) :
    Calls P f l.toArray w fun e w' => e = .returned (.bool true) ∧ Below w.heap.size w w' := by
  unfold Fn at h
  exact h.mono fun e w' he => by
    cases e with
    | returned v => exact ⟨by rw [he.1], he.2.below⟩
    | panicked ch => exact he.elim
    | outgrown => exact he.elim

theorem u8_of {a : Int} (w : (Lit.int .u8 a).wf = true) : ∃ n : Nat, a = n ∧ n ≤ 255 := by
  simp [Lit.wf, IntKind.min, IntKind.max, IntKind.signed, IntKind.bits] at w
  exact ⟨a.toNat, by omega, by omega⟩
end
end Go.Proofs.YtedopgkbajhanaaDoor
