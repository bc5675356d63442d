/-
  Diagrams: what they mean; valid diagrams with the same meaning are the same.
  Operations on diagrams (the reference's): what they mean, how much they make.
  Conditions: none.
-/
import Derived.Test.YtedopgkbajhanaaGreatDoorKe
import Derived.Test.YtedopgkbajhanaaGreatDoorKg
namespace Go.Proofs.YtedopgkbajhanaaGreatDoor
section
open Go Go.RowKit

/-! ### Canonical diagrams -/
/-- The value of a number in a configuration. -/
def evD (nd : List Br) : Nat → Int → (Nat → Bool) → Bool
  | 0, n, _ => decide (n = 1)
  | m + 1, n, e => if n < 2 then decide (n = 1) else match nd[(n - 2).toNat]? with
    | none => false
    | some b => if e b.v.toNat then evD nd m b.h e else evD nd m b.l e
/-- The value, with as much fuel as the number asks. -/
def ev (nd : List Br) (n : Int) (e : Nat → Bool) : Bool := evD nd n.toNat n e
theorem evD_lt {nd : List Br} {m : Nat} {n : Int} {e : Nat → Bool} (h : n < 2) : evD nd m n e = decide (n = 1) := by
  cases m with
  | zero => rfl
  | succ m => rw [evD, if_pos h]
theorem evD_fuel {nd : List Br} (hw : WfB nd) : ∀ (m m' : Nat) (n : Int) (e : Nat → Bool), n ≤ m → n ≤ m' → evD nd m n e = evD nd m' n e
  | 0, m', n, e, h, _ => by rw [evD_lt (by omega), evD_lt (by omega)]
  | m + 1, 0, n, e, _, h => by rw [evD_lt (by omega), evD_lt (by omega)]
  | m + 1, m' + 1, n, e, h, h' => by
    by_cases hn : n < 2
    · rw [evD_lt hn, evD_lt hn]
    · rw [evD, evD, if_neg hn, if_neg hn]
      cases hb : nd[(n - 2).toNat]? with
      | none => rfl
      | some b =>
        obtain ⟨h1, h2, h3, h4⟩ := hw _ _ hb
        simp only
        rw [evD_fuel hw m m' b.h e (by omega) (by omega), evD_fuel hw m m' b.l e (by omega) (by omega)]
theorem ev_lt {nd : List Br} {n : Int} {e : Nat → Bool} (h : n < 2) : ev nd n e = decide (n = 1) := evD_lt h
theorem ev_ge {nd : List Br} (hw : WfB nd) {n : Int} {e : Nat → Bool} {b : Br} (h : ¬ n < 2) (hb : nd[(n - 2).toNat]? = some b) : ev nd n e = if e b.v.toNat then ev nd b.h e else ev nd b.l e := by
  obtain ⟨h1, h2, h3, h4⟩ := hw _ _ hb
  unfold ev
  obtain ⟨k, hk⟩ : ∃ k, n.toNat = k + 1 := ⟨n.toNat - 1, by omega⟩
  rw [hk, evD, if_neg h, hb]
  simp only
  rw [evD_fuel hw k b.h.toNat b.h e (by omega) (by omega), evD_fuel hw k b.l.toNat b.l e (by omega) (by omega)]

/-- Branches in order, each once, none of them idle. -/
def Rd0 (nd : List Br) : Prop := ∀ (j : Nat) (b : Br), nd[j]? = some b → brOk nd j b
theorem Rd0.wf {nd : List Br} (h : Rd0 nd) : WfB nd := fun j x hx => by
  obtain ⟨_, _, h1, h2, h3, h4, _⟩ := h j x hx
  exact ⟨h1, h2, h3, h4⟩
theorem VD.rd0 {nd : List Br} {r : Int} (h : VD nd r) : Rd0 nd := h.1
theorem lvl_some {nd : List Br} {n : Int} {b : Br} (h : ¬ n < 2) (hb : nd[(n - 2).toNat]? = some b) : lvlD nd n = b.v := by unfold lvlD; rw [if_neg h, hb]; rfl
def upd (e : Nat → Bool) (v : Nat) (x : Bool) : Nat → Bool := fun k => if k = v then x else e k
theorem getE {nd : List Br} {n : Int} (h : ¬ n < 2) (hn : n < nd.length + 2) : ∃ b, nd[(n - 2).toNat]? = some b := ⟨_, List.getElem?_eq_getElem (by omega)⟩
/-- A number does not depend on conditions before its own. -/
theorem ev_upd {nd : List Br} (h : Rd0 nd) (v : Nat) (x : Bool) (e : Nat → Bool) : ∀ (m : Nat) (n : Int), n.toNat < m → n < nd.length + 2 → (v : Int) < lvlD nd n → ev nd n (upd e v x) = ev nd n e
  | 0, n, hm, _, _ => by omega
  | m + 1, n, hm, hn, hv => by
    by_cases h2 : n < 2
    · rw [ev_lt h2, ev_lt h2]
    obtain ⟨b, hb⟩ := getE h2 hn
    obtain ⟨b1, b2, b3, b4, b5, b6, b7, b8, b9, b10⟩ := h _ _ hb
    rw [lvl_some h2 hb] at hv
    rw [ev_ge h.wf h2 hb, ev_ge h.wf h2 hb, ev_upd h v x e m b.h (by omega) (by omega) (by omega), ev_upd h v x e m b.l (by omega) (by omega) (by omega)]
    have : upd e v x b.v.toNat = e b.v.toNat := by unfold upd; rw [if_neg (by omega)]
    rw [this]

/-- Two numbers mean the same. -/
def Eqv (nd : List Br) (n : Int) (nd' : List Br) (n' : Int) : Prop := ∀ e, ev nd n e = ev nd' n' e
theorem Eqv.symm {nd nd' : List Br} {n n' : Int} (h : Eqv nd n nd' n') : Eqv nd' n' nd n := fun e => (h e).symm
theorem Eqv.trans {nd nd' nd2 : List Br} {n n' n2 : Int} (h : Eqv nd n nd' n') (k : Eqv nd' n' nd2 n2) : Eqv nd n nd2 n2 := fun e => (h e).trans (k e)
/-- Different numbers below a bound mean different sets. -/
def Inj (nd : List Br) (m : Nat) : Prop := ∀ (n n' : Int), 0 ≤ n → 0 ≤ n' → n < m → n' < m → n < nd.length + 2 → n' < nd.length + 2 → Eqv nd n nd n' → n = n'

theorem ev_hi {nd : List Br} (h : Rd0 nd) {n : Int} {b : Br} (h2 : ¬ n < 2) (hb : nd[(n - 2).toNat]? = some b) (hn : n < nd.length + 2) (e : Nat → Bool) : ev nd n (upd e b.v.toNat true) = ev nd b.h e ∧ ev nd n (upd e b.v.toNat false) = ev nd b.l e := by
  obtain ⟨b1, b2, b3, b4, b5, b6, b7, b8, b9, b10⟩ := h _ _ hb
  have e1 : upd e b.v.toNat true b.v.toNat = true := by unfold upd; rw [if_pos rfl]
  have e2 : upd e b.v.toNat false b.v.toNat = false := by unfold upd; rw [if_pos rfl]
  rw [ev_ge h.wf h2 hb, ev_ge h.wf h2 hb, e1, e2, if_pos rfl, if_neg (by decide)]
  exact ⟨ev_upd h _ _ _ (b.h.toNat + 1) _ (by omega) (by omega) (by omega), ev_upd h _ _ _ (b.l.toNat + 1) _ (by omega) (by omega) (by omega)⟩

/-- A branch depends on its condition. -/
theorem dep {nd : List Br} (h : Rd0 nd) {n : Int} {m : Nat} {b : Br} (hi : Inj nd m) (h2 : ¬ n < 2) (hb : nd[(n - 2).toNat]? = some b) (hn : n < nd.length + 2) (hm : n ≤ m) : ∃ e, ev nd n (upd e b.v.toNat true) ≠ ev nd n (upd e b.v.toNat false) := by
  obtain ⟨b1, b2, b3, b4, b5, b6, b7, b8, b9, b10⟩ := h _ _ hb
  refine Classical.byContradiction (fun hne => b7 ?_)
  refine hi b.l b.h b3 b5 (by omega) (by omega) (by omega) (by omega) (fun e => ?_)
  have := ev_hi h h2 hb hn e
  rw [← this.1, ← this.2]
  refine Classical.byContradiction (fun hh => hne ⟨e, fun h3 => hh h3.symm⟩)

theorem eqv_const {nd nd' : List Br} (h : Rd0 nd) {n n' : Int} {m : Nat} (hi : Inj nd m) (hm : n ≤ m) (hn : n < nd.length + 2) (h2 : n' < 2) (k : Eqv nd n nd' n') : n < 2 := by
  refine Classical.byContradiction (fun hh => ?_)
  obtain ⟨b, hb⟩ := getE hh hn
  obtain ⟨e, he⟩ := dep h hi hh hb hn hm
  apply he
  rw [k, k, ev_lt h2, ev_lt h2]
theorem eqv_lvl {nd nd' : List Br} (h : Rd0 nd) (h' : Rd0 nd') {n n' : Int} {m : Nat} {b b' : Br} (hi : Inj nd m) (hm : n ≤ m) (hn : n < nd.length + 2) (hn' : n' < nd'.length + 2) (h2 : ¬ n < 2) (h2' : ¬ n' < 2) (hb : nd[(n - 2).toNat]? = some b) (hb' : nd'[(n' - 2).toNat]? = some b') (k : Eqv nd n nd' n') : b'.v ≤ b.v := by
  refine Classical.byContradiction (fun hh => ?_)
  obtain ⟨e, he⟩ := dep h hi h2 hb hn hm
  apply he
  obtain ⟨b1, _⟩ := h _ _ hb
  rw [k, k, ev_upd h' _ _ _ (n'.toNat + 1) _ (by omega) hn' (by rw [lvl_some h2' hb']; omega), ev_upd h' _ _ _ (n'.toNat + 1) _ (by omega) hn' (by rw [lvl_some h2' hb']; omega)]
theorem eqv_kids {nd nd' : List Br} (h : Rd0 nd) (h' : Rd0 nd') {n n' : Int} {b b' : Br} (hn : n < nd.length + 2) (hn' : n' < nd'.length + 2) (h2 : ¬ n < 2) (h2' : ¬ n' < 2) (hb : nd[(n - 2).toNat]? = some b) (hb' : nd'[(n' - 2).toNat]? = some b') (k : Eqv nd n nd' n') (hv : b.v = b'.v) : Eqv nd b.l nd' b'.l ∧ Eqv nd b.h nd' b'.h := by
  refine ⟨fun e => ?_, fun e => ?_⟩
  · rw [← (ev_hi h h2 hb hn e).2, ← (ev_hi h' h2' hb' hn' e).2, k, hv]
  · rw [← (ev_hi h h2 hb hn e).1, ← (ev_hi h' h2' hb' hn' e).1, k, hv]

theorem inj_all {nd : List Br} (h : Rd0 nd) : ∀ m, Inj nd m
  | 0 => fun n n' h0 _ hm _ _ _ _ => by omega
  | m + 1 => fun n n' h0 h0' hm hm' hn hn' k => by
    have ih := inj_all h m
    by_cases h2 : n < 2
    · have h2' : n' < 2 := eqv_const h ih (by omega) hn' h2 k.symm
      have := k (fun _ => true)
      rw [ev_lt h2, ev_lt h2', decide_eq_decide] at this
      omega
    by_cases h2' : n' < 2
    · exact absurd (eqv_const h ih (by omega) hn h2' k) h2
    obtain ⟨b, hb⟩ := getE h2 hn
    obtain ⟨b', hb'⟩ := getE h2' hn'
    have hv : b.v = b'.v := Int.le_antisymm (eqv_lvl h h ih (by omega) hn' hn h2' h2 hb' hb k.symm) (eqv_lvl h h ih (by omega) hn hn' h2 h2' hb hb' k)
    obtain ⟨k1, k2⟩ := eqv_kids h h hn hn' h2 h2' hb hb' k hv
    obtain ⟨b1, b2, b3, b4, b5, b6, b7, b8, b9, b10⟩ := h _ _ hb
    obtain ⟨c1, c2, c3, c4, c5, c6, c7, c8, c9, c10⟩ := h _ _ hb'
    have el := ih b.l b'.l b3 c3 (by omega) (by omega) (by omega) (by omega) k1
    have eh := ih b.h b'.h b5 c5 (by omega) (by omega) (by omega) (by omega) k2
    have ebb : b = b' := by cases b; cases b'; simp_all
    subst ebb
    rcases Int.lt_trichotomy n n' with hlt | heq | hgt
    · exact absurd (List.mem_of_getElem? (i := (n - 2).toNat) (by rw [List.getElem?_take_of_lt (by omega)]; exact hb)) c8
    · exact heq
    · exact absurd (List.mem_of_getElem? (i := (n' - 2).toNat) (by rw [List.getElem?_take_of_lt (by omega)]; exact hb')) b8
theorem inj {nd : List Br} (h : Rd0 nd) {n n' : Int} (h0 : 0 ≤ n) (h0' : 0 ≤ n') (hn : n < nd.length + 2) (hn' : n' < nd.length + 2) (k : Eqv nd n nd n') : n = n' :=
  inj_all h (nd.length + 2) n n' h0 h0' (by omega) (by omega) hn hn' k

/-- Both walks stand at the same place. -/
structure Twin (nd nd' : List Br) (st st' : List Br × List Nat) : Prop where
  out : st.1 = st'.1
  len : st.2.length = nd.length
  len' : st'.2.length = nd'.length
  num : ∀ (n n' : Int), ¬ n < 2 → ¬ n' < 2 → n < nd.length + 2 → n' < nd'.length + 2 → Eqv nd n nd' n' → st.2[(n - 2).toNat]? = st'.2[(n' - 2).toNat]?

theorem twin_walk {nd nd' : List Br} (h : Rd0 nd) (h' : Rd0 nd') : ∀ (m m' : Nat) (n n' : Int) (st st' : List Br × List Nat), 0 ≤ n → 0 ≤ n' → n < m → n' < m' → n < nd.length + 2 → n' < nd'.length + 2 → Eqv nd n nd' n' → Twin nd nd' st st' →
    (vis nd m n st).1 = (vis nd' m' n' st').1 ∧ Twin nd nd' (vis nd m n st).2 (vis nd' m' n' st').2
  | 0, m', n, n', st, st', h0, _, hm, _, _, _, _, _ => by omega
  | m + 1, 0, n, n', st, st', _, h0, _, hm, _, _, _, _ => by omega
  | m + 1, m' + 1, n, n', st, st', h0, h0', hm, hm', hn, hn', k, T => by
    have I := inj_all h (nd.length + 2)
    have I' := inj_all h' (nd'.length + 2)
    by_cases h2 : n < 2
    · have h2' : n' < 2 := eqv_const h' I' (by omega) hn' h2 k.symm
      rw [vis_lt h2, vis_lt h2']
      have := k (fun _ => true)
      rw [ev_lt h2, ev_lt h2', decide_eq_decide] at this
      exact ⟨by simp only; omega, T⟩
    have h2' : ¬ n' < 2 := fun hh => h2 (eqv_const h I (by omega) hn hh k)
    obtain ⟨b, hb⟩ := getE h2 hn
    obtain ⟨b', hb'⟩ := getE h2' hn'
    have hnum := T.num n n' h2 h2' hn hn' k
    by_cases h3 : 0 < st.2[(n - 2).toNat]?.getD 0
    · rw [vis_old h2 h3, vis_old h2' (by rw [← hnum]; exact h3)]
      exact ⟨by simp only; rw [hnum], T⟩
    have h3' : ¬ 0 < st'.2[(n' - 2).toNat]?.getD 0 := by rw [← hnum]; exact h3
    have hv : b.v = b'.v := Int.le_antisymm (eqv_lvl h' h I' (by omega) hn' hn h2' h2 hb' hb k.symm) (eqv_lvl h h' I (by omega) hn hn' h2 h2' hb hb' k)
    obtain ⟨k1, k2⟩ := eqv_kids h h' hn hn' h2 h2' hb hb' k hv
    obtain ⟨b1, b2, b3, b4, b5, b6, b7, b8, b9, b10⟩ := h _ _ hb
    obtain ⟨c1, c2, c3, c4, c5, c6, c7, c8, c9, c10⟩ := h' _ _ hb'
    rw [vis_new h2 h3 hb, vis_new h2' h3' hb']
    obtain ⟨e1, T1⟩ := twin_walk h h' m m' b.l b'.l st st' b3 c3 (by omega) (by omega) (by omega) (by omega) k1 T
    generalize (vis nd m b.l st) = p at *
    generalize (vis nd' m' b'.l st') = p' at *
    obtain ⟨e2, T2⟩ := twin_walk h h' m m' b.h b'.h p.2 p'.2 b5 c5 (by omega) (by omega) (by omega) (by omega) k2 T1
    generalize (vis nd m b.h p.2) = q at *
    generalize (vis nd' m' b'.h p'.2) = q' at *
    have hout := T2.out
    refine ⟨by simp only; rw [hout], by simp only; rw [hout, hv, e1, e2], by rw [List.length_set]; exact T2.len, by rw [List.length_set]; exact T2.len', fun i i' j2 j2' hi hi' kk => ?_⟩
    have l1 := T2.len
    have l2 := T2.len'
    by_cases hin : i = n
    · subst hin
      have : i' = n' := inj h' (by omega) h0' hi' hn' (kk.symm.trans k)
      subst this
      simp only
      rw [List.getElem?_set_self (by omega), List.getElem?_set_self (by omega), hout]
    · have hin' : i' ≠ n' := fun e => by
        subst e
        exact hin (inj h (by omega) h0 hi hn (kk.trans k.symm))
      simp only
      rw [List.getElem?_set_ne (by omega), List.getElem?_set_ne (by omega)]
      exact T2.num i i' j2 j2' hi hi' kk

theorem twin_start (nd nd' : List Br) : Twin nd nd' ([], List.replicate nd.length 0) ([], List.replicate nd'.length 0) :=
  ⟨rfl, by simp, by simp, fun n n' h2 h2' hn hn' _ => by simp only; rw [List.getElem?_replicate_of_lt (by omega), List.getElem?_replicate_of_lt (by omega)]⟩
theorem numbered_eqv {nd nd' : List Br} (h : Rd0 nd) (h' : Rd0 nd') {n n' : Int} (h0 : 0 ≤ n) (h0' : 0 ≤ n') (hn : n < nd.length + 2) (hn' : n' < nd'.length + 2) (k : Eqv nd n nd' n') : numberedD nd n = numberedD nd' n' := by
  obtain ⟨e, T⟩ := twin_walk h h' (n.toNat + 1) (n'.toNat + 1) n n' _ _ h0 h0' (by omega) (by omega) hn hn' k (twin_start nd nd')
  unfold numberedD
  simp only
  rw [e, T.out]
/-- Valid diagrams that mean the same are the same. -/
theorem VD.eqv {nd nd' : List Br} {r r' : Int} (h : VD nd r) (h' : VD nd' r') (k : Eqv nd r nd' r') : (nd, r) = (nd', r') := by
  rw [← h.2.2.2, ← h'.2.2.2]
  exact numbered_eqv h.1 h'.1 h.2.1 h'.2.1 h.2.2.1 h'.2.2.1 k

theorem evD_app {nd : List Br} (hw : WfB nd) (l : List Br) : ∀ (m : Nat) (n : Int) (e : Nat → Bool), n < nd.length + 2 → evD (nd ++ l) m n e = evD nd m n e
  | 0, n, e, _ => rfl
  | m + 1, n, e, hn => by
    by_cases h2 : n < 2
    · rw [evD_lt h2, evD_lt h2]
    · obtain ⟨b, hb⟩ := getE h2 hn
      obtain ⟨h1, h2', h3, h4⟩ := hw _ _ hb
      rw [evD, evD, if_neg h2, if_neg h2, List.getElem?_append_left (by omega), hb]
      simp only
      rw [evD_app hw l m b.h e (by omega), evD_app hw l m b.l e (by omega)]
theorem ev_app {nd : List Br} (hw : WfB nd) (l : List Br) {n : Int} (hn : n < nd.length + 2) (e : Nat → Bool) : ev (nd ++ l) n e = ev nd n e := evD_app hw l _ n e hn
theorem lvl_app {nd : List Br} (l : List Br) {n : Int} (hn : n < nd.length + 2) : lvlD (nd ++ l) n = lvlD nd n := by
  unfold lvlD
  by_cases h2 : n < 2
  · rw [if_pos h2, if_pos h2]
  · rw [if_neg h2, if_neg h2, List.getElem?_append_left (by omega)]
theorem lvl_one {nd : List Br} {n : Int} (h : n < 2) : lvlD nd n = 64 := if_pos h
theorem lvl_eqv {nd nd' : List Br} (h : Rd0 nd) (h' : Rd0 nd') {n n' : Int} (hn : n < nd.length + 2) (hn' : n' < nd'.length + 2) (k : Eqv nd n nd' n') : lvlD nd n = lvlD nd' n' := by
  have I := inj_all h (nd.length + 2)
  have I' := inj_all h' (nd'.length + 2)
  by_cases h2 : n < 2
  · rw [lvl_one h2, lvl_one (eqv_const h' I' (by omega) hn' h2 k.symm)]
  have h2' : ¬ n' < 2 := fun hh => h2 (eqv_const h I (by omega) hn hh k)
  obtain ⟨b, hb⟩ := getE h2 hn
  obtain ⟨b', hb'⟩ := getE h2' hn'
  rw [lvl_some h2 hb, lvl_some h2' hb']
  exact Int.le_antisymm (eqv_lvl h' h I' (by omega) hn' hn h2' h2 hb' hb k.symm) (eqv_lvl h h' I (by omega) hn hn' h2 h2' hb hb' k)
theorem Rd0.snoc {nd : List Br} (h : Rd0 nd) {b : Br} (hb : brOk (nd ++ [b]) nd.length b) : Rd0 (nd ++ [b]) := by
  intro j x hx
  by_cases hj : j < nd.length
  · rw [List.getElem?_append_left hj] at hx
    obtain ⟨b1, b2, b3, b4, b5, b6, b7, b8, b9, b10⟩ := h _ _ hx
    exact ⟨b1, b2, b3, b4, b5, b6, b7, by rw [List.take_append_of_le_length (by omega)]; exact b8, by rw [lvl_app _ (by omega)]; exact b9, by rw [lvl_app _ (by omega)]; exact b10⟩
  · have hl := (List.getElem?_eq_some_iff.1 hx).1
    simp at hl
    have : j = nd.length := by omega
    subst this
    rw [List.getElem?_append_right (Nat.le_refl _)] at hx
    simp at hx
    subst hx
    exact hb
theorem snoc_ok {nd : List Br} {b : Br} (b1 : 0 ≤ b.v) (b2 : b.v ≤ 63) (b3 : 0 ≤ b.l) (b4 : b.l < nd.length + 2) (b5 : 0 ≤ b.h) (b6 : b.h < nd.length + 2) (b7 : b.l ≠ b.h) (b8 : b ∉ nd) (b9 : b.v < lvlD nd b.l) (b10 : b.v < lvlD nd b.h) : brOk (nd ++ [b]) nd.length b :=
  ⟨b1, b2, b3, b4, b5, b6, b7, by rw [List.take_append_of_le_length (Nat.le_refl _), List.take_length]; exact b8, by rw [lvl_app _ b4]; exact b9, by rw [lvl_app _ b6]; exact b10⟩

/-- What a walk has put out so far. -/
structure Wi (nd : List Br) (st : List Br × List Nat) : Prop where
  rd : Rd0 st.1
  len : st.2.length = nd.length
  num : ∀ k m : Nat, st.2[k]? = some m → 0 < m → 2 ≤ m ∧ m < st.1.length + 2 ∧ Eqv st.1 (m : Int) nd ((k : Int) + 2)
  sur : ∀ j : Nat, j < st.1.length → ∃ k : Nat, st.2[k]? = some (j + 2)

theorem Wi.start (nd : List Br) : Wi nd ([], List.replicate nd.length 0) :=
  ⟨fun j b hb => by simp at hb, by simp, fun k m hk hm => by
    have := List.eq_of_mem_replicate (List.mem_of_getElem? hk); omega, fun j hj => by simp at hj⟩

theorem walk_wi {nd : List Br} (h : Rd0 nd) : ∀ (m : Nat) (n : Int) (st : List Br × List Nat), 0 ≤ n → n < m → n < nd.length + 2 → Wi nd st →
    Wi nd (vis nd m n st).2 ∧ 0 ≤ (vis nd m n st).1 ∧ (vis nd m n st).1 < (vis nd m n st).2.1.length + 2 ∧ Eqv (vis nd m n st).2.1 (vis nd m n st).1 nd n ∧ ∃ l, (vis nd m n st).2.1 = st.1 ++ l
  | 0, n, st, h0, hm, _, _ => by omega
  | m + 1, n, st, h0, hm, hn, W => by
    by_cases h2 : n < 2
    · rw [vis_lt h2]
      exact ⟨W, h0, by simp only; omega, fun e => by rw [ev_lt h2, ev_lt h2], [], by simp⟩
    have hlt : (n - 2).toNat < st.2.length := by have := W.len; omega
    by_cases h3 : 0 < st.2[(n - 2).toNat]?.getD 0
    · rw [vis_old h2 h3]
      have hg := List.getElem?_eq_getElem hlt
      rw [hg] at h3 ⊢
      simp only [Option.getD_some] at h3 ⊢
      obtain ⟨q1, q2, q3⟩ := W.num _ _ hg h3
      have en : (((n - 2).toNat : Nat) : Int) + 2 = n := by omega
      rw [en] at q3
      exact ⟨W, by omega, by omega, q3, [], by simp⟩
    obtain ⟨b, hb⟩ := getE h2 hn
    obtain ⟨b1, b2, b3, b4, b5, b6, b7, b8, b9, b10⟩ := h _ _ hb
    have f1 := vis_facts h.wf m b.l st b3 (by omega) (by omega) W.len
    rw [vis_new h2 h3 hb]
    obtain ⟨W1, p1, p2, p3, l1, p4⟩ := walk_wi h m b.l st b3 (by omega) (by omega) W
    generalize (vis nd m b.l st) = p at *
    have f2 := vis_facts h.wf m b.h p.2 b5 (by omega) (by omega) W1.len
    obtain ⟨W2, q1, q2, q3, l2, q4⟩ := walk_wi h m b.h p.2 b5 (by omega) (by omega) W1
    generalize (vis nd m b.h p.2) = q at *
    have hz : q.2.2[(n - 2).toNat]? = some 0 := by
      rw [f2.keep _ (by omega), f1.keep _ (by omega)]
      have hg := List.getElem?_eq_getElem hlt
      rw [hg] at h3 ⊢
      simp only [Option.getD_some] at h3
      congr 1; omega
    have hR := W2.rd
    have p2' : p.1 < q.2.1.length + 2 := by rw [q4, List.length_append]; omega
    have p3' : Eqv q.2.1 p.1 nd b.l := fun e => by rw [q4, ev_app W1.rd.wf l2 p2]; exact p3 e
    have hne : p.1 ≠ q.1 := fun e => b7 (inj h b3 b5 (by omega) (by omega) (p3'.symm.trans (by rw [e]; exact q3)))
    have hl1 := lvl_eqv hR h p2' (by omega) p3'
    have hl2 := lvl_eqv hR h q2 (by omega) q3
    -- the new branch means n
    have mean : ∀ nd2, Rd0 nd2 → ∀ (i : Int), ¬ i < 2 → nd2[(i - 2).toNat]? = some ⟨b.v, p.1, q.1⟩ → (∀ e, ev nd2 p.1 e = ev q.2.1 p.1 e) → (∀ e, ev nd2 q.1 e = ev q.2.1 q.1 e) → Eqv nd2 i nd n := fun nd2 hR2 i hi hx u1 u2 e => by
      rw [ev_ge hR2.wf hi hx, ev_ge h.wf h2 hb]
      simp only
      rw [u1, u2, p3' e, q3 e]
    have hnot : (⟨b.v, p.1, q.1⟩ : Br) ∉ q.2.1 := fun hin => by
      obtain ⟨j, hj, hjx⟩ := List.mem_iff_getElem.1 hin
      obtain ⟨k, hk⟩ := W2.sur j hj
      obtain ⟨_, _, r3⟩ := W2.num k _ hk (by omega)
      have hm2 := mean q.2.1 hR ((j + 2 : Nat) : Int) (by omega) (by rw [show (((j + 2 : Nat) : Int) - 2).toNat = j by omega, List.getElem?_eq_getElem hj, hjx]) (fun _ => rfl) (fun _ => rfl)
      have hk2 := (List.getElem?_eq_some_iff.1 hk).1
      have hlen2 := W2.len
      have := inj h (n := (k : Int) + 2) (n' := n) (by omega) h0 (by omega) hn (r3.symm.trans hm2)
      have hkn : (n - 2).toNat = k := by omega
      rw [hkn, hk] at hz
      cases hz
    have hR3 : Rd0 (q.2.1 ++ [⟨b.v, p.1, q.1⟩]) := hR.snoc (snoc_ok b1 b2 p1 p2' q1 q2 hne hnot (by rw [hl1]; exact b9) (by rw [hl2]; exact b10))
    have hnew : Eqv (q.2.1 ++ [⟨b.v, p.1, q.1⟩]) ((q.2.1.length + 2 : Nat) : Int) nd n := mean _ hR3 _ (by omega) (by
      rw [show (((q.2.1.length + 2 : Nat) : Int) - 2).toNat = q.2.1.length by omega, List.getElem?_append_right (Nat.le_refl _)]; simp) (fun e => ev_app hR.wf _ p2' e) (fun e => ev_app hR.wf _ q2 e)
    refine ⟨⟨hR3, by rw [List.length_set]; exact W2.len, fun k mm hk hmm => ?_, fun j hj => ?_⟩, by omega, by simp only [List.length_append, List.length_cons, List.length_nil]; omega, hnew, l1 ++ (l2 ++ [⟨b.v, p.1, q.1⟩]), by simp only; rw [q4, p4]; simp⟩
    · simp only at hk ⊢
      by_cases hkn : (n - 2).toNat = k
      · subst hkn
        rw [List.getElem?_set_self (by have := W2.len; omega)] at hk
        cases hk
        refine ⟨by omega, by simp, ?_⟩
        rw [show (((n - 2).toNat : Nat) : Int) + 2 = n by omega]
        exact hnew
      · rw [List.getElem?_set_ne hkn] at hk
        obtain ⟨r1, r2, r3⟩ := W2.num k mm hk hmm
        exact ⟨r1, by simp; omega, fun e => by rw [ev_app hR.wf _ (by omega)]; exact r3 e⟩
    · simp only [List.length_append, List.length_cons, List.length_nil] at hj
      by_cases hjl : j < q.2.1.length
      · obtain ⟨k, hk⟩ := W2.sur j hjl
        refine ⟨k, ?_⟩
        simp only
        rw [List.getElem?_set_ne (fun e => by rw [e, hk] at hz; cases hz)]
        exact hk
      · have : j = q.2.1.length := by omega
        subst this
        exact ⟨(n - 2).toNat, by simp only; rw [List.getElem?_set_self (by have := W2.len; omega)]⟩

theorem numbered_vd {nd : List Br} (h : Rd0 nd) {r : Int} (h0 : 0 ≤ r) (hr : r < nd.length + 2) : VD (numberedD nd r).1 (numberedD nd r).2 ∧ Eqv (numberedD nd r).1 (numberedD nd r).2 nd r ∧ (numberedD nd r).1.length ≤ nd.length := by
  obtain ⟨W, w1, w2, w3, _⟩ := walk_wi h (r.toNat + 1) r _ h0 (by omega) hr (Wi.start nd)
  have f := (vis_facts h.wf (r.toNat + 1) r _ h0 (by omega) hr (Wi.start nd).len).cnt
  have e1 : (numberedD nd r).1 = (vis nd (r.toNat + 1) r ([], List.replicate nd.length 0)).2.1 := rfl
  have e2 : (numberedD nd r).2 = (vis nd (r.toNat + 1) r ([], List.replicate nd.length 0)).1 := rfl
  rw [← e1] at w3 w2 f
  rw [← e2] at w3 w2 w1
  have hR : Rd0 (numberedD nd r).1 := W.rd
  refine ⟨⟨hR, w1, w2, ?_⟩, w3, ?_⟩
  · rw [numbered_eqv hR h w1 h0 w2 hr w3]
  · have := List.count_le_length (a := 0) (l := List.replicate nd.length 0)
    simp at this f
    omega
end

section
open Go Go.RowKit

/-! ### Operations on diagrams, what they mean -/
theorem fstIdx_get {b : Br} : ∀ {l : List Br} {i : Nat}, fstIdx b l = some i → l[i]? = some b
  | [], i, h => by cases h
  | x :: l, i, h => by
    unfold fstIdx at h
    split at h
    · rename_i hx; cases h; simp [hx]
    · cases hf : fstIdx b l with
      | none => rw [hf] at h; cases h
      | some k => rw [hf] at h; cases h; simpa using fstIdx_get hf
theorem fstIdx_not {b : Br} : ∀ {l : List Br}, fstIdx b l = none → b ∉ l
  | [], _ => by simp
  | x :: l, h => by
    unfold fstIdx at h
    split at h
    · cases h
    · rename_i hx
      cases hf : fstIdx b l with
      | some k => rw [hf] at h; cases h
      | none => simp only [List.mem_cons, not_or]; exact ⟨fun e => hx e.symm, fstIdx_not hf⟩

/-- What making a branch unique yields. -/
structure UniqOk (nd : List Br) (b : Br) (r : List Br × Int) : Prop where
  rd : Rd0 r.1
  pos : 0 ≤ r.2
  lt : r.2 < r.1.length + 2
  mean : ∀ e, ev r.1 r.2 e = if e b.v.toNat then ev nd b.h e else ev nd b.l e
  lvl : b.v ≤ lvlD r.1 r.2
  ext : ∃ l, r.1 = nd ++ l
theorem uniq_step {nd : List Br} (h : Rd0 nd) {b : Br} (b1 : 0 ≤ b.v) (b2 : b.v ≤ 63) (b3 : 0 ≤ b.l) (b4 : b.l < nd.length + 2) (b5 : 0 ≤ b.h) (b6 : b.h < nd.length + 2) (b9 : b.v < lvlD nd b.l) (b10 : b.v < lvlD nd b.h) : UniqOk nd b (uniqD b nd) := by
  unfold uniqD
  split
  · rename_i he
    exact ⟨h, b3, b4, fun e => by simp only; rw [← he]; split <;> rfl, by simp only; omega, [], by simp⟩
  · rename_i hne
    split
    · rename_i i hi
      have hx := fstIdx_get hi
      have hlt := (List.getElem?_eq_some_iff.1 hx).1
      have hx' : nd[(((i + 2 : Nat) : Int) - 2).toNat]? = some b := by rw [show (((i + 2 : Nat) : Int) - 2).toNat = i by omega]; exact hx
      have h2 : ¬ (((i + 2 : Nat) : Int) < 2) := by omega
      exact ⟨h, by simp only; omega, by simp only; omega, fun e => ev_ge h.wf h2 hx', by simp only; rw [lvl_some h2 hx']; exact Int.le_refl _, [], by simp⟩
    · rename_i hn
      have hok := snoc_ok b1 b2 b3 b4 b5 b6 hne (fstIdx_not hn) b9 b10
      have hR := h.snoc hok
      have hx' : (nd ++ [b])[(((nd.length + 2 : Nat) : Int) - 2).toNat]? = some b := by
        rw [show (((nd.length + 2 : Nat) : Int) - 2).toNat = nd.length by omega, List.getElem?_append_right (Nat.le_refl _)]; simp
      have h2 : ¬ (((nd.length + 2 : Nat) : Int) < 2) := by omega
      exact ⟨hR, by simp only; omega, by simp only [List.length_append, List.length_cons, List.length_nil]; omega, fun e => by simp only; rw [ev_ge hR.wf h2 hx', ev_app h.wf _ b6, ev_app h.wf _ b4], by simp only; rw [lvl_some h2 hx']; exact Int.le_refl _, [b], rfl⟩

theorem Rd0.dok {nd : List Br} (h : Rd0 nd) : DOk nd := ⟨h.wf, fun j b hb => ⟨(h j b hb).1, (h j b hb).2.1⟩⟩
theorem Rd0.grow {nd : List Br} {l : List Br} (hw : WfB nd) {n : Int} (hn : n < nd.length + 2) (e : Nat → Bool) : ev (nd ++ l) n e = ev nd n e := ev_app hw l hn e

/-- Both sides of a number by a condition that is not greater than its own. -/
theorem side_mean {nd : List Br} (h : Rd0 nd) {n v : Int} (_ : 0 ≤ n) (hn : n < nd.length + 2) (hv : v ≤ lvlD nd n) (h64 : v < 64) :
    (∀ e, ev nd n e = if e v.toNat then ev nd (sideD nd n v).2 e else ev nd (sideD nd n v).1 e) ∧ v < lvlD nd (sideD nd n v).1 ∧ v < lvlD nd (sideD nd n v).2 ∧ (sideD nd n v).1 < nd.length + 2 ∧ (sideD nd n v).2 < nd.length + 2 := by
  unfold sideD
  split
  · rename_i hne
    exact ⟨fun e => by simp, by simp only; omega, by simp only; omega, hn, hn⟩
  · rename_i he
    have he := Decidable.not_not.1 he
    have h2 : ¬ n < 2 := fun hh => by rw [lvl_one hh] at he; omega
    obtain ⟨b, hb⟩ := getE h2 hn
    obtain ⟨b1, b2, b3, b4, b5, b6, b7, b8, b9, b10⟩ := h _ _ hb
    have hbv := lvl_some h2 hb
    simp only [hb]
    exact ⟨fun e => by rw [ev_ge h.wf h2 hb, show v = b.v by omega], by omega, by omega, by omega, by omega⟩

def opB (op : Int) (x y : Bool) : Bool := if op = 0 then x && y else if op = 1 then x || y else if op = 3 then !x else x != y
theorem const_mean {op x y : Int} (x0 : 0 ≤ x) (x1 : x < 2) (y0 : 0 ≤ y) (y1 : y < 2) : decide (constD op x y = 1) = opB op (decide (x = 1)) (decide (y = 1)) := by
  unfold constD opB
  rcases (by omega : x = 0 ∨ x = 1) with rfl | rfl <;> rcases (by omega : y = 0 ∨ y = 1) with rfl | rfl <;> (split <;> first | rfl | (split <;> first | rfl | (split <;> rfl)))

/-- What an operation's state means. -/
structure At2I (a b : List Br) (op : Int) (st : List Br × List Tr3) : Prop where
  rd : Rd0 st.1
  seen : ∀ t ∈ st.2, 0 ≤ t.2.2 ∧ t.2.2 < st.1.length + 2 ∧ (∀ e, ev st.1 t.2.2 e = opB op (ev a t.1 e) (ev b t.2.1 e)) ∧ min (lvlD a t.1) (lvlD b t.2.1) ≤ lvlD st.1 t.2.2
structure At2R (a b : List Br) (op : Int) (x y : Int) (st : List Br × List Tr3) (r : Int × (List Br × List Tr3)) : Prop where
  inv : At2I a b op r.2
  pos : 0 ≤ r.1
  lt : r.1 < r.2.1.length + 2
  mean : ∀ e, ev r.2.1 r.1 e = opB op (ev a x e) (ev b y e)
  lvl : min (lvlD a x) (lvlD b y) ≤ lvlD r.2.1 r.1
  ext : ∃ l, r.2.1 = st.1 ++ l

theorem At2I.ext {a b : List Br} {op : Int} {nd : List Br} {s : List Tr3} (h : At2I a b op (nd, s)) {nd' : List Br} (hr : Rd0 nd') (he : ∃ l, nd' = nd ++ l) : At2I a b op (nd', s) := by
  obtain ⟨l, rfl⟩ := he
  refine ⟨hr, fun t ht => ?_⟩
  obtain ⟨h1, h2, h3, h4⟩ := h.seen t ht
  exact ⟨h1, by simp only at h2 ⊢; rw [List.length_append]; omega, fun e => by rw [ev_app h.rd.wf l h2]; exact h3 e, by rw [lvl_app l h2]; exact h4⟩

theorem at2_mean {a b : List Br} (ha : Rd0 a) (hb : Rd0 b) (op : Int) : ∀ (m : Nat) (x y : Int) (st : List Br × List Tr3), At2I a b op st → 0 ≤ x → 0 ≤ y → x + y < m → x < a.length + 2 → y < b.length + 2 → At2R a b op x y st (at2 a b op m x y st)
  | 0, x, y, st, _, _, _, hm, _, _ => by omega
  | m + 1, x, y, st, h, x0, y0, hm, hx, hy => by
    by_cases hxy : x < 2 ∧ y < 2
    · rw [at2_c hxy]
      have hc := constD_in (op := op) x0 hxy.1 y0 hxy.2
      refine ⟨h, hc.1, by simp only; omega, fun e => ?_, ?_, [], by simp⟩
      · simp only
        rw [ev_lt hc.2, ev_lt hxy.1, ev_lt hxy.2]
        exact const_mean x0 hxy.1 y0 hxy.2
      · simp only
        rw [lvl_one hc.2, lvl_one hxy.1]; omega
    cases k : st.2.find? (fun t => decide (t.1 = x ∧ t.2.1 = y)) with
    | some t =>
      rw [at2_s hxy k]
      have hk := List.find?_some k
      simp only [decide_eq_true_eq] at hk
      obtain ⟨rfl, rfl⟩ := hk
      obtain ⟨h1, h2, h3, h4⟩ := h.seen t (List.mem_of_find?_eq_some k)
      exact ⟨h, h1, h2, h3, h4, [], by simp⟩
    | none =>
      have hv64 : min (lvlD a x) (lvlD b y) < 64 := by
        by_cases c : x < 2
        · have := lvl_lt hb.dok (n := y) (fun c2 => hxy ⟨c, c2⟩) (by omega)
          rw [Int.min_def]; split <;> omega
        · have := lvl_lt ha.dok (n := x) c (by omega)
          rw [Int.min_def]; split <;> omega
      have hv0 : 0 ≤ min (lvlD a x) (lvlD b y) := by
        have pos : ∀ {d : List Br}, Rd0 d → ∀ {n : Int}, n < d.length + 2 → 0 ≤ lvlD d n := fun {d} hd {n} hn => by
          by_cases h2 : n < 2
          · rw [lvl_one h2]; omega
          · obtain ⟨z, hz⟩ := getE h2 hn
            rw [lvl_some h2 hz]; exact (hd _ _ hz).1
        have p1 := pos ha hx
        have p2 := pos hb hy
        rw [Int.min_def]; split <;> omega
      rw [at2_n hxy k _ rfl]
      have hvx : lvlD a x = min (lvlD a x) (lvlD b y) ∨ lvlD b y = min (lvlD a x) (lvlD b y) := by rw [Int.min_def]; split <;> simp
      have hle1 : min (lvlD a x) (lvlD b y) ≤ lvlD a x := Int.min_le_left _ _
      have hle2 : min (lvlD a x) (lvlD b y) ≤ lvlD b y := Int.min_le_right _ _
      have hmin : At2I a b op st → min (lvlD a x) (lvlD b y) ≤ min (lvlD a x) (lvlD b y) := fun _ => Int.le_refl _
      generalize hv : min (lvlD a x) (lvlD b y) = v at *
      obtain ⟨s1, s2, s3, s4, s5⟩ := sideD_le ha.dok (n := x) x0 hv64
      obtain ⟨t1, t2, t3, t4, t5⟩ := sideD_le hb.dok (n := y) y0 hv64
      obtain ⟨u1, u2, u3, u4, u5⟩ := side_mean ha x0 hx hle1 hv64
      obtain ⟨z1, z2, z3, z4, z5⟩ := side_mean hb y0 hy hle2 hv64
      have dec : (sideD a x v).1 + (sideD b y v).1 < m ∧ (sideD a x v).2 + (sideD b y v).2 < m := by
        rcases hvx with e | e
        · have := s5 e; omega
        · have := t5 e; omega
      have i1 := at2_mean ha hb op m _ _ st h s1 t1 dec.1 u4 z4
      generalize (at2 a b op m (sideD a x v).1 (sideD b y v).1 st) = r0 at *
      have i2 := at2_mean ha hb op m _ _ r0.2 i1.inv s3 t3 dec.2 u5 z5
      generalize (at2 a b op m (sideD a x v).2 (sideD b y v).2 r0.2) = r1 at *
      obtain ⟨l1, hl1⟩ := i1.ext
      obtain ⟨l2, hl2⟩ := i2.ext
      have r0lt : r0.1 < r1.2.1.length + 2 := by rw [hl2, List.length_append]; have := i1.lt; omega
      have r0m : ∀ e, ev r1.2.1 r0.1 e = ev r0.2.1 r0.1 e := fun e => by rw [hl2, ev_app i1.inv.rd.wf l2 i1.lt]
      have r0l : lvlD r1.2.1 r0.1 = lvlD r0.2.1 r0.1 := by rw [hl2, lvl_app l2 i1.lt]
      have g1 : v < lvlD r1.2.1 r0.1 := by rw [r0l]; have := i1.lvl; rw [Int.min_def] at this; split at this <;> omega
      have g2 : v < lvlD r1.2.1 r1.1 := by have := i2.lvl; rw [Int.min_def] at this; split at this <;> omega
      have U := uniq_step i2.inv.rd (b := ⟨v, r0.1, r1.1⟩) hv0 (by simp only; omega) i1.pos r0lt i2.pos i2.lt g1 g2
      have hu3 := U.ext
      have hI := At2I.ext (s := r1.2.2) i2.inv U.rd U.ext
      generalize uniqD ⟨v, r0.1, r1.1⟩ r1.2.1 = u at *
      have hm2 : ∀ e, ev u.1 u.2 e = opB op (ev a x e) (ev b y e) := fun e => by
        rw [U.mean e, u1 e, z1 e]
        simp only
        split
        · exact i2.mean e
        · rw [r0m e]; exact i1.mean e
      refine ⟨⟨U.rd, fun t ht => ?_⟩, U.pos, U.lt, hm2, by rw [hv]; exact U.lvl, ?_⟩
      · simp only [List.mem_append, List.mem_singleton] at ht
        rcases ht with ht | rfl
        · exact hI.seen t ht
        · exact ⟨U.pos, U.lt, hm2, by rw [hv]; exact U.lvl⟩
      · obtain ⟨l3, hl3⟩ := hu3
        exact ⟨l1 ++ (l2 ++ l3), by simp only; rw [hl3, hl2, hl1]; simp⟩

/-- How much an operation makes. -/
theorem nodup_lt : ∀ (N : Nat) (l : List Nat), l.Nodup → (∀ x ∈ l, x < N) → l.length ≤ N
  | 0, l, _, h => by
    cases l with
    | nil => simp
    | cons x l => have := h x (by simp); omega
  | N + 1, l, hn, h => by
    have h1 := nodup_lt N (l.filter (fun x => decide (x ≠ N))) (hn.filter _) (fun x hx => by
      rw [List.mem_filter, decide_eq_true_eq] at hx
      have := h x hx.1; omega)
    have h2 : l.length = (l.filter (fun x => decide (x ≠ N))).length + l.count N := by
      clear h h1 hn
      induction l with
      | nil => rfl
      | cons x l ih =>
        by_cases e : x = N
        · subst e
          rw [List.filter_cons_of_neg (by simp), List.count_cons_self, List.length_cons]; omega
        · rw [List.filter_cons_of_pos (by simpa using e), List.count_cons_of_ne e, List.length_cons, List.length_cons]; omega
    have h3 := List.nodup_iff_count.1 hn N
    omega
def keyT (M : Nat) (t : Tr3) : Nat := t.1.toNat * M + t.2.1.toNat
structure At2B (n m : Nat) (st : List Br × List Tr3) : Prop where
  rng : ∀ t ∈ st.2, 0 ≤ t.1 ∧ t.1 < n ∧ 0 ≤ t.2.1 ∧ t.2.1 < m
  nod : (st.2.map (keyT m)).Nodup
  le : st.1.length ≤ st.2.length
theorem At2B.bound {n m : Nat} {st : List Br × List Tr3} (h : At2B n m st) : st.2.length ≤ n * m ∧ st.1.length ≤ n * m := by
  have := nodup_lt (n * m) _ h.nod (fun x hx => by
    simp only [List.mem_map] at hx
    obtain ⟨t, ht, rfl⟩ := hx
    obtain ⟨h1, h2, h3, h4⟩ := h.rng t ht
    unfold keyT
    have : (t.1.toNat + 1) * m ≤ n * m := Nat.mul_le_mul_right _ (by omega)
    rw [Nat.add_mul] at this
    omega)
  rw [List.length_map] at this
  exact ⟨this, Nat.le_trans h.le this⟩
theorem keyT_inj {m : Nat} {x y x' y' : Nat} (hy : y < m) (hy' : y' < m) (h : x * m + y = x' * m + y') : x = x' ∧ y = y' := by
  have hx : x = x' := by
    have e1 : (x * m + y) / m = x := by rw [Nat.mul_comm, Nat.mul_add_div (by omega), Nat.div_eq_of_lt hy]; rfl
    have e2 : (x' * m + y') / m = x' := by rw [Nat.mul_comm, Nat.mul_add_div (by omega), Nat.div_eq_of_lt hy']; rfl
    rw [← e1, ← e2, h]
  subst hx
  exact ⟨rfl, by omega⟩
/-- A call only adds pairs of which the sum is at most its own. -/
theorem at2_bnd {a b : List Br} (ha : DOk a) (hb : DOk b) (op : Int) : ∀ (f : Nat) (x y : Int) (st : List Br × List Tr3), At2B (a.length + 2) (b.length + 2) st → 0 ≤ x → 0 ≤ y → x + y < f → x < a.length + 2 → y < b.length + 2 →
    At2B (a.length + 2) (b.length + 2) (at2 a b op f x y st).2 ∧ (∀ t ∈ (at2 a b op f x y st).2.2, t ∈ st.2 ∨ t.1 + t.2.1 ≤ x + y)
  | 0, x, y, st, _, _, _, hm, _, _ => by omega
  | f + 1, x, y, st, h, x0, y0, hm, hx, hy => by
    by_cases hxy : x < 2 ∧ y < 2
    · rw [at2_c hxy]; exact ⟨h, fun t ht => .inl ht⟩
    cases k : st.2.find? (fun t => decide (t.1 = x ∧ t.2.1 = y)) with
    | some t => rw [at2_s hxy k]; exact ⟨h, fun t ht => .inl ht⟩
    | none =>
      have hv64 : min (lvlD a x) (lvlD b y) < 64 := by
        by_cases c : x < 2
        · have := lvl_lt hb (n := y) (fun c2 => hxy ⟨c, c2⟩) (by omega)
          rw [Int.min_def]; split <;> omega
        · have := lvl_lt ha (n := x) c (by omega)
          rw [Int.min_def]; split <;> omega
      rw [at2_n hxy k _ rfl]
      have hvx : lvlD a x = min (lvlD a x) (lvlD b y) ∨ lvlD b y = min (lvlD a x) (lvlD b y) := by rw [Int.min_def]; split <;> simp
      generalize min (lvlD a x) (lvlD b y) = v at *
      obtain ⟨s1, s2, s3, s4, s5⟩ := sideD_le ha (n := x) x0 hv64
      obtain ⟨t1, t2, t3, t4, t5⟩ := sideD_le hb (n := y) y0 hv64
      have dec : (sideD a x v).1 + (sideD b y v).1 < x + y ∧ (sideD a x v).2 + (sideD b y v).2 < x + y := by
        rcases hvx with e | e
        · have := s5 e; omega
        · have := t5 e; omega
      obtain ⟨i1, j1⟩ := at2_bnd ha hb op f _ _ st h s1 t1 (by omega) (by omega) (by omega)
      generalize (at2 a b op f (sideD a x v).1 (sideD b y v).1 st) = r0 at *
      obtain ⟨i2, j2⟩ := at2_bnd ha hb op f _ _ r0.2 i1 s3 t3 (by omega) (by omega) (by omega)
      generalize (at2 a b op f (sideD a x v).2 (sideD b y v).2 r0.2) = r1 at *
      have ul : (uniqD ⟨v, r0.1, r1.1⟩ r1.2.1).1.length ≤ r1.2.1.length + 1 := by
        unfold uniqD
        split
        · exact Nat.le_succ _
        · split
          · exact Nat.le_succ _
          · simp
      have hnot : ∀ t ∈ r1.2.2, ¬ (t.1 = x ∧ t.2.1 = y) := fun t ht hh => by
        rcases j2 t ht with h1 | h1
        · rcases j1 t h1 with h2 | h2
          · have := List.find?_eq_none.1 k t h2
            simp at this
            exact this hh.1 hh.2
          · omega
        · omega
      refine ⟨⟨fun t ht => ?_, ?_, ?_⟩, fun t ht => ?_⟩
      · simp only [List.mem_append, List.mem_singleton] at ht
        rcases ht with ht | rfl
        · exact i2.rng t ht
        · exact ⟨x0, by simp only; omega, y0, by simp only; omega⟩
      · simp only [List.map_append, List.map_cons, List.map_nil]
        rw [List.nodup_append]
        refine ⟨i2.nod, by simp, fun p hp q hq e => ?_⟩
        simp only [List.mem_singleton] at hq
        subst hq
        subst e
        simp only [List.mem_map] at hp
        obtain ⟨t, ht, hk⟩ := hp
        obtain ⟨r1', r2', r3', r4'⟩ := i2.rng t ht
        unfold keyT at hk
        have := keyT_inj (m := b.length + 2) (by omega) (by simp only; omega) hk
        simp only at this
        exact hnot t ht ⟨by omega, by omega⟩
      · simp only [List.length_append, List.length_cons, List.length_nil]
        have := i2.le
        omega
      · simp only [List.mem_append, List.mem_singleton] at ht
        rcases ht with ht | rfl
        · rcases j2 t ht with h1 | h1
          · rcases j1 t h1 with h2 | h2
            · exact .inl h2
            · exact .inr (by omega)
          · exact .inr (by omega)
        · exact .inr (by simp only; omega)

theorem at2D_bnd {a b : List Br} {ra rb : Int} (ha : VD a ra) (hb : VD b rb) (op : Int) : (at2D a ra b rb op).2.2.length ≤ (a.length + 2) * (b.length + 2) ∧ (at2D a ra b rb op).2.1.length ≤ (a.length + 2) * (b.length + 2) :=
  (at2_bnd ha.dok hb.dok op (ra.toNat + rb.toNat + 1) ra rb ([], []) ⟨fun t ht => by simp at ht, by simp, Nat.le_refl _⟩ ha.2.1 hb.2.1 (by have := ha.2.1; have := hb.2.1; omega) ha.2.2.1 hb.2.2.1).1.bound
theorem comb_vd {a b : List Br} {ra rb : Int} (ha : VD a ra) (hb : VD b rb) (op : Int) : VD (combD a ra b rb op).1 (combD a ra b rb op).2 ∧ ∀ e, ev (combD a ra b rb op).1 (combD a ra b rb op).2 e = opB op (ev a ra e) (ev b rb e) := by
  have R := at2_mean ha.rd0 hb.rd0 op (ra.toNat + rb.toNat + 1) ra rb ([], []) ⟨fun j x hx => by simp at hx, fun t ht => by simp at ht⟩ ha.2.1 hb.2.1 (by have := ha.2.1; have := hb.2.1; omega) ha.2.2.1 hb.2.2.1
  obtain ⟨n1, n2, n3⟩ := numbered_vd R.inv.rd R.pos R.lt
  exact ⟨n1, fun e => (n2 e).trans (R.mean e)⟩
end
end Go.Proofs.YtedopgkbajhanaaGreatDoor
