/-
  What PSourceNames rests on, part 3: the texts of this work, without what it does not use; printed by a program (wip/shake.py).
  Conditions: none.
-/
import Derived.Test.YtedopgkbajhanaaGreatDoorQPSourceNamesb
namespace Go.Proofs.YtedopgkbajhanaaGreatDoor
section
section
open Go Go.RowKit

/-! ### Canonical diagrams -/
/-- The value of a number in a configuration. -/
def evD (nd : List Br) : Nat → Int → (Nat → Bool) → Bool
  | 0, n, _ => decide (n = 1)
  | m + 1, n, e => if n < 2 then decide (n = 1) else match nd[(n - 2).toNat]? with
    | none => false
    | some b => if e b.v.toNat then evD nd m b.h e else evD nd m b.l e
/-- The value, with as much fuel as the number asks. -/
def ev (nd : List Br) (n : Int) (e : Nat → Bool) : Bool := evD nd n.toNat n e
theorem evD_lt {nd : List Br} {m : Nat} {n : Int} {e : Nat → Bool} (h : n < 2) : evD nd m n e = decide (n = 1) := by
  cases m with
  | zero => rfl
  | succ m => rw [evD, if_pos h]
theorem evD_fuel {nd : List Br} (hw : WfB nd) : ∀ (m m' : Nat) (n : Int) (e : Nat → Bool), n ≤ m → n ≤ m' → evD nd m n e = evD nd m' n e
  | 0, m', n, e, h, _ => by rw [evD_lt (by omega), evD_lt (by omega)]
  | m + 1, 0, n, e, _, h => by rw [evD_lt (by omega), evD_lt (by omega)]
  | m + 1, m' + 1, n, e, h, h' => by
    by_cases hn : n < 2
    · rw [evD_lt hn, evD_lt hn]
    · rw [evD, evD, if_neg hn, if_neg hn]
      cases hb : nd[(n - 2).toNat]? with
      | none => rfl
      | some b =>
        obtain ⟨h1, h2, h3, h4⟩ := hw _ _ hb
        simp only
        rw [evD_fuel hw m m' b.h e (by omega) (by omega), evD_fuel hw m m' b.l e (by omega) (by omega)]
theorem ev_lt {nd : List Br} {n : Int} {e : Nat → Bool} (h : n < 2) : ev nd n e = decide (n = 1) := evD_lt h
theorem ev_ge {nd : List Br} (hw : WfB nd) {n : Int} {e : Nat → Bool} {b : Br} (h : ¬ n < 2) (hb : nd[(n - 2).toNat]? = some b) : ev nd n e = if e b.v.toNat then ev nd b.h e else ev nd b.l e := by
  obtain ⟨h1, h2, h3, h4⟩ := hw _ _ hb
  unfold ev
  obtain ⟨k, hk⟩ : ∃ k, n.toNat = k + 1 := ⟨n.toNat - 1, by omega⟩
  rw [hk, evD, if_neg h, hb]
  simp only
  rw [evD_fuel hw k b.h.toNat b.h e (by omega) (by omega), evD_fuel hw k b.l.toNat b.l e (by omega) (by omega)]

/-- Branches in order, each once, none of them idle. -/
def Rd0 (nd : List Br) : Prop := ∀ (j : Nat) (b : Br), nd[j]? = some b → brOk nd j b
theorem Rd0.wf {nd : List Br} (h : Rd0 nd) : WfB nd := fun j x hx => by
  obtain ⟨_, _, h1, h2, h3, h4, _⟩ := h j x hx
  exact ⟨h1, h2, h3, h4⟩
theorem VD.rd0 {nd : List Br} {r : Int} (h : VD nd r) : Rd0 nd := h.1
theorem lvl_some {nd : List Br} {n : Int} {b : Br} (h : ¬ n < 2) (hb : nd[(n - 2).toNat]? = some b) : lvlD nd n = b.v := by unfold lvlD; rw [if_neg h, hb]; rfl
def upd (e : Nat → Bool) (v : Nat) (x : Bool) : Nat → Bool := fun k => if k = v then x else e k
theorem getE {nd : List Br} {n : Int} (h : ¬ n < 2) (hn : n < nd.length + 2) : ∃ b, nd[(n - 2).toNat]? = some b := ⟨_, List.getElem?_eq_getElem (by omega)⟩
/-- A number does not depend on conditions before its own. -/
theorem ev_upd {nd : List Br} (h : Rd0 nd) (v : Nat) (x : Bool) (e : Nat → Bool) : ∀ (m : Nat) (n : Int), n.toNat < m → n < nd.length + 2 → (v : Int) < lvlD nd n → ev nd n (upd e v x) = ev nd n e
  | 0, n, hm, _, _ => by omega
  | m + 1, n, hm, hn, hv => by
    by_cases h2 : n < 2
    · rw [ev_lt h2, ev_lt h2]
    obtain ⟨b, hb⟩ := getE h2 hn
    obtain ⟨b1, b2, b3, b4, b5, b6, b7, b8, b9, b10⟩ := h _ _ hb
    rw [lvl_some h2 hb] at hv
    rw [ev_ge h.wf h2 hb, ev_ge h.wf h2 hb, ev_upd h v x e m b.h (by omega) (by omega) (by omega), ev_upd h v x e m b.l (by omega) (by omega) (by omega)]
    have : upd e v x b.v.toNat = e b.v.toNat := by unfold upd; rw [if_neg (by omega)]
    rw [this]

/-- Two numbers mean the same. -/
def Eqv (nd : List Br) (n : Int) (nd' : List Br) (n' : Int) : Prop := ∀ e, ev nd n e = ev nd' n' e
theorem Eqv.symm {nd nd' : List Br} {n n' : Int} (h : Eqv nd n nd' n') : Eqv nd' n' nd n := fun e => (h e).symm
theorem Eqv.trans {nd nd' nd2 : List Br} {n n' n2 : Int} (h : Eqv nd n nd' n') (k : Eqv nd' n' nd2 n2) : Eqv nd n nd2 n2 := fun e => (h e).trans (k e)
/-- Different numbers below a bound mean different sets. -/
def Inj (nd : List Br) (m : Nat) : Prop := ∀ (n n' : Int), 0 ≤ n → 0 ≤ n' → n < m → n' < m → n < nd.length + 2 → n' < nd.length + 2 → Eqv nd n nd n' → n = n'

theorem ev_hi {nd : List Br} (h : Rd0 nd) {n : Int} {b : Br} (h2 : ¬ n < 2) (hb : nd[(n - 2).toNat]? = some b) (hn : n < nd.length + 2) (e : Nat → Bool) : ev nd n (upd e b.v.toNat true) = ev nd b.h e ∧ ev nd n (upd e b.v.toNat false) = ev nd b.l e := by
  obtain ⟨b1, b2, b3, b4, b5, b6, b7, b8, b9, b10⟩ := h _ _ hb
  have e1 : upd e b.v.toNat true b.v.toNat = true := by unfold upd; rw [if_pos rfl]
  have e2 : upd e b.v.toNat false b.v.toNat = false := by unfold upd; rw [if_pos rfl]
  rw [ev_ge h.wf h2 hb, ev_ge h.wf h2 hb, e1, e2, if_pos rfl, if_neg (by decide)]
  exact ⟨ev_upd h _ _ _ (b.h.toNat + 1) _ (by omega) (by omega) (by omega), ev_upd h _ _ _ (b.l.toNat + 1) _ (by omega) (by omega) (by omega)⟩

/-- A branch depends on its condition. -/
theorem dep {nd : List Br} (h : Rd0 nd) {n : Int} {m : Nat} {b : Br} (hi : Inj nd m) (h2 : ¬ n < 2) (hb : nd[(n - 2).toNat]? = some b) (hn : n < nd.length + 2) (hm : n ≤ m) : ∃ e, ev nd n (upd e b.v.toNat true) ≠ ev nd n (upd e b.v.toNat false) := by
  obtain ⟨b1, b2, b3, b4, b5, b6, b7, b8, b9, b10⟩ := h _ _ hb
  refine Classical.byContradiction (fun hne => b7 ?_)
  refine hi b.l b.h b3 b5 (by omega) (by omega) (by omega) (by omega) (fun e => ?_)
  have := ev_hi h h2 hb hn e
  rw [← this.1, ← this.2]
  refine Classical.byContradiction (fun hh => hne ⟨e, fun h3 => hh h3.symm⟩)

theorem eqv_const {nd nd' : List Br} (h : Rd0 nd) {n n' : Int} {m : Nat} (hi : Inj nd m) (hm : n ≤ m) (hn : n < nd.length + 2) (h2 : n' < 2) (k : Eqv nd n nd' n') : n < 2 := by
  refine Classical.byContradiction (fun hh => ?_)
  obtain ⟨b, hb⟩ := getE hh hn
  obtain ⟨e, he⟩ := dep h hi hh hb hn hm
  apply he
  rw [k, k, ev_lt h2, ev_lt h2]
theorem eqv_lvl {nd nd' : List Br} (h : Rd0 nd) (h' : Rd0 nd') {n n' : Int} {m : Nat} {b b' : Br} (hi : Inj nd m) (hm : n ≤ m) (hn : n < nd.length + 2) (hn' : n' < nd'.length + 2) (h2 : ¬ n < 2) (h2' : ¬ n' < 2) (hb : nd[(n - 2).toNat]? = some b) (hb' : nd'[(n' - 2).toNat]? = some b') (k : Eqv nd n nd' n') : b'.v ≤ b.v := by
  refine Classical.byContradiction (fun hh => ?_)
  obtain ⟨e, he⟩ := dep h hi h2 hb hn hm
  apply he
  obtain ⟨b1, _⟩ := h _ _ hb
  rw [k, k, ev_upd h' _ _ _ (n'.toNat + 1) _ (by omega) hn' (by rw [lvl_some h2' hb']; omega), ev_upd h' _ _ _ (n'.toNat + 1) _ (by omega) hn' (by rw [lvl_some h2' hb']; omega)]
theorem eqv_kids {nd nd' : List Br} (h : Rd0 nd) (h' : Rd0 nd') {n n' : Int} {b b' : Br} (hn : n < nd.length + 2) (hn' : n' < nd'.length + 2) (h2 : ¬ n < 2) (h2' : ¬ n' < 2) (hb : nd[(n - 2).toNat]? = some b) (hb' : nd'[(n' - 2).toNat]? = some b') (k : Eqv nd n nd' n') (hv : b.v = b'.v) : Eqv nd b.l nd' b'.l ∧ Eqv nd b.h nd' b'.h := by
  refine ⟨fun e => ?_, fun e => ?_⟩
  · rw [← (ev_hi h h2 hb hn e).2, ← (ev_hi h' h2' hb' hn' e).2, k, hv]
  · rw [← (ev_hi h h2 hb hn e).1, ← (ev_hi h' h2' hb' hn' e).1, k, hv]

theorem inj_all {nd : List Br} (h : Rd0 nd) : ∀ m, Inj nd m
  | 0 => fun n n' h0 _ hm _ _ _ _ => by omega
  | m + 1 => fun n n' h0 h0' hm hm' hn hn' k => by
    have ih := inj_all h m
    by_cases h2 : n < 2
    · have h2' : n' < 2 := eqv_const h ih (by omega) hn' h2 k.symm
      have := k (fun _ => true)
      rw [ev_lt h2, ev_lt h2', decide_eq_decide] at this
      omega
    by_cases h2' : n' < 2
    · exact absurd (eqv_const h ih (by omega) hn h2' k) h2
    obtain ⟨b, hb⟩ := getE h2 hn
    obtain ⟨b', hb'⟩ := getE h2' hn'
    have hv : b.v = b'.v := Int.le_antisymm (eqv_lvl h h ih (by omega) hn' hn h2' h2 hb' hb k.symm) (eqv_lvl h h ih (by omega) hn hn' h2 h2' hb hb' k)
    obtain ⟨k1, k2⟩ := eqv_kids h h hn hn' h2 h2' hb hb' k hv
    obtain ⟨b1, b2, b3, b4, b5, b6, b7, b8, b9, b10⟩ := h _ _ hb
    obtain ⟨c1, c2, c3, c4, c5, c6, c7, c8, c9, c10⟩ := h _ _ hb'
    have el := ih b.l b'.l b3 c3 (by omega) (by omega) (by omega) (by omega) k1
    have eh := ih b.h b'.h b5 c5 (by omega) (by omega) (by omega) (by omega) k2
    have ebb : b = b' := by cases b; cases b'; simp_all
    subst ebb
    rcases Int.lt_trichotomy n n' with hlt | heq | hgt
    · exact absurd (List.mem_of_getElem? (i := (n - 2).toNat) (by rw [List.getElem?_take_of_lt (by omega)]; exact hb)) c8
    · exact heq
    · exact absurd (List.mem_of_getElem? (i := (n' - 2).toNat) (by rw [List.getElem?_take_of_lt (by omega)]; exact hb')) b8
theorem inj {nd : List Br} (h : Rd0 nd) {n n' : Int} (h0 : 0 ≤ n) (h0' : 0 ≤ n') (hn : n < nd.length + 2) (hn' : n' < nd.length + 2) (k : Eqv nd n nd n') : n = n' :=
  inj_all h (nd.length + 2) n n' h0 h0' (by omega) (by omega) hn hn' k

/-- Both walks stand at the same place. -/
structure Twin (nd nd' : List Br) (st st' : List Br × List Nat) : Prop where
  out : st.1 = st'.1
  len : st.2.length = nd.length
  len' : st'.2.length = nd'.length
  num : ∀ (n n' : Int), ¬ n < 2 → ¬ n' < 2 → n < nd.length + 2 → n' < nd'.length + 2 → Eqv nd n nd' n' → st.2[(n - 2).toNat]? = st'.2[(n' - 2).toNat]?

theorem twin_walk {nd nd' : List Br} (h : Rd0 nd) (h' : Rd0 nd') : ∀ (m m' : Nat) (n n' : Int) (st st' : List Br × List Nat), 0 ≤ n → 0 ≤ n' → n < m → n' < m' → n < nd.length + 2 → n' < nd'.length + 2 → Eqv nd n nd' n' → Twin nd nd' st st' →
    (vis nd m n st).1 = (vis nd' m' n' st').1 ∧ Twin nd nd' (vis nd m n st).2 (vis nd' m' n' st').2
  | 0, m', n, n', st, st', h0, _, hm, _, _, _, _, _ => by omega
  | m + 1, 0, n, n', st, st', _, h0, _, hm, _, _, _, _ => by omega
  | m + 1, m' + 1, n, n', st, st', h0, h0', hm, hm', hn, hn', k, T => by
    have I := inj_all h (nd.length + 2)
    have I' := inj_all h' (nd'.length + 2)
    by_cases h2 : n < 2
    · have h2' : n' < 2 := eqv_const h' I' (by omega) hn' h2 k.symm
      rw [vis_lt h2, vis_lt h2']
      have := k (fun _ => true)
      rw [ev_lt h2, ev_lt h2', decide_eq_decide] at this
      exact ⟨by simp only; omega, T⟩
    have h2' : ¬ n' < 2 := fun hh => h2 (eqv_const h I (by omega) hn hh k)
    obtain ⟨b, hb⟩ := getE h2 hn
    obtain ⟨b', hb'⟩ := getE h2' hn'
    have hnum := T.num n n' h2 h2' hn hn' k
    by_cases h3 : 0 < st.2[(n - 2).toNat]?.getD 0
    · rw [vis_old h2 h3, vis_old h2' (by rw [← hnum]; exact h3)]
      exact ⟨by simp only; rw [hnum], T⟩
    have h3' : ¬ 0 < st'.2[(n' - 2).toNat]?.getD 0 := by rw [← hnum]; exact h3
    have hv : b.v = b'.v := Int.le_antisymm (eqv_lvl h' h I' (by omega) hn' hn h2' h2 hb' hb k.symm) (eqv_lvl h h' I (by omega) hn hn' h2 h2' hb hb' k)
    obtain ⟨k1, k2⟩ := eqv_kids h h' hn hn' h2 h2' hb hb' k hv
    obtain ⟨b1, b2, b3, b4, b5, b6, b7, b8, b9, b10⟩ := h _ _ hb
    obtain ⟨c1, c2, c3, c4, c5, c6, c7, c8, c9, c10⟩ := h' _ _ hb'
    rw [vis_new h2 h3 hb, vis_new h2' h3' hb']
    obtain ⟨e1, T1⟩ := twin_walk h h' m m' b.l b'.l st st' b3 c3 (by omega) (by omega) (by omega) (by omega) k1 T
    generalize (vis nd m b.l st) = p at *
    generalize (vis nd' m' b'.l st') = p' at *
    obtain ⟨e2, T2⟩ := twin_walk h h' m m' b.h b'.h p.2 p'.2 b5 c5 (by omega) (by omega) (by omega) (by omega) k2 T1
    generalize (vis nd m b.h p.2) = q at *
    generalize (vis nd' m' b'.h p'.2) = q' at *
    have hout := T2.out
    refine ⟨by simp only; rw [hout], by simp only; rw [hout, hv, e1, e2], by rw [List.length_set]; exact T2.len, by rw [List.length_set]; exact T2.len', fun i i' j2 j2' hi hi' kk => ?_⟩
    have l1 := T2.len
    have l2 := T2.len'
    by_cases hin : i = n
    · subst hin
      have : i' = n' := inj h' (by omega) h0' hi' hn' (kk.symm.trans k)
      subst this
      simp only
      rw [List.getElem?_set_self (by omega), List.getElem?_set_self (by omega), hout]
    · have hin' : i' ≠ n' := fun e => by
        subst e
        exact hin (inj h (by omega) h0 hi hn (kk.trans k.symm))
      simp only
      rw [List.getElem?_set_ne (by omega), List.getElem?_set_ne (by omega)]
      exact T2.num i i' j2 j2' hi hi' kk

theorem twin_start (nd nd' : List Br) : Twin nd nd' ([], List.replicate nd.length 0) ([], List.replicate nd'.length 0) :=
  ⟨rfl, by simp, by simp, fun n n' h2 h2' hn hn' _ => by simp only; rw [List.getElem?_replicate_of_lt (by omega), List.getElem?_replicate_of_lt (by omega)]⟩
theorem numbered_eqv {nd nd' : List Br} (h : Rd0 nd) (h' : Rd0 nd') {n n' : Int} (h0 : 0 ≤ n) (h0' : 0 ≤ n') (hn : n < nd.length + 2) (hn' : n' < nd'.length + 2) (k : Eqv nd n nd' n') : numberedD nd n = numberedD nd' n' := by
  obtain ⟨e, T⟩ := twin_walk h h' (n.toNat + 1) (n'.toNat + 1) n n' _ _ h0 h0' (by omega) (by omega) hn hn' k (twin_start nd nd')
  unfold numberedD
  simp only
  rw [e, T.out]
/-- Valid diagrams that mean the same are the same. -/
theorem VD.eqv {nd nd' : List Br} {r r' : Int} (h : VD nd r) (h' : VD nd' r') (k : Eqv nd r nd' r') : (nd, r) = (nd', r') := by
  rw [← h.2.2.2, ← h'.2.2.2]
  exact numbered_eqv h.1 h'.1 h.2.1 h'.2.1 h.2.2.1 h'.2.2.1 k

theorem evD_app {nd : List Br} (hw : WfB nd) (l : List Br) : ∀ (m : Nat) (n : Int) (e : Nat → Bool), n < nd.length + 2 → evD (nd ++ l) m n e = evD nd m n e
  | 0, n, e, _ => rfl
  | m + 1, n, e, hn => by
    by_cases h2 : n < 2
    · rw [evD_lt h2, evD_lt h2]
    · obtain ⟨b, hb⟩ := getE h2 hn
      obtain ⟨h1, h2', h3, h4⟩ := hw _ _ hb
      rw [evD, evD, if_neg h2, if_neg h2, List.getElem?_append_left (by omega), hb]
      simp only
      rw [evD_app hw l m b.h e (by omega), evD_app hw l m b.l e (by omega)]
theorem ev_app {nd : List Br} (hw : WfB nd) (l : List Br) {n : Int} (hn : n < nd.length + 2) (e : Nat → Bool) : ev (nd ++ l) n e = ev nd n e := evD_app hw l _ n e hn
theorem lvl_app {nd : List Br} (l : List Br) {n : Int} (hn : n < nd.length + 2) : lvlD (nd ++ l) n = lvlD nd n := by
  unfold lvlD
  by_cases h2 : n < 2
  · rw [if_pos h2, if_pos h2]
  · rw [if_neg h2, if_neg h2, List.getElem?_append_left (by omega)]
theorem lvl_one {nd : List Br} {n : Int} (h : n < 2) : lvlD nd n = 64 := if_pos h
theorem lvl_eqv {nd nd' : List Br} (h : Rd0 nd) (h' : Rd0 nd') {n n' : Int} (hn : n < nd.length + 2) (hn' : n' < nd'.length + 2) (k : Eqv nd n nd' n') : lvlD nd n = lvlD nd' n' := by
  have I := inj_all h (nd.length + 2)
  have I' := inj_all h' (nd'.length + 2)
  by_cases h2 : n < 2
  · rw [lvl_one h2, lvl_one (eqv_const h' I' (by omega) hn' h2 k.symm)]
  have h2' : ¬ n' < 2 := fun hh => h2 (eqv_const h I (by omega) hn hh k)
  obtain ⟨b, hb⟩ := getE h2 hn
  obtain ⟨b', hb'⟩ := getE h2' hn'
  rw [lvl_some h2 hb, lvl_some h2' hb']
  exact Int.le_antisymm (eqv_lvl h' h I' (by omega) hn' hn h2' h2 hb' hb k.symm) (eqv_lvl h h' I (by omega) hn hn' h2 h2' hb hb' k)
theorem Rd0.snoc {nd : List Br} (h : Rd0 nd) {b : Br} (hb : brOk (nd ++ [b]) nd.length b) : Rd0 (nd ++ [b]) := by
  intro j x hx
  by_cases hj : j < nd.length
  · rw [List.getElem?_append_left hj] at hx
    obtain ⟨b1, b2, b3, b4, b5, b6, b7, b8, b9, b10⟩ := h _ _ hx
    exact ⟨b1, b2, b3, b4, b5, b6, b7, by rw [List.take_append_of_le_length (by omega)]; exact b8, by rw [lvl_app _ (by omega)]; exact b9, by rw [lvl_app _ (by omega)]; exact b10⟩
  · have hl := (List.getElem?_eq_some_iff.1 hx).1
    simp at hl
    have : j = nd.length := by omega
    subst this
    rw [List.getElem?_append_right (Nat.le_refl _)] at hx
    simp at hx
    subst hx
    exact hb
theorem snoc_ok {nd : List Br} {b : Br} (b1 : 0 ≤ b.v) (b2 : b.v ≤ 63) (b3 : 0 ≤ b.l) (b4 : b.l < nd.length + 2) (b5 : 0 ≤ b.h) (b6 : b.h < nd.length + 2) (b7 : b.l ≠ b.h) (b8 : b ∉ nd) (b9 : b.v < lvlD nd b.l) (b10 : b.v < lvlD nd b.h) : brOk (nd ++ [b]) nd.length b :=
  ⟨b1, b2, b3, b4, b5, b6, b7, by rw [List.take_append_of_le_length (Nat.le_refl _), List.take_length]; exact b8, by rw [lvl_app _ b4]; exact b9, by rw [lvl_app _ b6]; exact b10⟩

/-- What a walk has put out so far. -/
structure Wi (nd : List Br) (st : List Br × List Nat) : Prop where
  rd : Rd0 st.1
  len : st.2.length = nd.length
  num : ∀ k m : Nat, st.2[k]? = some m → 0 < m → 2 ≤ m ∧ m < st.1.length + 2 ∧ Eqv st.1 (m : Int) nd ((k : Int) + 2)
  sur : ∀ j : Nat, j < st.1.length → ∃ k : Nat, st.2[k]? = some (j + 2)

theorem Wi.start (nd : List Br) : Wi nd ([], List.replicate nd.length 0) :=
  ⟨fun j b hb => by simp at hb, by simp, fun k m hk hm => by
    have := List.eq_of_mem_replicate (List.mem_of_getElem? hk); omega, fun j hj => by simp at hj⟩

theorem walk_wi {nd : List Br} (h : Rd0 nd) : ∀ (m : Nat) (n : Int) (st : List Br × List Nat), 0 ≤ n → n < m → n < nd.length + 2 → Wi nd st →
    Wi nd (vis nd m n st).2 ∧ 0 ≤ (vis nd m n st).1 ∧ (vis nd m n st).1 < (vis nd m n st).2.1.length + 2 ∧ Eqv (vis nd m n st).2.1 (vis nd m n st).1 nd n ∧ ∃ l, (vis nd m n st).2.1 = st.1 ++ l
  | 0, n, st, h0, hm, _, _ => by omega
  | m + 1, n, st, h0, hm, hn, W => by
    by_cases h2 : n < 2
    · rw [vis_lt h2]
      exact ⟨W, h0, by simp only; omega, fun e => by rw [ev_lt h2, ev_lt h2], [], by simp⟩
    have hlt : (n - 2).toNat < st.2.length := by have := W.len; omega
    by_cases h3 : 0 < st.2[(n - 2).toNat]?.getD 0
    · rw [vis_old h2 h3]
      have hg := List.getElem?_eq_getElem hlt
      rw [hg] at h3 ⊢
      simp only [Option.getD_some] at h3 ⊢
      obtain ⟨q1, q2, q3⟩ := W.num _ _ hg h3
      have en : (((n - 2).toNat : Nat) : Int) + 2 = n := by omega
      rw [en] at q3
      exact ⟨W, by omega, by omega, q3, [], by simp⟩
    obtain ⟨b, hb⟩ := getE h2 hn
    obtain ⟨b1, b2, b3, b4, b5, b6, b7, b8, b9, b10⟩ := h _ _ hb
    have f1 := vis_facts h.wf m b.l st b3 (by omega) (by omega) W.len
    rw [vis_new h2 h3 hb]
    obtain ⟨W1, p1, p2, p3, l1, p4⟩ := walk_wi h m b.l st b3 (by omega) (by omega) W
    generalize (vis nd m b.l st) = p at *
    have f2 := vis_facts h.wf m b.h p.2 b5 (by omega) (by omega) W1.len
    obtain ⟨W2, q1, q2, q3, l2, q4⟩ := walk_wi h m b.h p.2 b5 (by omega) (by omega) W1
    generalize (vis nd m b.h p.2) = q at *
    have hz : q.2.2[(n - 2).toNat]? = some 0 := by
      rw [f2.keep _ (by omega), f1.keep _ (by omega)]
      have hg := List.getElem?_eq_getElem hlt
      rw [hg] at h3 ⊢
      simp only [Option.getD_some] at h3
      congr 1; omega
    have hR := W2.rd
    have p2' : p.1 < q.2.1.length + 2 := by rw [q4, List.length_append]; omega
    have p3' : Eqv q.2.1 p.1 nd b.l := fun e => by rw [q4, ev_app W1.rd.wf l2 p2]; exact p3 e
    have hne : p.1 ≠ q.1 := fun e => b7 (inj h b3 b5 (by omega) (by omega) (p3'.symm.trans (by rw [e]; exact q3)))
    have hl1 := lvl_eqv hR h p2' (by omega) p3'
    have hl2 := lvl_eqv hR h q2 (by omega) q3
    -- the new branch means n
    have mean : ∀ nd2, Rd0 nd2 → ∀ (i : Int), ¬ i < 2 → nd2[(i - 2).toNat]? = some ⟨b.v, p.1, q.1⟩ → (∀ e, ev nd2 p.1 e = ev q.2.1 p.1 e) → (∀ e, ev nd2 q.1 e = ev q.2.1 q.1 e) → Eqv nd2 i nd n := fun nd2 hR2 i hi hx u1 u2 e => by
      rw [ev_ge hR2.wf hi hx, ev_ge h.wf h2 hb]
      simp only
      rw [u1, u2, p3' e, q3 e]
    have hnot : (⟨b.v, p.1, q.1⟩ : Br) ∉ q.2.1 := fun hin => by
      obtain ⟨j, hj, hjx⟩ := List.mem_iff_getElem.1 hin
      obtain ⟨k, hk⟩ := W2.sur j hj
      obtain ⟨_, _, r3⟩ := W2.num k _ hk (by omega)
      have hm2 := mean q.2.1 hR ((j + 2 : Nat) : Int) (by omega) (by rw [show (((j + 2 : Nat) : Int) - 2).toNat = j by omega, List.getElem?_eq_getElem hj, hjx]) (fun _ => rfl) (fun _ => rfl)
      have hk2 := (List.getElem?_eq_some_iff.1 hk).1
      have hlen2 := W2.len
      have := inj h (n := (k : Int) + 2) (n' := n) (by omega) h0 (by omega) hn (r3.symm.trans hm2)
      have hkn : (n - 2).toNat = k := by omega
      rw [hkn, hk] at hz
      cases hz
    have hR3 : Rd0 (q.2.1 ++ [⟨b.v, p.1, q.1⟩]) := hR.snoc (snoc_ok b1 b2 p1 p2' q1 q2 hne hnot (by rw [hl1]; exact b9) (by rw [hl2]; exact b10))
    have hnew : Eqv (q.2.1 ++ [⟨b.v, p.1, q.1⟩]) ((q.2.1.length + 2 : Nat) : Int) nd n := mean _ hR3 _ (by omega) (by
      rw [show (((q.2.1.length + 2 : Nat) : Int) - 2).toNat = q.2.1.length by omega, List.getElem?_append_right (Nat.le_refl _)]; simp) (fun e => ev_app hR.wf _ p2' e) (fun e => ev_app hR.wf _ q2 e)
    refine ⟨⟨hR3, by rw [List.length_set]; exact W2.len, fun k mm hk hmm => ?_, fun j hj => ?_⟩, by omega, by simp only [List.length_append, List.length_cons, List.length_nil]; omega, hnew, l1 ++ (l2 ++ [⟨b.v, p.1, q.1⟩]), by simp only; rw [q4, p4]; simp⟩
    · simp only at hk ⊢
      by_cases hkn : (n - 2).toNat = k
      · subst hkn
        rw [List.getElem?_set_self (by have := W2.len; omega)] at hk
        cases hk
        refine ⟨by omega, by simp, ?_⟩
        rw [show (((n - 2).toNat : Nat) : Int) + 2 = n by omega]
        exact hnew
      · rw [List.getElem?_set_ne hkn] at hk
        obtain ⟨r1, r2, r3⟩ := W2.num k mm hk hmm
        exact ⟨r1, by simp; omega, fun e => by rw [ev_app hR.wf _ (by omega)]; exact r3 e⟩
    · simp only [List.length_append, List.length_cons, List.length_nil] at hj
      by_cases hjl : j < q.2.1.length
      · obtain ⟨k, hk⟩ := W2.sur j hjl
        refine ⟨k, ?_⟩
        simp only
        rw [List.getElem?_set_ne (fun e => by rw [e, hk] at hz; cases hz)]
        exact hk
      · have : j = q.2.1.length := by omega
        subst this
        exact ⟨(n - 2).toNat, by simp only; rw [List.getElem?_set_self (by have := W2.len; omega)]⟩

theorem numbered_vd {nd : List Br} (h : Rd0 nd) {r : Int} (h0 : 0 ≤ r) (hr : r < nd.length + 2) : VD (numberedD nd r).1 (numberedD nd r).2 ∧ Eqv (numberedD nd r).1 (numberedD nd r).2 nd r ∧ (numberedD nd r).1.length ≤ nd.length := by
  obtain ⟨W, w1, w2, w3, _⟩ := walk_wi h (r.toNat + 1) r _ h0 (by omega) hr (Wi.start nd)
  have f := (vis_facts h.wf (r.toNat + 1) r _ h0 (by omega) hr (Wi.start nd).len).cnt
  have e1 : (numberedD nd r).1 = (vis nd (r.toNat + 1) r ([], List.replicate nd.length 0)).2.1 := rfl
  have e2 : (numberedD nd r).2 = (vis nd (r.toNat + 1) r ([], List.replicate nd.length 0)).1 := rfl
  rw [← e1] at w3 w2 f
  rw [← e2] at w3 w2 w1
  have hR : Rd0 (numberedD nd r).1 := W.rd
  refine ⟨⟨hR, w1, w2, ?_⟩, w3, ?_⟩
  · rw [numbered_eqv hR h w1 h0 w2 hr w3]
  · have := List.count_le_length (a := 0) (l := List.replicate nd.length 0)
    simp at this f
    omega
end

section
open Go Go.RowKit

/-! ### Operations on diagrams, what they mean -/
theorem fstIdx_get {b : Br} : ∀ {l : List Br} {i : Nat}, fstIdx b l = some i → l[i]? = some b
  | [], i, h => by cases h
  | x :: l, i, h => by
    unfold fstIdx at h
    split at h
    · rename_i hx; cases h; simp [hx]
    · cases hf : fstIdx b l with
      | none => rw [hf] at h; cases h
      | some k => rw [hf] at h; cases h; simpa using fstIdx_get hf
theorem fstIdx_not {b : Br} : ∀ {l : List Br}, fstIdx b l = none → b ∉ l
  | [], _ => by simp
  | x :: l, h => by
    unfold fstIdx at h
    split at h
    · cases h
    · rename_i hx
      cases hf : fstIdx b l with
      | some k => rw [hf] at h; cases h
      | none => simp only [List.mem_cons, not_or]; exact ⟨fun e => hx e.symm, fstIdx_not hf⟩

/-- What making a branch unique yields. -/
structure UniqOk (nd : List Br) (b : Br) (r : List Br × Int) : Prop where
  rd : Rd0 r.1
  pos : 0 ≤ r.2
  lt : r.2 < r.1.length + 2
  mean : ∀ e, ev r.1 r.2 e = if e b.v.toNat then ev nd b.h e else ev nd b.l e
  lvl : b.v ≤ lvlD r.1 r.2
  ext : ∃ l, r.1 = nd ++ l
theorem uniq_step {nd : List Br} (h : Rd0 nd) {b : Br} (b1 : 0 ≤ b.v) (b2 : b.v ≤ 63) (b3 : 0 ≤ b.l) (b4 : b.l < nd.length + 2) (b5 : 0 ≤ b.h) (b6 : b.h < nd.length + 2) (b9 : b.v < lvlD nd b.l) (b10 : b.v < lvlD nd b.h) : UniqOk nd b (uniqD b nd) := by
  unfold uniqD
  split
  · rename_i he
    exact ⟨h, b3, b4, fun e => by simp only; rw [← he]; split <;> rfl, by simp only; omega, [], by simp⟩
  · rename_i hne
    split
    · rename_i i hi
      have hx := fstIdx_get hi
      have hlt := (List.getElem?_eq_some_iff.1 hx).1
      have hx' : nd[(((i + 2 : Nat) : Int) - 2).toNat]? = some b := by rw [show (((i + 2 : Nat) : Int) - 2).toNat = i by omega]; exact hx
      have h2 : ¬ (((i + 2 : Nat) : Int) < 2) := by omega
      exact ⟨h, by simp only; omega, by simp only; omega, fun e => ev_ge h.wf h2 hx', by simp only; rw [lvl_some h2 hx']; exact Int.le_refl _, [], by simp⟩
    · rename_i hn
      have hok := snoc_ok b1 b2 b3 b4 b5 b6 hne (fstIdx_not hn) b9 b10
      have hR := h.snoc hok
      have hx' : (nd ++ [b])[(((nd.length + 2 : Nat) : Int) - 2).toNat]? = some b := by
        rw [show (((nd.length + 2 : Nat) : Int) - 2).toNat = nd.length by omega, List.getElem?_append_right (Nat.le_refl _)]; simp
      have h2 : ¬ (((nd.length + 2 : Nat) : Int) < 2) := by omega
      exact ⟨hR, by simp only; omega, by simp only [List.length_append, List.length_cons, List.length_nil]; omega, fun e => by simp only; rw [ev_ge hR.wf h2 hx', ev_app h.wf _ b6, ev_app h.wf _ b4], by simp only; rw [lvl_some h2 hx']; exact Int.le_refl _, [b], rfl⟩

theorem Rd0.dok {nd : List Br} (h : Rd0 nd) : DOk nd := ⟨h.wf, fun j b hb => ⟨(h j b hb).1, (h j b hb).2.1⟩⟩
/-- Both sides of a number by a condition that is not greater than its own. -/
theorem side_mean {nd : List Br} (h : Rd0 nd) {n v : Int} (_ : 0 ≤ n) (hn : n < nd.length + 2) (hv : v ≤ lvlD nd n) (h64 : v < 64) :
    (∀ e, ev nd n e = if e v.toNat then ev nd (sideD nd n v).2 e else ev nd (sideD nd n v).1 e) ∧ v < lvlD nd (sideD nd n v).1 ∧ v < lvlD nd (sideD nd n v).2 ∧ (sideD nd n v).1 < nd.length + 2 ∧ (sideD nd n v).2 < nd.length + 2 := by
  unfold sideD
  split
  · rename_i hne
    exact ⟨fun e => by simp, by simp only; omega, by simp only; omega, hn, hn⟩
  · rename_i he
    have he := Decidable.not_not.1 he
    have h2 : ¬ n < 2 := fun hh => by rw [lvl_one hh] at he; omega
    obtain ⟨b, hb⟩ := getE h2 hn
    obtain ⟨b1, b2, b3, b4, b5, b6, b7, b8, b9, b10⟩ := h _ _ hb
    have hbv := lvl_some h2 hb
    simp only [hb]
    exact ⟨fun e => by rw [ev_ge h.wf h2 hb, show v = b.v by omega], by omega, by omega, by omega, by omega⟩

def opB (op : Int) (x y : Bool) : Bool := if op = 0 then x && y else if op = 1 then x || y else if op = 3 then !x else x != y
theorem const_mean {op x y : Int} (x0 : 0 ≤ x) (x1 : x < 2) (y0 : 0 ≤ y) (y1 : y < 2) : decide (constD op x y = 1) = opB op (decide (x = 1)) (decide (y = 1)) := by
  unfold constD opB
  rcases (by omega : x = 0 ∨ x = 1) with rfl | rfl <;> rcases (by omega : y = 0 ∨ y = 1) with rfl | rfl <;> (split <;> first | rfl | (split <;> first | rfl | (split <;> rfl)))

/-- What an operation's state means. -/
structure At2I (a b : List Br) (op : Int) (st : List Br × List Tr3) : Prop where
  rd : Rd0 st.1
  seen : ∀ t ∈ st.2, 0 ≤ t.2.2 ∧ t.2.2 < st.1.length + 2 ∧ (∀ e, ev st.1 t.2.2 e = opB op (ev a t.1 e) (ev b t.2.1 e)) ∧ min (lvlD a t.1) (lvlD b t.2.1) ≤ lvlD st.1 t.2.2
structure At2R (a b : List Br) (op : Int) (x y : Int) (st : List Br × List Tr3) (r : Int × (List Br × List Tr3)) : Prop where
  inv : At2I a b op r.2
  pos : 0 ≤ r.1
  lt : r.1 < r.2.1.length + 2
  mean : ∀ e, ev r.2.1 r.1 e = opB op (ev a x e) (ev b y e)
  lvl : min (lvlD a x) (lvlD b y) ≤ lvlD r.2.1 r.1
  ext : ∃ l, r.2.1 = st.1 ++ l

theorem At2I.ext {a b : List Br} {op : Int} {nd : List Br} {s : List Tr3} (h : At2I a b op (nd, s)) {nd' : List Br} (hr : Rd0 nd') (he : ∃ l, nd' = nd ++ l) : At2I a b op (nd', s) := by
  obtain ⟨l, rfl⟩ := he
  refine ⟨hr, fun t ht => ?_⟩
  obtain ⟨h1, h2, h3, h4⟩ := h.seen t ht
  exact ⟨h1, by simp only at h2 ⊢; rw [List.length_append]; omega, fun e => by rw [ev_app h.rd.wf l h2]; exact h3 e, by rw [lvl_app l h2]; exact h4⟩

theorem at2_mean {a b : List Br} (ha : Rd0 a) (hb : Rd0 b) (op : Int) : ∀ (m : Nat) (x y : Int) (st : List Br × List Tr3), At2I a b op st → 0 ≤ x → 0 ≤ y → x + y < m → x < a.length + 2 → y < b.length + 2 → At2R a b op x y st (at2 a b op m x y st)
  | 0, x, y, st, _, _, _, hm, _, _ => by omega
  | m + 1, x, y, st, h, x0, y0, hm, hx, hy => by
    by_cases hxy : x < 2 ∧ y < 2
    · rw [at2_c hxy]
      have hc := constD_in (op := op) x0 hxy.1 y0 hxy.2
      refine ⟨h, hc.1, by simp only; omega, fun e => ?_, ?_, [], by simp⟩
      · simp only
        rw [ev_lt hc.2, ev_lt hxy.1, ev_lt hxy.2]
        exact const_mean x0 hxy.1 y0 hxy.2
      · simp only
        rw [lvl_one hc.2, lvl_one hxy.1]; omega
    cases k : st.2.find? (fun t => decide (t.1 = x ∧ t.2.1 = y)) with
    | some t =>
      rw [at2_s hxy k]
      have hk := List.find?_some k
      simp only [decide_eq_true_eq] at hk
      obtain ⟨rfl, rfl⟩ := hk
      obtain ⟨h1, h2, h3, h4⟩ := h.seen t (List.mem_of_find?_eq_some k)
      exact ⟨h, h1, h2, h3, h4, [], by simp⟩
    | none =>
      have hv64 : min (lvlD a x) (lvlD b y) < 64 := by
        by_cases c : x < 2
        · have := lvl_lt hb.dok (n := y) (fun c2 => hxy ⟨c, c2⟩) (by omega)
          rw [Int.min_def]; split <;> omega
        · have := lvl_lt ha.dok (n := x) c (by omega)
          rw [Int.min_def]; split <;> omega
      have hv0 : 0 ≤ min (lvlD a x) (lvlD b y) := by
        have pos : ∀ {d : List Br}, Rd0 d → ∀ {n : Int}, n < d.length + 2 → 0 ≤ lvlD d n := fun {d} hd {n} hn => by
          by_cases h2 : n < 2
          · rw [lvl_one h2]; omega
          · obtain ⟨z, hz⟩ := getE h2 hn
            rw [lvl_some h2 hz]; exact (hd _ _ hz).1
        have p1 := pos ha hx
        have p2 := pos hb hy
        rw [Int.min_def]; split <;> omega
      rw [at2_n hxy k _ rfl]
      have hvx : lvlD a x = min (lvlD a x) (lvlD b y) ∨ lvlD b y = min (lvlD a x) (lvlD b y) := by rw [Int.min_def]; split <;> simp
      have hle1 : min (lvlD a x) (lvlD b y) ≤ lvlD a x := Int.min_le_left _ _
      have hle2 : min (lvlD a x) (lvlD b y) ≤ lvlD b y := Int.min_le_right _ _
      have hmin : At2I a b op st → min (lvlD a x) (lvlD b y) ≤ min (lvlD a x) (lvlD b y) := fun _ => Int.le_refl _
      generalize hv : min (lvlD a x) (lvlD b y) = v at *
      obtain ⟨s1, s2, s3, s4, s5⟩ := sideD_le ha.dok (n := x) x0 hv64
      obtain ⟨t1, t2, t3, t4, t5⟩ := sideD_le hb.dok (n := y) y0 hv64
      obtain ⟨u1, u2, u3, u4, u5⟩ := side_mean ha x0 hx hle1 hv64
      obtain ⟨z1, z2, z3, z4, z5⟩ := side_mean hb y0 hy hle2 hv64
      have dec : (sideD a x v).1 + (sideD b y v).1 < m ∧ (sideD a x v).2 + (sideD b y v).2 < m := by
        rcases hvx with e | e
        · have := s5 e; omega
        · have := t5 e; omega
      have i1 := at2_mean ha hb op m _ _ st h s1 t1 dec.1 u4 z4
      generalize (at2 a b op m (sideD a x v).1 (sideD b y v).1 st) = r0 at *
      have i2 := at2_mean ha hb op m _ _ r0.2 i1.inv s3 t3 dec.2 u5 z5
      generalize (at2 a b op m (sideD a x v).2 (sideD b y v).2 r0.2) = r1 at *
      obtain ⟨l1, hl1⟩ := i1.ext
      obtain ⟨l2, hl2⟩ := i2.ext
      have r0lt : r0.1 < r1.2.1.length + 2 := by rw [hl2, List.length_append]; have := i1.lt; omega
      have r0m : ∀ e, ev r1.2.1 r0.1 e = ev r0.2.1 r0.1 e := fun e => by rw [hl2, ev_app i1.inv.rd.wf l2 i1.lt]
      have r0l : lvlD r1.2.1 r0.1 = lvlD r0.2.1 r0.1 := by rw [hl2, lvl_app l2 i1.lt]
      have g1 : v < lvlD r1.2.1 r0.1 := by rw [r0l]; have := i1.lvl; rw [Int.min_def] at this; split at this <;> omega
      have g2 : v < lvlD r1.2.1 r1.1 := by have := i2.lvl; rw [Int.min_def] at this; split at this <;> omega
      have U := uniq_step i2.inv.rd (b := ⟨v, r0.1, r1.1⟩) hv0 (by simp only; omega) i1.pos r0lt i2.pos i2.lt g1 g2
      have hu3 := U.ext
      have hI := At2I.ext (s := r1.2.2) i2.inv U.rd U.ext
      generalize uniqD ⟨v, r0.1, r1.1⟩ r1.2.1 = u at *
      have hm2 : ∀ e, ev u.1 u.2 e = opB op (ev a x e) (ev b y e) := fun e => by
        rw [U.mean e, u1 e, z1 e]
        simp only
        split
        · exact i2.mean e
        · rw [r0m e]; exact i1.mean e
      refine ⟨⟨U.rd, fun t ht => ?_⟩, U.pos, U.lt, hm2, by rw [hv]; exact U.lvl, ?_⟩
      · simp only [List.mem_append, List.mem_singleton] at ht
        rcases ht with ht | rfl
        · exact hI.seen t ht
        · exact ⟨U.pos, U.lt, hm2, by rw [hv]; exact U.lvl⟩
      · obtain ⟨l3, hl3⟩ := hu3
        exact ⟨l1 ++ (l2 ++ l3), by simp only; rw [hl3, hl2, hl1]; simp⟩

/-- How much an operation makes. -/
theorem nodup_lt : ∀ (N : Nat) (l : List Nat), l.Nodup → (∀ x ∈ l, x < N) → l.length ≤ N
  | 0, l, _, h => by
    cases l with
    | nil => simp
    | cons x l => have := h x (by simp); omega
  | N + 1, l, hn, h => by
    have h1 := nodup_lt N (l.filter (fun x => decide (x ≠ N))) (hn.filter _) (fun x hx => by
      rw [List.mem_filter, decide_eq_true_eq] at hx
      have := h x hx.1; omega)
    have h2 : l.length = (l.filter (fun x => decide (x ≠ N))).length + l.count N := by
      clear h h1 hn
      induction l with
      | nil => rfl
      | cons x l ih =>
        by_cases e : x = N
        · subst e
          rw [List.filter_cons_of_neg (by simp), List.count_cons_self, List.length_cons]; omega
        · rw [List.filter_cons_of_pos (by simpa using e), List.count_cons_of_ne e, List.length_cons, List.length_cons]; omega
    have h3 := List.nodup_iff_count.1 hn N
    omega
def keyT (M : Nat) (t : Tr3) : Nat := t.1.toNat * M + t.2.1.toNat
structure At2B (n m : Nat) (st : List Br × List Tr3) : Prop where
  rng : ∀ t ∈ st.2, 0 ≤ t.1 ∧ t.1 < n ∧ 0 ≤ t.2.1 ∧ t.2.1 < m
  nod : (st.2.map (keyT m)).Nodup
  le : st.1.length ≤ st.2.length
theorem At2B.bound {n m : Nat} {st : List Br × List Tr3} (h : At2B n m st) : st.2.length ≤ n * m ∧ st.1.length ≤ n * m := by
  have := nodup_lt (n * m) _ h.nod (fun x hx => by
    simp only [List.mem_map] at hx
    obtain ⟨t, ht, rfl⟩ := hx
    obtain ⟨h1, h2, h3, h4⟩ := h.rng t ht
    unfold keyT
    have : (t.1.toNat + 1) * m ≤ n * m := Nat.mul_le_mul_right _ (by omega)
    rw [Nat.add_mul] at this
    omega)
  rw [List.length_map] at this
  exact ⟨this, Nat.le_trans h.le this⟩
theorem keyT_inj {m : Nat} {x y x' y' : Nat} (hy : y < m) (hy' : y' < m) (h : x * m + y = x' * m + y') : x = x' ∧ y = y' := by
  have hx : x = x' := by
    have e1 : (x * m + y) / m = x := by rw [Nat.mul_comm, Nat.mul_add_div (by omega), Nat.div_eq_of_lt hy]; rfl
    have e2 : (x' * m + y') / m = x' := by rw [Nat.mul_comm, Nat.mul_add_div (by omega), Nat.div_eq_of_lt hy']; rfl
    rw [← e1, ← e2, h]
  subst hx
  exact ⟨rfl, by omega⟩
/-- A call only adds pairs of which the sum is at most its own. -/
theorem at2_bnd {a b : List Br} (ha : DOk a) (hb : DOk b) (op : Int) : ∀ (f : Nat) (x y : Int) (st : List Br × List Tr3), At2B (a.length + 2) (b.length + 2) st → 0 ≤ x → 0 ≤ y → x + y < f → x < a.length + 2 → y < b.length + 2 →
    At2B (a.length + 2) (b.length + 2) (at2 a b op f x y st).2 ∧ (∀ t ∈ (at2 a b op f x y st).2.2, t ∈ st.2 ∨ t.1 + t.2.1 ≤ x + y)
  | 0, x, y, st, _, _, _, hm, _, _ => by omega
  | f + 1, x, y, st, h, x0, y0, hm, hx, hy => by
    by_cases hxy : x < 2 ∧ y < 2
    · rw [at2_c hxy]; exact ⟨h, fun t ht => .inl ht⟩
    cases k : st.2.find? (fun t => decide (t.1 = x ∧ t.2.1 = y)) with
    | some t => rw [at2_s hxy k]; exact ⟨h, fun t ht => .inl ht⟩
    | none =>
      have hv64 : min (lvlD a x) (lvlD b y) < 64 := by
        by_cases c : x < 2
        · have := lvl_lt hb (n := y) (fun c2 => hxy ⟨c, c2⟩) (by omega)
          rw [Int.min_def]; split <;> omega
        · have := lvl_lt ha (n := x) c (by omega)
          rw [Int.min_def]; split <;> omega
      rw [at2_n hxy k _ rfl]
      have hvx : lvlD a x = min (lvlD a x) (lvlD b y) ∨ lvlD b y = min (lvlD a x) (lvlD b y) := by rw [Int.min_def]; split <;> simp
      generalize min (lvlD a x) (lvlD b y) = v at *
      obtain ⟨s1, s2, s3, s4, s5⟩ := sideD_le ha (n := x) x0 hv64
      obtain ⟨t1, t2, t3, t4, t5⟩ := sideD_le hb (n := y) y0 hv64
      have dec : (sideD a x v).1 + (sideD b y v).1 < x + y ∧ (sideD a x v).2 + (sideD b y v).2 < x + y := by
        rcases hvx with e | e
        · have := s5 e; omega
        · have := t5 e; omega
      obtain ⟨i1, j1⟩ := at2_bnd ha hb op f _ _ st h s1 t1 (by omega) (by omega) (by omega)
      generalize (at2 a b op f (sideD a x v).1 (sideD b y v).1 st) = r0 at *
      obtain ⟨i2, j2⟩ := at2_bnd ha hb op f _ _ r0.2 i1 s3 t3 (by omega) (by omega) (by omega)
      generalize (at2 a b op f (sideD a x v).2 (sideD b y v).2 r0.2) = r1 at *
      have ul : (uniqD ⟨v, r0.1, r1.1⟩ r1.2.1).1.length ≤ r1.2.1.length + 1 := by
        unfold uniqD
        split
        · exact Nat.le_succ _
        · split
          · exact Nat.le_succ _
          · simp
      have hnot : ∀ t ∈ r1.2.2, ¬ (t.1 = x ∧ t.2.1 = y) := fun t ht hh => by
        rcases j2 t ht with h1 | h1
        · rcases j1 t h1 with h2 | h2
          · have := List.find?_eq_none.1 k t h2
            simp at this
            exact this hh.1 hh.2
          · omega
        · omega
      refine ⟨⟨fun t ht => ?_, ?_, ?_⟩, fun t ht => ?_⟩
      · simp only [List.mem_append, List.mem_singleton] at ht
        rcases ht with ht | rfl
        · exact i2.rng t ht
        · exact ⟨x0, by simp only; omega, y0, by simp only; omega⟩
      · simp only [List.map_append, List.map_cons, List.map_nil]
        rw [List.nodup_append]
        refine ⟨i2.nod, by simp, fun p hp q hq e => ?_⟩
        simp only [List.mem_singleton] at hq
        subst hq
        subst e
        simp only [List.mem_map] at hp
        obtain ⟨t, ht, hk⟩ := hp
        obtain ⟨r1', r2', r3', r4'⟩ := i2.rng t ht
        unfold keyT at hk
        have := keyT_inj (m := b.length + 2) (by omega) (by simp only; omega) hk
        simp only at this
        exact hnot t ht ⟨by omega, by omega⟩
      · simp only [List.length_append, List.length_cons, List.length_nil]
        have := i2.le
        omega
      · simp only [List.mem_append, List.mem_singleton] at ht
        rcases ht with ht | rfl
        · rcases j2 t ht with h1 | h1
          · rcases j1 t h1 with h2 | h2
            · exact .inl h2
            · exact .inr (by omega)
          · exact .inr (by omega)
        · exact .inr (by simp only; omega)

theorem at2D_bnd {a b : List Br} {ra rb : Int} (ha : VD a ra) (hb : VD b rb) (op : Int) : (at2D a ra b rb op).2.2.length ≤ (a.length + 2) * (b.length + 2) ∧ (at2D a ra b rb op).2.1.length ≤ (a.length + 2) * (b.length + 2) :=
  (at2_bnd ha.dok hb.dok op (ra.toNat + rb.toNat + 1) ra rb ([], []) ⟨fun t ht => by simp at ht, by simp, Nat.le_refl _⟩ ha.2.1 hb.2.1 (by have := ha.2.1; have := hb.2.1; omega) ha.2.2.1 hb.2.2.1).1.bound
theorem comb_vd {a b : List Br} {ra rb : Int} (ha : VD a ra) (hb : VD b rb) (op : Int) : VD (combD a ra b rb op).1 (combD a ra b rb op).2 ∧ ∀ e, ev (combD a ra b rb op).1 (combD a ra b rb op).2 e = opB op (ev a ra e) (ev b rb e) := by
  have R := at2_mean ha.rd0 hb.rd0 op (ra.toNat + rb.toNat + 1) ra rb ([], []) ⟨fun j x hx => by simp at hx, fun t ht => by simp at ht⟩ ha.2.1 hb.2.1 (by have := ha.2.1; have := hb.2.1; omega) ha.2.2.1 hb.2.2.1
  obtain ⟨n1, n2, n3⟩ := numbered_vd R.inv.rd R.pos R.lt
  exact ⟨n1, fun e => (n2 e).trans (R.mean e)⟩
end
end
end Go.Proofs.YtedopgkbajhanaaGreatDoor

namespace Go.Proofs.YtedopgkbajhanaaGreatDoor
section
section
open Go Go.RowKit

/-! ### Tokens -/
/-- The tokens of an expression, and whether all bytes belong to one. -/
def lexF : Nat → List Nat → List (List Nat) × Bool
  | 0, _ => ([], true)
  | _ + 1, [] => ([], true)
  | n + 1, b :: l =>
    if b = 32 ∨ b = 9 then lexF n l
    else if b = 40 ∨ b = 41 ∨ b = 33 then ([b] :: (lexF n l).1, (lexF n l).2)
    else if (b = 38 ∨ b = 124) ∧ l.head? = some b then ([b, b] :: (lexF n l.tail).1, (lexF n l.tail).2)
    else if isLet b then ((b :: l).takeWhile isId :: (lexF n ((b :: l).dropWhile isId)).1, (lexF n ((b :: l).dropWhile isId)).2)
    else ([], false)
def lexA (l : List Nat) : List (List Nat) × Bool := lexF l.length l

theorem isId_let {b : Nat} (h : isLet b = true) : isId b = true := by unfold isId; rw [h]; rfl
theorem drop_let {b : Nat} {l : List Nat} (h : isLet b = true) : (b :: l).dropWhile isId = l.dropWhile isId := by rw [List.dropWhile_cons, if_pos (isId_let h)]
theorem dropWhile_len (p : Nat → Bool) (l : List Nat) : (l.dropWhile p).length ≤ l.length := (List.dropWhile_suffix p).length_le

theorem lexF_fuel : ∀ (n m : Nat) (l : List Nat), l.length ≤ n → l.length ≤ m → lexF n l = lexF m l
  | n, m, [], _, _ => by cases n <;> cases m <;> rfl
  | 0, _, b :: l, h, _ => by simp at h
  | _ + 1, 0, b :: l, _, h => by simp at h
  | n + 1, m + 1, b :: l, h, h' => by
    simp only [List.length_cons] at h h'
    have e1 := lexF_fuel n m l (by omega) (by omega)
    have e2 := lexF_fuel n m l.tail (by rw [List.length_tail]; omega) (by rw [List.length_tail]; omega)
    have hd := dropWhile_len isId l
    have e3 := lexF_fuel n m (l.dropWhile isId) (by omega) (by omega)
    simp only [lexF]
    split
    · exact e1
    · split
      · rw [e1]
      · split
        · rw [e2]
        · split
          · rename_i hl
            rw [drop_let hl, e3]
          · rfl

theorem lexA_nil : lexA [] = ([], true) := rfl
theorem lexA_sp {b : Nat} {l : List Nat} (h : b = 32 ∨ b = 9) : lexA (b :: l) = lexA l := by
  show lexF (l.length + 1) (b :: l) = _
  rw [lexF, if_pos h]; rfl
theorem lexA_one {b : Nat} {l : List Nat} (h : b = 40 ∨ b = 41 ∨ b = 33) : lexA (b :: l) = ([b] :: (lexA l).1, (lexA l).2) := by
  show lexF (l.length + 1) (b :: l) = _
  rw [lexF, if_neg (by omega), if_pos h]; rfl
theorem lexA_two {b : Nat} {l : List Nat} (h : b = 38 ∨ b = 124) : lexA (b :: b :: l) = ([b, b] :: (lexA l).1, (lexA l).2) := by
  show lexF ((b :: l).length + 1) (b :: b :: l) = _
  rw [lexF, if_neg (by omega), if_neg (by omega), if_pos ⟨h, rfl⟩]
  have := lexF_fuel (b :: l).length l.length l (by simp) (Nat.le_refl _)
  rw [show (b :: l).tail = l from rfl, this]; rfl
theorem lexA_id {b : Nat} {l : List Nat} (h : isLet b = true) : lexA (b :: l) = ((b :: l).takeWhile isId :: (lexA ((b :: l).dropWhile isId)).1, (lexA ((b :: l).dropWhile isId)).2) := by
  have hb : b = 95 ∨ (97 ≤ b ∧ b ≤ 122) ∨ (65 ≤ b ∧ b ≤ 90) := by unfold isLet at h; simp at h; omega
  show lexF (l.length + 1) (b :: l) = _
  rw [lexF, if_neg (by omega), if_neg (by omega), if_neg (by omega), if_pos h, drop_let h]
  have := lexF_fuel l.length (l.dropWhile isId).length (l.dropWhile isId) (dropWhile_len _ _) (Nat.le_refl _)
  rw [this]; rfl
theorem lexA_bad {b : Nat} {l : List Nat} (h1 : ¬ (b = 32 ∨ b = 9)) (h2 : ¬ (b = 40 ∨ b = 41 ∨ b = 33)) (h3 : ¬ ((b = 38 ∨ b = 124) ∧ l.head? = some b)) (h4 : isLet b = false) : lexA (b :: l) = ([], false) := by
  show lexF (l.length + 1) (b :: l) = _
  rw [lexF, if_neg h1, if_neg h2, if_neg h3, if_neg (by rw [h4]; decide)]
theorem lexA_trim (l : List Nat) : lexA (trimB l) = lexA l := by
  induction l with
  | nil => rfl
  | cons b l ih =>
    unfold trimB at *
    rw [List.dropWhile_cons]
    split
    · rename_i h
      rw [ih, lexA_sp]
      simpa using h
    · rfl
theorem trim_head {l : List Nat} {b : Nat} {r : List Nat} (h : trimB l = b :: r) : ¬ (b = 32 ∨ b = 9) := by
  unfold trimB at h
  induction l with
  | nil => cases h
  | cons x l ih =>
    rw [List.dropWhile_cons] at h
    split at h
    · exact ih h
    · rename_i hx
      cases h
      simpa using hx

/-- A symbol is skipped exactly if it is the next token. -/
theorem skip_one {b : Nat} (hb : b = 40 ∨ b = 41 ∨ b = 33) (p : Ps) : match skipP [b] p with
    | (true, p') => lexA p.r = ([b] :: (lexA p'.r).1, (lexA p'.r).2) ∧ p'.f = p.f ∧ p'.u = p.u ∧ p'.r.length < p.r.length
    | (false, p') => (lexA p.r).1.head? ≠ some [b] ∧ p' = { p with r := trimB p.r } := by
  have hl := lexA_trim p.r
  have htl := trimB_len p.r
  rw [skipP_eq]
  cases ht : trimB p.r with
  | nil =>
    rw [ht] at hl
    simp only [List.isPrefixOf]
    refine ⟨?_, by simp⟩
    rw [← hl]; simp [lexA_nil]
  | cons x r =>
    have hx := trim_head ht
    rw [ht] at hl htl
    by_cases hxb : x = b
    · subst hxb
      simp only [List.isPrefixOf, beq_self_eq_true, Bool.true_and]
      refine ⟨by rw [← hl, lexA_one hb]; simp, trivial, trivial, by simp at htl ⊢; omega⟩
    · have : [b].isPrefixOf (x :: r) = false := by simp [List.isPrefixOf, Ne.symm hxb]
      rw [this]
      simp only
      refine ⟨fun h => ?_, by simp⟩
      rw [← hl] at h
      by_cases h2 : x = 40 ∨ x = 41 ∨ x = 33
      · rw [lexA_one h2] at h; simp at h; exact hxb h
      · by_cases h3 : (x = 38 ∨ x = 124) ∧ r.head? = some x
        · cases r with
          | nil => simp at h3
          | cons y r =>
            simp at h3
            obtain ⟨h3, rfl⟩ := h3
            rw [lexA_two h3] at h; simp at h
        · by_cases h4 : isLet x = true
          · rw [lexA_id h4, List.takeWhile_cons, if_pos (isId_let h4)] at h
            simp at h
            exact hxb h.1
          · rw [lexA_bad hx h2 h3 (by simpa using h4)] at h; simp at h
theorem skip_two {b : Nat} (hb : b = 38 ∨ b = 124) (p : Ps) : match skipP [b, b] p with
    | (true, p') => lexA p.r = ([b, b] :: (lexA p'.r).1, (lexA p'.r).2) ∧ p'.f = p.f ∧ p'.u = p.u ∧ p'.r.length < p.r.length
    | (false, p') => (lexA p.r).1.head? ≠ some [b, b] ∧ p' = { p with r := trimB p.r } := by
  have hl := lexA_trim p.r
  have htl := trimB_len p.r
  rw [skipP_eq]
  cases ht : trimB p.r with
  | nil =>
    rw [ht] at hl
    simp only [List.isPrefixOf]
    refine ⟨?_, by simp⟩
    rw [← hl]; simp [lexA_nil]
  | cons x r =>
    have hx := trim_head ht
    rw [ht] at hl htl
    by_cases hxb : x = b ∧ r.head? = some b
    · obtain ⟨rfl, hr⟩ := hxb
      cases r with
      | nil => simp at hr
      | cons y r =>
        simp at hr
        subst hr
        simp only [List.isPrefixOf, beq_self_eq_true, Bool.true_and]
        refine ⟨by rw [← hl, lexA_two hb]; simp, trivial, trivial, by simp at htl ⊢; omega⟩
    · have : [b, b].isPrefixOf (x :: r) = false := by
        rw [← Bool.not_eq_true]
        intro h
        cases r with
        | nil => simp [List.isPrefixOf] at h
        | cons y r => simp [List.isPrefixOf] at h; exact hxb ⟨h.1.symm, by simp [h.2]⟩
      rw [this]
      simp only
      refine ⟨fun h => ?_, by simp⟩
      rw [← hl] at h
      by_cases h2 : x = 40 ∨ x = 41 ∨ x = 33
      · rw [lexA_one h2] at h; simp at h
      · by_cases h3 : (x = 38 ∨ x = 124) ∧ r.head? = some x
        · cases r with
          | nil => simp at h3
          | cons y r =>
            simp at h3
            obtain ⟨h3, rfl⟩ := h3
            rw [lexA_two h3] at h; simp at h
            exact hxb ⟨h, by simp [h]⟩
        · by_cases h4 : isLet x = true
          · have hid : isId b = false := by rcases hb with rfl | rfl <;> decide
            rw [lexA_id h4, List.takeWhile_cons, if_pos (isId_let h4)] at h
            simp at h
            have hi := isId_let h4
            rw [h.1, hid] at hi; cases hi
          · rw [lexA_bad hx h2 h3 (by simpa using h4)] at h; simp at h

/-! ### A parser of tokens -/
def loopT (op : List Nat) (mk : Fm → Fm → Fm) (opd : List (List Nat) → Option (Fm × Bool × List (List Nat))) : Nat → Fm → Bool → List (List Nat) → Option (Fm × Bool × List (List Nat))
  | 0, _, _, _ => none
  | m + 1, a, u, ts => if ts.head? = some op then
      match opd ts.tail with
      | none => none
      | some (b, v, ts') => loopT op mk opd m (mk a b) (u || v) ts'
    else some (a, u, ts)
def chainT (op : List Nat) (mk : Fm → Fm → Fm) (opd : List (List Nat) → Option (Fm × Bool × List (List Nat))) (ts : List (List Nat)) : Option (Fm × Bool × List (List Nat)) := match opd ts with
  | none => none
  | some (a, u, ts') => loopT op mk opd (ts'.length + 1) a u ts'
/-- Is this token an identifier? -/
def isWord (t : List Nat) : Bool := match t with
  | [] => false
  | b :: _ => isLet b
def wordT (ix : List Nat → Option Nat) (t : List Nat) : Fm × Bool := if t = trueL then (.c true, false) else if t = falseL then (.c false, false) else (.v ((ix t).getD 0), (ix t).isNone)
def facT (ix : List Nat → Option Nat) : Nat → List (List Nat) → Option (Fm × Bool × List (List Nat))
  | 0, _ => none
  | _ + 1, [] => none
  | n + 1, t :: ts => if t = [33] then
      match facT ix n ts with
      | none => none
      | some (a, u, ts') => some (.not a, u, ts')
    else if t = [40] then
      match chainT [124, 124] .or (chainT [38, 38] .and (facT ix n)) ts with
      | none => none
      | some (a, u, ts') => if ts'.head? = some [41] then some (a, u, ts'.tail) else none
    else if isWord t then some ((wordT ix t).1, (wordT ix t).2, ts) else none
def wholeT (ix : List Nat → Option Nat) (n : Nat) (ts : List (List Nat)) : Option (Fm × Bool × List (List Nat)) := chainT [124, 124] .or (chainT [38, 38] .and (facT ix n)) ts

/-- The nodes of a formula behind k others, operands first. -/
def postF : Fm → Nat → List Fz
  | .c b, _ => [⟨if b then 1 else 0, 0, 0, 0⟩]
  | .v n, _ => [⟨2, (n : Nat), 0, 0⟩]
  | .not a, k => postF a k ++ [⟨3, 0, ((k + szF a - 1 : Nat) : Int), 0⟩]
  | .and a b, k => postF a k ++ postF b (k + szF a) ++ [⟨4, 0, ((k + szF a - 1 : Nat) : Int), ((k + szF a + szF b - 1 : Nat) : Int)⟩]
  | .or a b, k => postF a k ++ postF b (k + szF a) ++ [⟨5, 0, ((k + szF a - 1 : Nat) : Int), ((k + szF a + szF b - 1 : Nat) : Int)⟩]
theorem postF_len : ∀ (t : Fm) (k : Nat), (postF t k).length = szF t
  | .c _, _ => rfl
  | .v _, _ => rfl
  | .not a, k => by simp [postF, szF, postF_len a k]
  | .and a b, k => by simp [postF, szF, postF_len a k, postF_len b, Nat.add_assoc]
  | .or a b, k => by simp [postF, szF, postF_len a k, postF_len b, Nat.add_assoc]
theorem szF_pos : ∀ t : Fm, 0 < szF t
  | .c _ => Nat.one_pos
  | .v _ => Nat.one_pos
  | .not _ => Nat.succ_pos _
  | .and _ _ => Nat.succ_pos _
  | .or _ _ => Nat.succ_pos _

/-- The byte parser does what the token parser does. -/
def Cor (p : Ps) (r : Option (Nat × Ps)) (rt : Option (Fm × Bool × List (List Nat))) : Prop := match rt with
  | none => r = none
  | some (t, u, ts) => ∃ p', r = some (p.f.length + szF t - 1, p') ∧ p'.f = p.f ++ postF t p.f.length ∧ p'.u = (p.u || u) ∧ lexA p'.r = (ts, (lexA p.r).2) ∧ p'.r.length < p.r.length

def CorO (opd : Ps → Option (Nat × Ps)) (opt : List (List Nat) → Option (Fm × Bool × List (List Nat))) : Prop := ∀ p, Cor p (opd p) (opt (lexA p.r).1)
/-- An operand takes at least one token. -/
def LimT (opt : List (List Nat) → Option (Fm × Bool × List (List Nat))) : Prop := ∀ ts t u ts', opt ts = some (t, u, ts') → ts'.length < ts.length

theorem loop_cor {op : List Nat} {o : Int} {mk : Fm → Fm → Fm} {opd : Ps → Option (Nat × Ps)} {opt : List (List Nat) → Option (Fm × Bool × List (List Nat))}
    (hsk : ∀ p, match skipP op p with
      | (true, p') => lexA p.r = (op :: (lexA p'.r).1, (lexA p'.r).2) ∧ p'.f = p.f ∧ p'.u = p.u ∧ p'.r.length < p.r.length
      | (false, p') => (lexA p.r).1.head? ≠ some op ∧ p' = { p with r := trimB p.r })
    (hmk : ∀ a b k, postF (mk a b) k = postF a k ++ postF b (k + szF a) ++ [⟨o, 0, ((k + szF a - 1 : Nat) : Int), ((k + szF a + szF b - 1 : Nat) : Int)⟩]) (hsz : ∀ a b, szF (mk a b) = szF a + szF b + 1) (H : CorO opd opt) (hl : LimT opt) :
    ∀ (m m' : Nat) (a : Fm) (u : Bool) (p0 p : Ps), p.f = p0.f ++ postF a p0.f.length → p.u = (p0.u || u) → (lexA p.r).2 = (lexA p0.r).2 → p.r.length < p0.r.length → p.r.length < m → (lexA p.r).1.length < m' →
      Cor p0 (loopP op o opd m (p0.f.length + szF a - 1) p) (loopT op mk opt m' a u (lexA p.r).1)
  | 0, m', a, u, p0, p, _, _, _, _, h, _ => by omega
  | m + 1, 0, a, u, p0, p, _, _, _, _, _, h => by omega
  | m + 1, m' + 1, a, u, p0, p, hf, hu, hl2, hr, hm, hm' => by
    have hs := hsk p
    unfold loopP loopT
    cases hsp : skipP op p with
    | mk b p1 =>
    rw [hsp] at hs
    cases b with
    | false =>
      obtain ⟨h1, rfl⟩ := hs
      rw [if_neg h1]
      refine ⟨_, rfl, hf, hu, ?_, ?_⟩
      · simp only; rw [lexA_trim, ← hl2]
      · have := trimB_len p.r; simp only; omega
    | true =>
      obtain ⟨h1, h2, h3, h4⟩ := hs
      have hh := congrArg Prod.fst h1
      have hh2 := congrArg Prod.snd h1
      simp only at hh hh2
      rw [hh, List.head?_cons, if_pos rfl, List.tail_cons]
      simp only
      have hc := H p1
      cases ho : opt (lexA p1.r).1 with
      | none =>
        rw [ho] at hc
        simp only [Cor] at hc ⊢
        rw [hc]
      | some q =>
        obtain ⟨t, v, ts⟩ := q
        rw [ho] at hc
        obtain ⟨p2, e1, e2, e3, e4, e5⟩ := hc
        rw [e1]
        simp only
        have hlt := hl _ _ _ _ ho
        have pa := szF_pos a
        have pt := szF_pos t
        rw [hf] at h2
        have hfl : p1.f.length = p0.f.length + szF a := by rw [h2, List.length_append, postF_len]
        have ih := loop_cor hsk hmk hsz H hl m m' (mk a t) (u || v) p0 { p2 with f := p2.f ++ [⟨o, 0, ((p0.f.length + szF a - 1 : Nat) : Int), ((p1.f.length + szF t - 1 : Nat) : Int)⟩] }
          (by simp only; rw [e2, h2, hmk, List.length_append, postF_len]; simp) (by simp only; rw [e3, h3, hu, Bool.or_assoc]) (by simp only; rw [e4, ← hh2, hl2]) (by simp only; omega) (by simp only; omega)
          (by simp only; rw [e4]; simp only; rw [hh] at hm'; simp only [List.length_cons] at hm'; omega)
        simp only [e4] at ih
        have hx : p2.f.length = p0.f.length + szF (mk a t) - 1 := by rw [e2, List.length_append, postF_len, hfl, hsz]; omega
        rw [hx]
        exact ih
theorem chain_cor {op : List Nat} {o : Int} {mk : Fm → Fm → Fm} {opd : Ps → Option (Nat × Ps)} {opt : List (List Nat) → Option (Fm × Bool × List (List Nat))}
    (hsk : ∀ p, match skipP op p with
      | (true, p') => lexA p.r = (op :: (lexA p'.r).1, (lexA p'.r).2) ∧ p'.f = p.f ∧ p'.u = p.u ∧ p'.r.length < p.r.length
      | (false, p') => (lexA p.r).1.head? ≠ some op ∧ p' = { p with r := trimB p.r })
    (hmk : ∀ a b k, postF (mk a b) k = postF a k ++ postF b (k + szF a) ++ [⟨o, 0, ((k + szF a - 1 : Nat) : Int), ((k + szF a + szF b - 1 : Nat) : Int)⟩]) (hsz : ∀ a b, szF (mk a b) = szF a + szF b + 1) (H : CorO opd opt) (hl : LimT opt) : CorO (chainP op o opd) (chainT op mk opt) := fun p => by
  have hc := H p
  unfold chainP chainT
  cases ho : opt (lexA p.r).1 with
  | none =>
    rw [ho] at hc
    simp only [Cor] at hc ⊢
    rw [hc]
  | some q =>
    obtain ⟨t, v, ts⟩ := q
    rw [ho] at hc
    obtain ⟨p2, e1, e2, e3, e4, e5⟩ := hc
    rw [e1]
    simp only
    have := loop_cor hsk hmk hsz H hl (p2.r.length + 1) (ts.length + 1) t v p p2 e2 e3 (by rw [e4]) e5 (by omega) (by rw [e4]; exact Nat.lt_succ_self _)
    rw [e4] at this
    exact this
theorem loopT_lim {op : List Nat} {mk : Fm → Fm → Fm} {opt : List (List Nat) → Option (Fm × Bool × List (List Nat))} (hl : LimT opt) : ∀ (m : Nat) (a : Fm) (u : Bool) (ts : List (List Nat)) (t : Fm) (v : Bool) (ts' : List (List Nat)), loopT op mk opt m a u ts = some (t, v, ts') → ts'.length ≤ ts.length
  | 0, a, u, ts, t, v, ts', h => by cases h
  | m + 1, a, u, ts, t, v, ts', h => by
    unfold loopT at h
    split at h
    · cases ho : opt ts.tail with
      | none => rw [ho] at h; cases h
      | some q =>
        obtain ⟨b, v2, ts2⟩ := q
        rw [ho] at h
        have h1 := loopT_lim hl m _ _ _ _ _ _ h
        have h2 := hl _ _ _ _ ho
        rw [List.length_tail] at h2
        omega
    · cases h; exact Nat.le_refl _
theorem chainT_lim {op : List Nat} {mk : Fm → Fm → Fm} {opt : List (List Nat) → Option (Fm × Bool × List (List Nat))} (hl : LimT opt) : LimT (chainT op mk opt) := fun ts t u ts' h => by
  unfold chainT at h
  cases ho : opt ts with
  | none => rw [ho] at h; cases h
  | some q =>
    obtain ⟨b, v2, ts2⟩ := q
    rw [ho] at h
    have h1 := loopT_lim hl _ _ _ _ _ _ _ h
    have h2 := hl _ _ _ _ ho
    omega
theorem facT_lim (ix : List Nat → Option Nat) : ∀ n, LimT (facT ix n)
  | 0 => fun ts t u ts' h => by cases h
  | n + 1 => fun ts t u ts' h => by
    have ih := facT_lim ix n
    cases ts with
    | nil => cases h
    | cons x ts =>
      unfold facT at h
      split at h
      · cases ho : facT ix n ts with
        | none => rw [ho] at h; cases h
        | some q =>
          obtain ⟨b, v2, ts2⟩ := q
          rw [ho] at h
          have := ih _ _ _ _ ho
          cases h; simp; omega
      · split at h
        · cases ho : chainT [124, 124] .or (chainT [38, 38] .and (facT ix n)) ts with
          | none => rw [ho] at h; cases h
          | some q =>
            obtain ⟨b, v2, ts2⟩ := q
            rw [ho] at h
            have := chainT_lim (op := [124, 124]) (mk := .or) (chainT_lim (op := [38, 38]) (mk := .and) ih) _ _ _ _ ho
            simp only at h
            split at h
            · cases h; simp [List.length_tail]; omega
            · cases h
        · split at h
          · cases h; simp
          · cases h

theorem take_tw (p : Nat → Bool) (l : List Nat) : l.take (l.takeWhile p).length = l.takeWhile p := by
  induction l with
  | nil => rfl
  | cons x l ih =>
    rw [List.takeWhile_cons]
    split
    · rw [List.length_cons, List.take_succ_cons, ih]
    · rfl
theorem drop_tw (p : Nat → Bool) (l : List Nat) : l.drop (l.takeWhile p).length = l.dropWhile p := by
  induction l with
  | nil => rfl
  | cons x l ih =>
    rw [List.takeWhile_cons, List.dropWhile_cons]
    split
    · rw [List.length_cons, List.drop_succ_cons, ih]
    · rfl
theorem trim_idem (l : List Nat) : trimB (trimB l) = trimB l := by
  cases h : trimB l with
  | nil => rfl
  | cons b r =>
    have := trim_head h
    unfold trimB
    rw [List.dropWhile_cons, if_neg (by simpa using this)]
theorem idLen_let {x : Nat} {r : List Nat} (h : idLen (x :: r) ≠ 0) : isLet x = true ∧ idLen (x :: r) = ((x :: r).takeWhile isId).length := by
  have e : idLen (x :: r) = if isDig x then 0 else ((x :: r).takeWhile isId).length := rfl
  rw [e] at h ⊢
  split at h
  · exact absurd rfl h
  · rename_i hd
    rw [if_neg hd]
    refine ⟨?_, rfl⟩
    rw [List.takeWhile_cons] at h
    split at h
    · rename_i hi
      unfold isId at hi
      rw [Bool.or_eq_true] at hi
      exact hi.resolve_right hd
    · exact absurd rfl h
theorem idLen_not {x : Nat} {r : List Nat} (h : idLen (x :: r) = 0) : isLet x = false := by
  have e : idLen (x :: r) = if isDig x then 0 else ((x :: r).takeWhile isId).length := rfl
  rw [e] at h
  rw [← Bool.not_eq_true]
  intro hl
  have hb : x = 95 ∨ (97 ≤ x ∧ x ≤ 122) ∨ (65 ≤ x ∧ x ≤ 90) := by unfold isLet at hl; simp at hl; omega
  rw [if_neg (by unfold isDig; simp; omega), List.takeWhile_cons, if_pos (isId_let hl)] at h
  simp at h
theorem word_let {x : Nat} {r : List Nat} (h : isLet x = true) : isWord ((x :: r).takeWhile isId) = true := by
  rw [List.takeWhile_cons, if_pos (isId_let h)]; exact h

theorem fac_cor (ix : List Nat → Option Nat) : ∀ n, CorO (facP ix n) (facT ix n)
  | 0 => fun p => rfl
  | n + 1 => fun p => by
    have ih := fac_cor ix n
    have hlim := facT_lim ix n
    have s1 := skip_one (b := 33) (by omega) p
    cases hk : skipP [33] p with
    | mk b p1 =>
    rw [hk] at s1
    cases b with
    | true =>
      obtain ⟨h1, h2, h3, h4⟩ := s1
      rw [facP_not ix n hk, h1]
      have hc := ih p1
      unfold facT
      rw [if_pos rfl]
      cases ho : facT ix n (lexA p1.r).1 with
      | none =>
        rw [ho] at hc
        simp only [Cor] at hc ⊢
        rw [hc]
      | some q =>
        obtain ⟨t, v, ts⟩ := q
        rw [ho] at hc
        obtain ⟨p2, e1, e2, e3, e4, e5⟩ := hc
        rw [e1]
        have pt := szF_pos t
        refine ⟨(putP ⟨3, 0, ((p1.f.length + szF t - 1 : Nat) : Int), 0⟩ p2).2, ?_, ?_, ?_, ?_, ?_⟩
        · simp only [putP]
          rw [e2, List.length_append, postF_len, h2]
          rfl
        · simp only [putP]
          rw [e2, h2]
          simp [postF]
        · simp only [putP]; rw [e3, h3]
        · simp only [putP]; rw [e4, h1]
        · simp only [putP]; omega
    | false =>
      obtain ⟨h1, rfl⟩ := s1
      have s2 := skip_one (b := 40) (by omega) { p with r := trimB p.r }
      cases hk2 : skipP [40] { p with r := trimB p.r } with
      | mk b p2 =>
      rw [hk2] at s2
      have htl := trimB_len p.r
      cases b with
      | true =>
        obtain ⟨h5, h6, h7, h8⟩ := s2
        simp only [lexA_trim] at h5 h6 h7 h8
        rw [facP_par ix n hk hk2, h5]
        have hc := chain_cor (op := [124, 124]) (o := 5) (mk := .or) (fun p => skip_two (by omega) p) (fun a b k => rfl) (fun a b => rfl) (chain_cor (op := [38, 38]) (o := 4) (mk := .and) (fun p => skip_two (by omega) p) (fun a b k => rfl) (fun a b => rfl) ih hlim) (chainT_lim hlim) p2
        unfold facT
        rw [if_neg (by decide), if_pos rfl]
        unfold wholeP
        cases ho : chainT [124, 124] Fm.or (chainT [38, 38] Fm.and (facT ix n)) (lexA p2.r).1 with
        | none =>
          rw [ho] at hc
          simp only [Cor] at hc ⊢
          rw [hc]
        | some q =>
          obtain ⟨t, v, ts⟩ := q
          rw [ho] at hc
          obtain ⟨p3, e1, e2, e3, e4, e5⟩ := hc
          rw [e1]
          simp only
          have s3 := skip_one (b := 41) (by omega) p3
          cases hk3 : skipP [41] p3 with
          | mk b p4 =>
          rw [hk3] at s3
          cases b with
          | true =>
            obtain ⟨g1, g2, g3, g4⟩ := s3
            have ht := congrArg Prod.fst (e4.symm.trans g1)
            have ht2 := congrArg Prod.snd (e4.symm.trans g1)
            simp only at ht ht2
            rw [ht, List.head?_cons, if_pos rfl, List.tail_cons]
            refine ⟨_, by rw [h6], by rw [g2, e2, h6], by rw [g3, e3, h7], ?_, ?_⟩
            · rw [h5]; simp only; rw [ht2]
            · omega
          | false =>
            obtain ⟨g1, rfl⟩ := s3
            rw [e4] at g1
            simp only at g1
            rw [if_neg g1]
            rfl
      | false =>
        obtain ⟨h5, rfl⟩ := s2
        simp only [lexA_trim] at h5
        rw [facP_id ix n hk hk2]
        simp only [trim_idem]
        have hl := lexA_trim p.r
        cases ht : trimB p.r with
        | nil =>
          rw [ht, lexA_nil] at hl
          rw [← hl]
          rfl
        | cons x r =>
          have hx := trim_head ht
          rw [ht] at hl htl
          rw [← hl] at h1 h5 ⊢
          by_cases hid : idLen (x :: r) = 0
          · rw [if_pos hid]
            have h4 := idLen_not hid
            have : facT ix (n + 1) (lexA (x :: r)).1 = none := by
              by_cases h2 : x = 40 ∨ x = 41 ∨ x = 33
              · rw [lexA_one h2] at h1 h5 ⊢
                simp only [List.head?_cons, ne_eq, Option.some.injEq, List.cons.injEq, and_true] at h1 h5
                have : x = 41 := by omega
                subst this
                rfl
              · by_cases h3 : (x = 38 ∨ x = 124) ∧ r.head? = some x
                · cases r with
                  | nil => simp at h3
                  | cons y r =>
                    simp at h3
                    obtain ⟨h3, rfl⟩ := h3
                    rw [lexA_two h3]
                    rcases h3 with rfl | rfl <;> rfl
                · rw [lexA_bad hx h2 h3 h4]; rfl
            rw [this]
            rfl
          · rw [if_neg hid]
            obtain ⟨hl1, hl2⟩ := idLen_let hid
            rw [hl2, take_tw, drop_tw]
            have hlex := lexA_id (l := r) hl1
            rw [hlex] at h1 h5 hl ⊢
            simp only [List.head?_cons, ne_eq, Option.some.injEq] at h1 h5
            unfold facT
            rw [if_neg h1, if_neg h5, if_pos (word_let hl1)]
            have hlen : ((x :: r).dropWhile isId).length < p.r.length := by
              rw [drop_let hl1]
              have := dropWhile_len isId r
              simp only [List.length_cons] at htl; omega
            unfold wordT
            by_cases ht1 : (x :: r).takeWhile isId = trueL
            · rw [if_pos ht1, if_pos ht1]
              exact ⟨_, rfl, rfl, by simp, by simp only; rw [← hl], hlen⟩
            · rw [if_neg ht1, if_neg ht1]
              by_cases ht2 : (x :: r).takeWhile isId = falseL
              · rw [if_pos ht2, if_pos ht2]
                exact ⟨_, rfl, rfl, by simp, by simp only; rw [← hl], hlen⟩
              · rw [if_neg ht2, if_neg ht2]
                exact ⟨_, rfl, rfl, rfl, by simp only; rw [← hl], hlen⟩

theorem whole_cor (ix : List Nat → Option Nat) (n : Nat) : CorO (wholeP ix n) (wholeT ix n) :=
  chain_cor (op := [124, 124]) (o := 5) (mk := .or) (fun p => skip_two (by omega) p) (fun _ _ _ => rfl) (fun _ _ => rfl) (chain_cor (op := [38, 38]) (o := 4) (mk := .and) (fun p => skip_two (by omega) p) (fun _ _ _ => rfl) (fun _ _ => rfl) (fac_cor ix n) (facT_lim ix n)) (chainT_lim (facT_lim ix n))

theorem lexA_empty (l : List Nat) : trimB l = [] ↔ lexA l = ([], true) := by
  rw [← lexA_trim l]
  cases h : trimB l with
  | nil => simp [lexA_nil]
  | cons x r =>
    have hx := trim_head h
    simp only [reduceCtorEq, false_iff]
    intro e
    by_cases h2 : x = 40 ∨ x = 41 ∨ x = 33
    · rw [lexA_one h2] at e; simp at e
    · by_cases h3 : (x = 38 ∨ x = 124) ∧ r.head? = some x
      · cases r with
        | nil => simp at h3
        | cons y r =>
          simp at h3
          obtain ⟨h3, rfl⟩ := h3
          rw [lexA_two h3] at e; simp at e
      · by_cases h4 : isLet x = true
        · rw [lexA_id h4] at e; simp at e
        · rw [lexA_bad hx h2 h3 (by simpa using h4)] at e; simp at e

/-- What a parse yields, by tokens. -/
def parseK (names : List (List Nat)) (s : List Nat) : List Fz × Int := if numsOk names then
    if (lexA s).2 then match wholeT (ixN names) (s.length + 1) (lexA s).1 with
      | none => ([], 31)
      | some (t, u, ts) => if ts ≠ [] then ([], 31) else if u then ([], 3) else if 512 < szF t then ([], 2) else (postF t 0, 0)
    else ([], 31)
  else ([], 1)
theorem parse_tok (names : List (List Nat)) (s : List Nat) : parseP names s = parseK names s := by
  unfold parseP parseK
  by_cases hn : numsOk names = true
  · rw [if_pos hn, if_pos hn]
    have hc := whole_cor (ixN names) (s.length + 1) ⟨s, [], false⟩
    simp only at hc
    cases ho : wholeT (ixN names) (s.length + 1) (lexA s).1 with
    | none =>
      rw [ho] at hc
      simp only [Cor] at hc
      rw [hc]
      simp
    | some q =>
      obtain ⟨t, v, ts⟩ := q
      rw [ho] at hc
      obtain ⟨p2, e1, e2, e3, e4, e5⟩ := hc
      rw [e1]
      simp only at e2 e3 e4 ⊢
      simp only [List.nil_append, List.length_nil, Bool.false_or] at e2 e3
      have he := lexA_empty p2.r
      rw [e4] at he
      by_cases hf : (lexA s).2 = true
      · rw [if_pos hf]
        rw [hf] at he
        simp only [Prod.mk.injEq, and_true] at he
        rw [e3, e2, postF_len]
        by_cases hts : ts = []
        · rw [if_neg (fun h => h (he.2 hts)), if_neg (c := ts ≠ []) (fun h => h hts)]
        · rw [if_pos (fun h => hts (he.1 h)), if_pos hts]
      · rw [if_neg hf, if_pos (fun h => hf (by have := congrArg Prod.snd (he.1 h); simpa using this))]
  · rw [if_neg hn, if_neg hn]
end

section
open Go Go.RowKit

/-! ### Printed formulas, token by token -/
def parK (b : Bool) (ts : List (List Nat)) : List (List Nat) := if b then [40] :: ts ++ [[41]] else ts
def tkC (nm : List (List Nat)) : Fm → List (List Nat)
  | .c b => [if b then trueL else falseL]
  | .v n => [nm[n]?.getD []]
  | .not a => [33] :: parK (decide (lvlF a < 2)) (tkC nm a)
  | .and a b => parK (decide (lvlF a < 1)) (tkC nm a) ++ [38, 38] :: parK (decide (lvlF b < 2)) (tkC nm b)
  | .or a b => tkC nm a ++ [124, 124] :: parK (decide (lvlF b < 1)) (tkC nm b)

theorem tkC_pos (nm : List (List Nat)) : ∀ t : Fm, 0 < (tkC nm t).length
  | .c _ => Nat.one_pos
  | .v _ => Nat.one_pos
  | .not _ => Nat.succ_pos _
  | .and _ _ => by simp only [tkC, List.length_append, List.length_cons]; omega
  | .or _ _ => by simp only [tkC, List.length_append, List.length_cons]; omega
/-- What follows does not go on with an identifier. -/
def Stop (l : List Nat) : Prop := ∀ b r, l = b :: r → isId b = false
theorem Stop.nil : Stop [] := fun _ _ h => by cases h
theorem Stop.cons {b : Nat} {r : List Nat} (h : isId b = false) : Stop (b :: r) := fun _ _ e => by cases e; exact h
/-- A word's bytes. -/
def WordB (w : List Nat) : Prop := (∃ b r, w = b :: r ∧ isLet b = true) ∧ ∀ x ∈ w, isId x = true
theorem tw_stop {w rest : List Nat} (h : ∀ x ∈ w, isId x = true) (hs : Stop rest) : (w ++ rest).takeWhile isId = w ∧ (w ++ rest).dropWhile isId = rest := by
  induction w with
  | nil =>
    cases rest with
    | nil => exact ⟨rfl, rfl⟩
    | cons b r =>
      have := hs b r rfl
      rw [List.nil_append, List.takeWhile_cons, List.dropWhile_cons, if_neg (by rw [this]; decide), if_neg (by rw [this]; decide)]
      exact ⟨rfl, rfl⟩
  | cons x w ih =>
    obtain ⟨h1, h2⟩ := ih (fun y hy => h y (by simp [hy]))
    have hx := h x (by simp)
    rw [List.cons_append, List.takeWhile_cons, List.dropWhile_cons, if_pos hx, if_pos hx, h1, h2]
    exact ⟨rfl, rfl⟩
theorem lex_word {w rest : List Nat} (h : WordB w) (hs : Stop rest) : lexA (w ++ rest) = (w :: (lexA rest).1, (lexA rest).2) := by
  obtain ⟨⟨b, r, rfl, hb⟩, hall⟩ := h
  obtain ⟨h1, h2⟩ := tw_stop hall hs
  rw [List.cons_append] at h1 h2 ⊢
  rw [lexA_id hb, h1, h2]
theorem wordB_isWord {w : List Nat} (h : WordB w) : isWord w = true := by
  obtain ⟨⟨b, r, rfl, hb⟩, _⟩ := h
  exact hb
theorem nameOk_word {s : List Nat} (h : nameOk s = true) : WordB s ∧ s ≠ trueL ∧ s ≠ falseL := by
  unfold nameOk at h
  rw [decide_eq_true_eq] at h
  obtain ⟨h1, h2, h3, h4⟩ := h
  cases s with
  | nil => exact absurd rfl h1
  | cons b r =>
    obtain ⟨hl, he⟩ := idLen_let (x := b) (r := r) (by rw [h2]; simp)
    rw [he] at h2
    refine ⟨⟨⟨b, r, rfl, hl⟩, fun x hx => ?_⟩, h3, h4⟩
    have : (b :: r).takeWhile isId = b :: r := (List.takeWhile_prefix isId).eq_of_length h2
    rw [← this] at hx
    exact (List.all_eq_true.1 (List.all_takeWhile (p := isId) (l := b :: r))) x hx
theorem true_word : WordB trueL := ⟨⟨116, _, rfl, by decide⟩, by decide⟩
theorem false_word : WordB falseL := ⟨⟨102, _, rfl, by decide⟩, by decide⟩
/-- The names are words, each known by its number. -/
structure NmOk (nm : List (List Nat)) (ix : List Nat → Option Nat) : Prop where
  word : ∀ k, k < nm.length → nameOk (nm[k]?.getD []) = true
  ix : ∀ k, k < nm.length → ix (nm[k]?.getD []) = some k

/-- These bytes are these tokens, whatever follows. -/
def LexS (s : List Nat) (ts : List (List Nat)) : Prop := ∀ rest, Stop rest → lexA (s ++ rest) = (ts ++ (lexA rest).1, (lexA rest).2)
theorem LexS.par {s : List Nat} {ts : List (List Nat)} (h : LexS s ts) (b : Bool) : LexS (parF b s) (parK b ts) := by
  cases b with
  | false => exact h
  | true =>
    intro rest hs
    show lexA (40 :: s ++ [41] ++ rest) = _
    rw [List.cons_append, List.cons_append, lexA_one (by omega), List.append_assoc, List.singleton_append, h (41 :: rest) (Stop.cons (by decide)), lexA_one (by omega)]
    simp [parK]
theorem LexS.word {w : List Nat} (h : WordB w) : LexS w [w] := fun _ hs => lex_word h hs
theorem lex_print {nm : List (List Nat)} {ix : List Nat → Option Nat} (hn : NmOk nm ix) : ∀ (t : Fm), VarsIn nm.length t → LexS (prC nm t) (tkC nm t)
  | .c b, _ => by
    cases b with
    | true => exact LexS.word true_word
    | false => exact LexS.word false_word
  | .v n, h => LexS.word (nameOk_word (hn.word n h)).1
  | .not a, h => by
    have ih := (lex_print hn a h).par (decide (lvlF a < 2))
    intro rest hs
    show lexA (33 :: parF _ _ ++ rest) = _
    rw [List.cons_append, lexA_one (by omega), ih rest hs]
    rfl
  | .and a b, h => by
    have iha := (lex_print hn a h.1).par (decide (lvlF a < 1))
    have ihb := (lex_print hn b h.2).par (decide (lvlF b < 2))
    intro rest hs
    show lexA (parF _ _ ++ [32, 38, 38, 32] ++ parF _ _ ++ rest) = _
    rw [List.append_assoc, List.append_assoc, show [32, 38, 38, 32] ++ (parF (decide (lvlF b < 2)) (prC nm b) ++ rest) = 32 :: 38 :: 38 :: 32 :: (parF (decide (lvlF b < 2)) (prC nm b) ++ rest) from rfl]
    rw [iha _ (Stop.cons (b := 32) (by decide)), lexA_sp (by omega), lexA_two (by omega), lexA_sp (by omega), ihb rest hs]
    simp [tkC]
  | .or a b, h => by
    have iha := lex_print hn a h.1
    have ihb := (lex_print hn b h.2).par (decide (lvlF b < 1))
    intro rest hs
    show lexA (parF (decide (lvlF a < 0)) _ ++ [32, 124, 124, 32] ++ parF _ _ ++ rest) = _
    rw [show decide (lvlF a < 0) = false from decide_eq_false (by omega)]
    show lexA (prC nm a ++ [32, 124, 124, 32] ++ parF _ _ ++ rest) = _
    rw [List.append_assoc, List.append_assoc, show [32, 124, 124, 32] ++ (parF (decide (lvlF b < 1)) (prC nm b) ++ rest) = 32 :: 124 :: 124 :: 32 :: (parF (decide (lvlF b < 1)) (prC nm b) ++ rest) from rfl]
    rw [iha _ (Stop.cons (b := 32) (by decide)), lexA_sp (by omega), lexA_two (by omega), lexA_sp (by omega), ihb rest hs]
    simp [tkC]
theorem lex_prF {nm : List (List Nat)} {ix : List Nat → Option Nat} (hn : NmOk nm ix) (t : Fm) (h : VarsIn nm.length t) : lexA (prF nm 0 t) = (tkC nm t, true) := by
  have := lex_print hn t h [] Stop.nil
  unfold prF
  rw [show decide (lvlF t < 0) = false from decide_eq_false (by omega)]
  simp only [List.append_nil, lexA_nil] at this
  exact this

theorem loopT_fuel {op : List Nat} {mk : Fm → Fm → Fm} {opt : List (List Nat) → Option (Fm × Bool × List (List Nat))} (hl : LimT opt) : ∀ (m m' : Nat) (a : Fm) (u : Bool) (ts : List (List Nat)), ts.length < m → ts.length < m' → loopT op mk opt m a u ts = loopT op mk opt m' a u ts
  | 0, _, _, _, _, h, _ => by omega
  | _ + 1, 0, _, _, _, _, h => by omega
  | m + 1, m' + 1, a, u, ts, h, h' => by
    unfold loopT
    split
    · cases ho : opt ts.tail with
      | none => rfl
      | some q =>
        obtain ⟨b, v, ts'⟩ := q
        have := hl _ _ _ _ ho
        rw [List.length_tail] at this
        exact loopT_fuel hl m m' _ _ ts' (by omega) (by omega)
    · rfl
theorem loopT_stop {op : List Nat} {mk : Fm → Fm → Fm} {opt : List (List Nat) → Option (Fm × Bool × List (List Nat))} {m : Nat} {a : Fm} {u : Bool} {ts : List (List Nat)} (h : ts.head? ≠ some op) : loopT op mk opt (m + 1) a u ts = some (a, u, ts) := by
  unfold loopT; rw [if_neg h]
theorem loopT_op {op : List Nat} {mk : Fm → Fm → Fm} {opt : List (List Nat) → Option (Fm × Bool × List (List Nat))} (hl : LimT opt) {m : Nat} {a b : Fm} {u v : Bool} {ts ts' : List (List Nat)} (h : opt ts = some (b, v, ts')) : loopT op mk opt ((op :: ts).length + m) a u (op :: ts) = loopT op mk opt (ts'.length + 1) (mk a b) (u || v) ts' := by
  have := hl _ _ _ _ h
  have e : loopT op mk opt ((ts.length + m) + 1) a u (op :: ts) = loopT op mk opt (ts.length + m) (mk a b) (u || v) ts' := by
    rw [loopT, List.head?_cons, if_pos rfl, List.tail_cons, h]
  rw [List.length_cons, show ts.length + 1 + m = (ts.length + m) + 1 by omega, e]
  exact loopT_fuel hl _ _ _ _ _ (by omega) (by omega)

theorem wordT_c (ix : List Nat → Option Nat) (b : Bool) : wordT ix (if b then trueL else falseL) = (.c b, false) := by cases b <;> rfl
theorem wordT_v {nm : List (List Nat)} {ix : List Nat → Option Nat} (hn : NmOk nm ix) {n : Nat} (h : n < nm.length) : wordT ix (nm[n]?.getD []) = (.v n, false) := by
  obtain ⟨_, h1, h2⟩ := nameOk_word (hn.word n h)
  unfold wordT
  rw [if_neg h1, if_neg h2, hn.ix n h]; rfl
theorem not_sym {w : List Nat} (h : WordB w) : w ≠ [33] ∧ w ≠ [40] ∧ w ≠ [41] ∧ w ≠ [38, 38] ∧ w ≠ [124, 124] := by
  obtain ⟨⟨b, r, rfl, hb⟩, _⟩ := h
  refine ⟨?_, ?_, ?_, ?_, ?_⟩ <;> (intro e; cases e; exact absurd hb (by decide))
theorem facT_word {ix : List Nat → Option Nat} {n : Nat} {w : List Nat} {rest : List (List Nat)} (h : WordB w) : facT ix (n + 1) (w :: rest) = some ((wordT ix w).1, (wordT ix w).2, rest) := by
  have := not_sym h
  unfold facT
  rw [if_neg this.1, if_neg this.2.1, if_pos (wordB_isWord h)]

abbrev andT (ix : List Nat → Option Nat) (n : Nat) := chainT [38, 38] Fm.and (facT ix n)
abbrev orT (ix : List Nat → Option Nat) (n : Nat) := chainT [124, 124] Fm.or (andT ix n)
theorem andT_lim (ix : List Nat → Option Nat) (n : Nat) : LimT (andT ix n) := chainT_lim (facT_lim ix n)
theorem chainT_of {op : List Nat} {mk : Fm → Fm → Fm} {opt : List (List Nat) → Option (Fm × Bool × List (List Nat))} {ts ts' : List (List Nat)} {a : Fm} {u : Bool} (h : opt ts = some (a, u, ts')) : chainT op mk opt ts = loopT op mk opt (ts'.length + 1) a u ts' := by
  unfold chainT; rw [h]
def FacOk (nm : List (List Nat)) (ix : List Nat → Option Nat) (n : Nat) : Prop := ∀ (t : Fm) (rest : List (List Nat)), VarsIn nm.length t → (parK (decide (lvlF t < 2)) (tkC nm t)).length ≤ n → facT ix n (parK (decide (lvlF t < 2)) (tkC nm t) ++ rest) = some (t, false, rest)
theorem and_ok {nm : List (List Nat)} {ix : List Nat → Option Nat} {n : Nat} (F : FacOk nm ix n) : ∀ (t : Fm) (rest : List (List Nat)), VarsIn nm.length t → (parK (decide (lvlF t < 1)) (tkC nm t)).length ≤ n →
    andT ix n (parK (decide (lvlF t < 1)) (tkC nm t) ++ rest) = loopT [38, 38] .and (facT ix n) (rest.length + 1) t false rest := by
  intro t
  have base : ∀ t, decide (lvlF t < 1) = decide (lvlF t < 2) → ∀ rest, VarsIn nm.length t → (parK (decide (lvlF t < 1)) (tkC nm t)).length ≤ n → andT ix n (parK (decide (lvlF t < 1)) (tkC nm t) ++ rest) = loopT [38, 38] .and (facT ix n) (rest.length + 1) t false rest := by
    intro t e rest hv hl
    rw [e] at hl ⊢
    exact chainT_of (F t rest hv hl)
  induction t with
  | c b => exact base _ rfl
  | v k => exact base _ rfl
  | not a _ => exact base _ rfl
  | or a b _ _ => exact base _ rfl
  | and a b iha _ =>
    intro rest hv hl
    have e : parK (decide (lvlF (.and a b) < 1)) (tkC nm (.and a b)) = parK (decide (lvlF a < 1)) (tkC nm a) ++ [38, 38] :: parK (decide (lvlF b < 2)) (tkC nm b) := rfl
    rw [e, List.length_append, List.length_cons] at hl
    rw [e, List.append_assoc, List.cons_append, iha _ hv.1 (by omega)]
    have hf := F b rest hv.2 (by omega)
    exact loopT_op (facT_lim ix n) (m := 1) hf
theorem or_ok {nm : List (List Nat)} {ix : List Nat → Option Nat} {n : Nat} (F : FacOk nm ix n) : ∀ (t : Fm) (rest : List (List Nat)), VarsIn nm.length t → (tkC nm t).length ≤ n → rest.head? ≠ some [38, 38] →
    orT ix n (tkC nm t ++ rest) = loopT [124, 124] .or (andT ix n) (rest.length + 1) t false rest := by
  intro t
  have base : ∀ t, decide (lvlF t < 1) = false → ∀ rest, VarsIn nm.length t → (tkC nm t).length ≤ n → rest.head? ≠ some [38, 38] → orT ix n (tkC nm t ++ rest) = loopT [124, 124] .or (andT ix n) (rest.length + 1) t false rest := by
    intro t e rest hv hl hs
    have := and_ok F t rest hv (by rw [e]; exact hl)
    rw [e, loopT_stop hs] at this
    exact chainT_of this
  induction t with
  | c b => exact base _ rfl
  | v k => exact base _ rfl
  | not a _ => exact base _ rfl
  | and a b _ _ => exact base _ rfl
  | or a b iha _ =>
    intro rest hv hl hs
    have e : tkC nm (.or a b) = tkC nm a ++ [124, 124] :: parK (decide (lvlF b < 1)) (tkC nm b) := rfl
    rw [e, List.length_append, List.length_cons] at hl
    rw [e, List.append_assoc, List.cons_append, iha _ hv.1 (by omega) (by simp)]
    have hf := and_ok F b rest hv.2 (by omega)
    rw [loopT_stop hs] at hf
    exact loopT_op (andT_lim ix n) (m := 1) hf
theorem fac_ok {nm : List (List Nat)} {ix : List Nat → Option Nat} (hn : NmOk nm ix) : ∀ n, FacOk nm ix n
  | 0 => fun t rest hv hl => by
    have : ∀ (b : Bool), 0 < (parK b (tkC nm t)).length := by
      intro b
      have := tkC_pos nm t
      cases b with
      | true => simp [parK]
      | false => exact this
    have := this (decide (lvlF t < 2)); omega
  | n + 1 => fun t rest hv hl => by
    have F := fac_ok hn n
    by_cases h2 : lvlF t < 2
    · rw [decide_eq_true h2] at hl ⊢
      have e : parK true (tkC nm t) ++ rest = [40] :: (tkC nm t ++ [41] :: rest) := by simp [parK]
      have hl' : (tkC nm t).length ≤ n := by simp [parK] at hl; omega
      rw [e]
      have ho := or_ok F t ([41] :: rest) hv hl' (by simp)
      rw [loopT_stop (by simp)] at ho
      unfold facT
      have ho' : chainT [124, 124] Fm.or (chainT [38, 38] Fm.and (facT ix n)) (tkC nm t ++ [41] :: rest) = some (t, false, [41] :: rest) := ho
      rw [if_neg (by decide), if_pos rfl, ho']
      simp
    · rw [decide_eq_false h2] at hl ⊢
      cases t with
      | c b =>
        show facT ix (n + 1) ((if b then trueL else falseL) :: rest) = _
        rw [facT_word (by cases b; exact false_word; exact true_word), wordT_c]
      | v k =>
        show facT ix (n + 1) (nm[k]?.getD [] :: rest) = _
        rw [facT_word (nameOk_word (hn.word k hv)).1, wordT_v hn hv]
      | not a =>
        have hl' : (parK (decide (lvlF a < 2)) (tkC nm a)).length ≤ n := by
          have : (parK false (tkC nm (.not a))).length = (parK (decide (lvlF a < 2)) (tkC nm a)).length + 1 := rfl
          omega
        show facT ix (n + 1) ([33] :: (parK (decide (lvlF a < 2)) (tkC nm a) ++ rest)) = _
        unfold facT
        rw [if_pos rfl, F a rest hv hl']
      | and a b => exact absurd (show lvlF (.and a b) < 2 by simp [lvlF]) h2
      | or a b => exact absurd (show lvlF (.or a b) < 2 by simp [lvlF]) h2
/-- A printed formula is parsed to itself. -/
theorem whole_print {nm : List (List Nat)} {ix : List Nat → Option Nat} (hn : NmOk nm ix) (t : Fm) (hv : VarsIn nm.length t) {n : Nat} (hl : (tkC nm t).length ≤ n) : wholeT ix n (tkC nm t) = some (t, false, []) := by
  have := or_ok (fac_ok hn n) t [] hv hl (by simp)
  rw [List.append_nil, loopT_stop (by simp)] at this
  exact this

theorem tok_le : ∀ (n : Nat) (l : List Nat), (lexF n l).1.length ≤ l.length
  | 0, l => Nat.zero_le _
  | n + 1, [] => Nat.zero_le _
  | n + 1, b :: l => by
    have i1 := tok_le n l
    have i2 := tok_le n l.tail
    rw [List.length_tail] at i2
    simp only [lexF, List.length_cons]
    split
    · omega
    · split
      · simp only [List.length_cons]; omega
      · split
        · rename_i h
          cases l with
          | nil => simp at h
          | cons y l => simp only [List.length_cons] at i2 ⊢; omega
        · split
          · rename_i h
            have i3 := tok_le n (l.dropWhile isId)
            have := dropWhile_len isId l
            rw [drop_let h]
            simp only [List.length_cons]; omega
          · simp
theorem parse_print {nm : List (List Nat)} (hn : numsOk nm = true) (hi : NmOk nm (ixN nm)) (t : Fm) (hv : VarsIn nm.length t) (hs : szF t ≤ 512) : parseP nm (prF nm 0 t) = (postF t 0, 0) := by
  rw [parse_tok]
  unfold parseK
  have hl := lex_prF hi t hv
  have hle : (tkC nm t).length ≤ (prF nm 0 t).length + 1 := by
    have := tok_le (prF nm 0 t).length (prF nm 0 t)
    have e : lexF (prF nm 0 t).length (prF nm 0 t) = (tkC nm t, true) := hl
    rw [e] at this
    exact Nat.le_succ_of_le this
  rw [if_pos hn, hl]
  simp only
  rw [if_pos trivial, whole_print hi t hv hle]
  simp only
  rw [if_neg (c := ([] : List (List Nat)) ≠ []) (fun h => h rfl), if_neg (by decide), if_neg (by omega)]
end

section
open Go Go.RowKit

/-! ### Lists of names -/
theorem keys_in (a : ByteArray) (v : Value) : ∀ m : List (ByteArray × Value), a ∈ m.map Prod.fst → (assocSet a v m).map Prod.fst = m.map Prod.fst
  | [], h => by simp at h
  | (b, u) :: m, h => by
    unfold assocSet
    by_cases e : a = b
    · subst e; rw [if_pos rfl]; rfl
    · rw [if_neg e, List.map_cons, keys_in a v m (by simp only [List.map_cons, List.mem_cons] at h; exact h.resolve_left e)]; rfl
theorem keys_out (a : ByteArray) (v : Value) : ∀ m : List (ByteArray × Value), a ∉ m.map Prod.fst → (assocSet a v m).map Prod.fst = m.map Prod.fst ++ [a]
  | [], _ => rfl
  | (b, u) :: m, h => by
    simp only [List.map_cons, List.mem_cons, not_or] at h
    unfold assocSet
    rw [if_neg h.1, List.map_cons, keys_out a v m h.2]; rfl
theorem len_in (a : ByteArray) (v : Value) (m : List (ByteArray × Value)) (h : a ∈ m.map Prod.fst) : (assocSet a v m).length = m.length := by
  have := congrArg List.length (keys_in a v m h); simpa using this
theorem len_out (a : ByteArray) (v : Value) (m : List (ByteArray × Value)) (h : a ∉ m.map Prod.fst) : (assocSet a v m).length = m.length + 1 := by
  have := congrArg List.length (keys_out a v m h); simpa using this
theorem nameM_le : ∀ (l : List (List Nat)) (i : Nat) (m : List (ByteArray × Value)), (nameM l i m).length ≤ m.length + l.length
  | [], _, m => Nat.le_refl _
  | s :: l, i, m => by
    have := nameM_le l (i + 1) (assocSet (strOf s) (.int .i64 (i : Nat)) m)
    simp only [nameM, List.length_cons]
    by_cases h : strOf s ∈ m.map Prod.fst
    · have := len_in _ (.int .i64 (i : Nat)) m h; omega
    · have := len_out _ (.int .i64 (i : Nat)) m h; omega
theorem nameM_iff : ∀ (l : List (List Nat)) (i : Nat) (m : List (ByteArray × Value)), (∀ s ∈ l, ∀ x ∈ s, x < 256) → ((nameM l i m).length = m.length + l.length ↔ l.Nodup ∧ ∀ s ∈ l, strOf s ∉ m.map Prod.fst)
  | [], _, m, _ => by simp [nameM]
  | s :: l, i, m, hb => by
    have hs := hb s (by simp)
    have ih := nameM_iff l (i + 1) (assocSet (strOf s) (.int .i64 (i : Nat)) m) (fun t ht => hb t (by simp [ht]))
    have hle := nameM_le l (i + 1) (assocSet (strOf s) (.int .i64 (i : Nat)) m)
    simp only [nameM, List.length_cons]
    by_cases h : strOf s ∈ m.map Prod.fst
    · have hl := len_in _ (.int .i64 (i : Nat)) m h
      constructor
      · intro e; omega
      · intro e; exact absurd h (e.2 s (by simp))
    · have hl := len_out _ (.int .i64 (i : Nat)) m h
      have hk := keys_out _ (.int .i64 (i : Nat)) m h
      rw [show m.length + (l.length + 1) = (assocSet (strOf s) (.int .i64 (i : Nat)) m).length + l.length by omega, ih, hk]
      simp only [List.nodup_cons, List.mem_append, not_or, List.mem_cons]
      constructor
      · rintro ⟨h1, h2⟩
        refine ⟨⟨fun hm => (h2 s hm).2.1 rfl, h1⟩, fun t ht => ?_⟩
        rcases ht with rfl | ht
        · exact h
        · exact (h2 t ht).1
      · rintro ⟨⟨h1, h2⟩, h3⟩
        refine ⟨h2, fun t ht => ⟨h3 t (.inr ht), fun e => ?_, by simp⟩⟩
        have := strOf_inj (hb t (by simp [ht])) hs e
        subst this
        exact h1 ht
theorem numsOk_iff {names : List (List Nat)} (hb : NamesOk names) : numsOk names = true ↔ names.all nameOk = true ∧ names.Nodup ∧ names.length ≤ 64 := by
  have := nameM_iff names 0 [] (fun s hs => (hb s hs).1)
  simp only [List.length_nil, Nat.zero_add, List.map_nil, List.not_mem_nil, not_false_eq_true, implies_true, and_true] at this
  unfold numsOk
  rw [decide_eq_true_eq, this]
theorem ixR_no (l : List Nat) : ∀ (names : List (List Nat)) (i : Nat) (acc : Option Nat), l ∉ names → ixR l names i acc = acc
  | [], _, _, _ => rfl
  | s :: names, i, acc, h => by
    simp only [List.mem_cons, not_or] at h
    rw [ixR, if_neg (fun e => h.1 e.symm), ixR_no l names (i + 1) acc h.2]
theorem ixR_at : ∀ (names : List (List Nat)) (k i : Nat) (acc : Option Nat) (l : List Nat), names.Nodup → names[k]? = some l → ixR l names i acc = some (i + k)
  | [], k, i, acc, l, _, h => by simp at h
  | s :: names, 0, i, acc, l, hn, h => by
    simp at h
    subst h
    rw [ixR, if_pos rfl, ixR_no _ _ _ _ (List.nodup_cons.1 hn).1]; rfl
  | s :: names, k + 1, i, acc, l, hn, h => by
    have h' : names[k]? = some l := by simpa using h
    rw [ixR, ixR_at names k (i + 1) _ l (List.nodup_cons.1 hn).2 h']
    congr 1; omega
theorem nmOk_of {names : List (List Nat)} (hb : NamesOk names) (h : numsOk names = true) : NmOk names (ixN names) := by
  obtain ⟨h1, h2, h3⟩ := (numsOk_iff hb).1 h
  refine ⟨fun k hk => ?_, fun k hk => ?_⟩
  · rw [List.getElem?_eq_getElem hk]
    exact List.all_eq_true.1 h1 _ (List.getElem_mem hk)
  · rw [List.getElem?_eq_getElem hk]
    have := ixR_at names k 0 none names[k] h2 (List.getElem?_eq_getElem hk)
    rw [Nat.zero_add] at this
    exact this

/-! ### Postorder -/
theorem rep_post : ∀ (t : Fm) (pre suf : List Fz), RepF (pre ++ postF t pre.length ++ suf) t (pre.length + szF t - 1)
  | .c b, pre, suf => by
    show (pre ++ [_] ++ suf)[pre.length + 1 - 1]? = _
    simp
  | .v n, pre, suf => by
    show (pre ++ [_] ++ suf)[pre.length + 1 - 1]? = _
    simp
  | .not a, pre, suf => by
    have pa := szF_pos a
    refine ⟨pre.length + szF a - 1, by simp only [szF]; omega, ?_, ?_⟩
    · simp only [szF, postF]
      rw [List.append_assoc, List.getElem?_append_right (by omega), List.append_assoc, List.getElem?_append_right (by rw [postF_len]; omega), postF_len, show pre.length + (szF a + 1) - 1 - pre.length - szF a = 0 by omega]
      rfl
    · have := rep_post a pre ([⟨3, 0, ((pre.length + szF a - 1 : Nat) : Int), 0⟩] ++ suf)
      simpa [postF] using this
  | .and a b, pre, suf => by
    have pa := szF_pos a
    have pb := szF_pos b
    refine ⟨pre.length + szF a - 1, pre.length + szF a + szF b - 1, by simp only [szF]; omega, by simp only [szF]; omega, ?_, ?_, ?_⟩
    · simp only [szF, postF]
      rw [List.append_assoc, List.getElem?_append_right (by omega), List.append_assoc, List.getElem?_append_right (by rw [List.length_append, postF_len, postF_len]; omega), List.length_append, postF_len, postF_len, show pre.length + (szF a + szF b + 1) - 1 - pre.length - (szF a + szF b) = 0 by omega]
      rfl
    · have := rep_post a pre (postF b (pre.length + szF a) ++ [⟨4, 0, ((pre.length + szF a - 1 : Nat) : Int), ((pre.length + szF a + szF b - 1 : Nat) : Int)⟩] ++ suf)
      simpa [postF] using this
    · have := rep_post b (pre ++ postF a pre.length) ([⟨4, 0, ((pre.length + szF a - 1 : Nat) : Int), ((pre.length + szF a + szF b - 1 : Nat) : Int)⟩] ++ suf)
      rw [List.length_append, postF_len] at this
      simpa [postF] using this
  | .or a b, pre, suf => by
    have pa := szF_pos a
    have pb := szF_pos b
    refine ⟨pre.length + szF a - 1, pre.length + szF a + szF b - 1, by simp only [szF]; omega, by simp only [szF]; omega, ?_, ?_, ?_⟩
    · simp only [szF, postF]
      rw [List.append_assoc, List.getElem?_append_right (by omega), List.append_assoc, List.getElem?_append_right (by rw [List.length_append, postF_len, postF_len]; omega), List.length_append, postF_len, postF_len, show pre.length + (szF a + szF b + 1) - 1 - pre.length - (szF a + szF b) = 0 by omega]
      rfl
    · have := rep_post a pre (postF b (pre.length + szF a) ++ [⟨5, 0, ((pre.length + szF a - 1 : Nat) : Int), ((pre.length + szF a + szF b - 1 : Nat) : Int)⟩] ++ suf)
      simpa [postF] using this
    · have := rep_post b (pre ++ postF a pre.length) ([⟨5, 0, ((pre.length + szF a - 1 : Nat) : Int), ((pre.length + szF a + szF b - 1 : Nat) : Int)⟩] ++ suf)
      rw [List.length_append, postF_len] at this
      simpa [postF] using this
theorem treeOf_post (t : Fm) : treeOf (postF t 0) = t := by
  refine treeOf_eq ?_
  have := rep_post t [] []
  rw [postF_len]
  simpa using this

theorem app_cases {α : Type} {l m : List α} {i : Nat} {x : α} (h : (l ++ m)[i]? = some x) : (i < l.length ∧ l[i]? = some x) ∨ (l.length ≤ i ∧ m[i - l.length]? = some x) := by
  by_cases hi : i < l.length
  · rw [List.getElem?_append_left hi] at h; exact .inl ⟨hi, h⟩
  · rw [List.getElem?_append_right (by omega)] at h; exact .inr ⟨by omega, h⟩
theorem one_cases {α : Type} {y x : α} {i : Nat} (h : [y][i]? = some x) : i = 0 ∧ x = y := by
  cases i with
  | zero => simp at h; exact ⟨rfl, h.symm⟩
  | succ i => simp at h
theorem fzP_not {j i : Nat} (h : j < i) : fzP ⟨3, 0, (j : Nat), 0⟩ i := by
  refine ⟨show 0 ≤ fAr 3 by decide, rfl, ?_, rfl⟩
  show if 0 < fAr 3 then _ else _
  rw [if_pos (by decide)]; simp only; omega
theorem fzP_and {j k i : Nat} (h : j < i) (h' : k < i) : fzP ⟨4, 0, (j : Nat), (k : Nat)⟩ i := by
  refine ⟨show 0 ≤ fAr 4 by decide, rfl, ?_, ?_⟩
  · show if 0 < fAr 4 then _ else _
    rw [if_pos (by decide)]; simp only; omega
  · show if 1 < fAr 4 then _ else _
    rw [if_pos (by decide)]; simp only; omega
theorem fzP_or {j k i : Nat} (h : j < i) (h' : k < i) : fzP ⟨5, 0, (j : Nat), (k : Nat)⟩ i := by
  refine ⟨show 0 ≤ fAr 5 by decide, rfl, ?_, ?_⟩
  · show if 0 < fAr 5 then _ else _
    rw [if_pos (by decide)]; simp only; omega
  · show if 1 < fAr 5 then _ else _
    rw [if_pos (by decide)]; simp only; omega
theorem post_node : ∀ (t : Fm) (k i : Nat) (x : Fz), VarsIn 64 t → (postF t k)[i]? = some x → fzP x (k + i)
  | .c b, k, i, x, _, h => by
    obtain ⟨rfl, rfl⟩ := one_cases h
    cases b <;> exact ⟨by decide, rfl, rfl, rfl⟩
  | .v n, k, i, x, hv, h => by
    obtain ⟨rfl, rfl⟩ := one_cases h
    refine ⟨show 0 ≤ fAr 2 by decide, ?_, rfl, rfl⟩
    have : n < 64 := hv
    rw [if_pos rfl]; simp only; omega
  | .not a, k, i, x, hv, h => by
    have pa := szF_pos a
    rcases app_cases h with ⟨hi, h⟩ | ⟨hi, h⟩
    · exact post_node a k i x hv h
    · rw [postF_len] at hi h
      obtain ⟨e, rfl⟩ := one_cases h
      exact fzP_not (by omega)
  | .and a b, k, i, x, hv, h => by
    have pa := szF_pos a
    have pb := szF_pos b
    rcases app_cases h with ⟨hi, h⟩ | ⟨hi, h⟩
    · rcases app_cases h with ⟨hi, h⟩ | ⟨hi, h⟩
      · exact post_node a k i x hv.1 h
      · rw [postF_len] at hi h
        have := post_node b (k + szF a) (i - szF a) x hv.2 h
        rwa [show k + szF a + (i - szF a) = k + i by omega] at this
    · rw [List.length_append, postF_len, postF_len] at hi h
      obtain ⟨e, rfl⟩ := one_cases h
      exact fzP_and (by omega) (by omega)
  | .or a b, k, i, x, hv, h => by
    have pa := szF_pos a
    have pb := szF_pos b
    rcases app_cases h with ⟨hi, h⟩ | ⟨hi, h⟩
    · rcases app_cases h with ⟨hi, h⟩ | ⟨hi, h⟩
      · exact post_node a k i x hv.1 h
      · rw [postF_len] at hi h
        have := post_node b (k + szF a) (i - szF a) x hv.2 h
        rwa [show k + szF a + (i - szF a) = k + i by omega] at this
    · rw [List.length_append, postF_len, postF_len] at hi h
      obtain ⟨e, rfl⟩ := one_cases h
      exact fzP_or (by omega) (by omega)
theorem fkids_app (l m : List Fz) : fkids (l ++ m) = fkids l ++ fkids m := by simp [fkids]
theorem fkids_not (j : Nat) : fkids [⟨3, 0, (j : Nat), 0⟩] = [j] := by
  show fKids _ ++ [] = _
  unfold fKids
  rw [show fAr (Fz.o ⟨3, 0, (j : Nat), 0⟩) = 1 from rfl]; simp
theorem fkids_and (j k : Nat) : fkids [⟨4, 0, (j : Nat), (k : Nat)⟩] = [j, k] := by
  show fKids _ ++ [] = _
  unfold fKids
  rw [show fAr (Fz.o ⟨4, 0, (j : Nat), (k : Nat)⟩) = 2 from rfl]; simp
theorem fkids_or (j k : Nat) : fkids [⟨5, 0, (j : Nat), (k : Nat)⟩] = [j, k] := by
  show fKids _ ++ [] = _
  unfold fKids
  rw [show fAr (Fz.o ⟨5, 0, (j : Nat), (k : Nat)⟩) = 2 from rfl]; simp
theorem post_kids : ∀ (t : Fm) (k j : Nat), (fkids (postF t k)).count j = if k ≤ j ∧ j + 1 < k + szF t then 1 else 0
  | .c b, k, j => by
    rw [if_neg (by simp only [szF]; omega)]
    cases b <;> rfl
  | .v n, k, j => by
    rw [if_neg (by simp only [szF]; omega)]; rfl
  | .not a, k, j => by
    have pa := szF_pos a
    show _ = if k ≤ j ∧ j + 1 < k + (szF a + 1) then 1 else 0
    simp only [postF]
    rw [fkids_app, List.count_append, fkids_not, post_kids a k j, List.count_singleton]
    simp only [beq_iff_eq]
    by_cases h1 : k ≤ j ∧ j + 1 < k + szF a
    · rw [if_pos h1, if_neg (by omega), if_pos (by omega)]
    · rw [if_neg h1]
      by_cases h2 : k + szF a - 1 = j
      · rw [if_pos h2, if_pos (by omega)]
      · rw [if_neg h2, if_neg (by omega)]
  | .and a b, k, j => by
    have pa := szF_pos a
    have pb := szF_pos b
    show _ = if k ≤ j ∧ j + 1 < k + (szF a + szF b + 1) then 1 else 0
    simp only [postF]
    rw [fkids_app, fkids_app, List.count_append, List.count_append, fkids_and, post_kids a k j, post_kids b _ j, List.count_cons, List.count_singleton]
    simp only [beq_iff_eq]
    by_cases h1 : k ≤ j ∧ j + 1 < k + szF a
    · rw [if_pos h1, if_neg (by omega), if_neg (by omega), if_neg (by omega), if_pos (by omega)]
    · rw [if_neg h1]
      by_cases h2 : k + szF a ≤ j ∧ j + 1 < k + szF a + szF b
      · rw [if_pos h2, if_neg (by omega), if_neg (by omega), if_pos (by omega)]
      · rw [if_neg h2]
        by_cases h3 : k + szF a - 1 = j
        · rw [if_neg (by omega), if_pos h3, if_pos (by omega)]
        · rw [if_neg h3]
          by_cases h4 : k + szF a + szF b - 1 = j
          · rw [if_pos h4, if_pos (by omega)]
          · rw [if_neg h4, if_neg (by omega)]
  | .or a b, k, j => by
    have pa := szF_pos a
    have pb := szF_pos b
    show _ = if k ≤ j ∧ j + 1 < k + (szF a + szF b + 1) then 1 else 0
    simp only [postF]
    rw [fkids_app, fkids_app, List.count_append, List.count_append, fkids_or, post_kids a k j, post_kids b _ j, List.count_cons, List.count_singleton]
    simp only [beq_iff_eq]
    by_cases h1 : k ≤ j ∧ j + 1 < k + szF a
    · rw [if_pos h1, if_neg (by omega), if_neg (by omega), if_neg (by omega), if_pos (by omega)]
    · rw [if_neg h1]
      by_cases h2 : k + szF a ≤ j ∧ j + 1 < k + szF a + szF b
      · rw [if_pos h2, if_neg (by omega), if_neg (by omega), if_pos (by omega)]
      · rw [if_neg h2]
        by_cases h3 : k + szF a - 1 = j
        · rw [if_neg (by omega), if_pos h3, if_pos (by omega)]
        · rw [if_neg h3]
          by_cases h4 : k + szF a + szF b - 1 = j
          · rw [if_pos h4, if_pos (by omega)]
          · rw [if_neg h4, if_neg (by omega)]
theorem post_FV {t : Fm} (hv : VarsIn 64 t) (hs : szF t ≤ 512) : FV (postF t 0) := by
  refine ⟨by rw [postF_len]; exact hs, by rw [postF_len]; exact szF_pos t, fun i x hx => by have := post_node t 0 i x hv hx; rwa [Nat.zero_add] at this, fun i hi => ?_⟩
  rw [post_kids, if_pos]
  rw [postF_len] at hi
  omega
instance decVars (n : Nat) : ∀ t : Fm, Decidable (VarsIn n t)
  | .c _ => isTrue trivial
  | .v k => inferInstanceAs (Decidable (k < n))
  | .not a => decVars n a
  | .and a b => @instDecidableAnd _ _ (decVars n a) (decVars n b)
  | .or a b => @instDecidableAnd _ _ (decVars n a) (decVars n b)
theorem VarsIn.mono {n m : Nat} (h : n ≤ m) : ∀ {t : Fm}, VarsIn n t → VarsIn m t
  | .c _, _ => trivial
  | .v _, hv => Nat.lt_of_lt_of_le hv h
  | .not a, hv => VarsIn.mono (t := a) h hv
  | .and _ _, hv => ⟨VarsIn.mono h hv.1, VarsIn.mono h hv.2⟩
  | .or _ _, hv => ⟨VarsIn.mono h hv.1, VarsIn.mono h hv.2⟩
theorem post_vars : ∀ (t : Fm) (n k : Nat), VarsIn n t → varsOk n (postF t k)
  | .c b, n, k, _ => fun x hx ho => by
    simp only [postF, List.mem_singleton] at hx
    subst hx
    cases b <;> simp at ho
  | .v j, n, k, hv => fun x hx ho => by
    simp only [postF, List.mem_singleton] at hx
    subst hx
    have : j < n := hv
    simp only; omega
  | .not a, n, k, hv => fun x hx ho => by
    simp only [postF, List.mem_append, List.mem_singleton] at hx
    rcases hx with hx | rfl
    · exact post_vars a n k hv x hx ho
    · simp at ho
  | .and a b, n, k, hv => fun x hx ho => by
    simp only [postF, List.mem_append, List.mem_singleton] at hx
    rcases hx with (hx | hx) | rfl
    · exact post_vars a n k hv.1 x hx ho
    · exact post_vars b n _ hv.2 x hx ho
    · simp at ho
  | .or a b, n, k, hv => fun x hx ho => by
    simp only [postF, List.mem_append, List.mem_singleton] at hx
    rcases hx with (hx | hx) | rfl
    · exact post_vars a n k hv.1 x hx ho
    · exact post_vars b n _ hv.2 x hx ho
    · simp at ho
end
end
end Go.Proofs.YtedopgkbajhanaaGreatDoor

namespace Go.Proofs.YtedopgkbajhanaaGreatDoor
section
section
open Go Go.RowKit

theorem dg_wrap {w1 w2 w : World} {g : Nat} {r : (List Br × Int) × Int} {A : Option Addr} {n c : Nat} (hE : Ext w w1) (hM : Mod (· = g) w1 w2) (hg : w.heap.size ≤ g) (hs : SB w1 A n c r.1.1) (hr : ∀ i, rowS A i → g < i) :
    Ext w w2 ∧ SB w2 A n c r.1.1 ∧ ∀ i, rowS A i → w.heap.size ≤ i :=
  ⟨hM.ext hE (fun i hi => by omega), ⟨hs.1.modS hM (fun _ i hi e => by have := hr i hi; omega), hs.2⟩, fun i hi => by have := hr i hi; omega⟩

end

section
open Go Go.RowKit

theorem rd0_var {k : Int} (h0 : 0 ≤ k) (h1 : k ≤ 63) : Rd0 [⟨k, 0, 1⟩] := fun j b hb => by
  obtain ⟨rfl, rfl⟩ := one_cases hb
  refine ⟨h0, h1, Int.le_refl 0, ?_, (by decide : (0 : Int) ≤ 1), ?_, (by decide : (0 : Int) ≠ 1), by simp, ?_, ?_⟩
  · simp only; omega
  · simp only; omega
  · rw [lvl_one (by simp only; omega)]; simp only; omega
  · rw [lvl_one (by simp only; omega)]; simp only; omega
theorem vd_var {k : Int} (h0 : 0 ≤ k) (h1 : k ≤ 63) : VD [⟨k, 0, 1⟩] 2 := ⟨rd0_var h0 h1, by decide, by simp, rfl⟩
end

section
open Go Go.RowKit

end
end
end Go.Proofs.YtedopgkbajhanaaGreatDoor

namespace Go.Proofs.YtedopgkbajhanaaGreatDoor
section
section
open Go Go.RowKit

theorem isLet_iff (b : Nat) : isLet b = true ↔ (97 ≤ b ∧ b ≤ 122) ∨ (65 ≤ b ∧ b ≤ 90) ∨ b = 95 := by
  unfold isLet; simp; omega
theorem bool_v {p : Prop} [Decidable p] {b : Bool} (h : b = true ↔ p) : (Value.bool (decide p)) = .bool b := by
  congr 1
  rw [Bool.eq_iff_iff, decide_eq_true_eq, h]
theorem bool_e {x y : Int} {b : Bool} (h : b = true ↔ x = y) : (Value.bool (x == y)) = .bool b := by
  congr 1
  rw [Bool.eq_iff_iff, beq_iff_eq, h]

theorem letter_fn (b : Nat) (w : World) : Fn Tryz.prog 122 [.int .u8 b] w (fun v w' => v = .bool (isLet b) ∧ w = w') := by
  have hi := isLet_iff b
  refine fn_of_exec (c := c122) gx_ok Tryz.func122 rfl rfl rfl ?_
  refine wif_d (fun h1 => ?_) (fun h1 => ?_)
  · refine wif_d (fun h2 => ?_) (fun h2 => ?_)
    · exact ⟨by rw [hi.2 (by omega)], rfl⟩
    · refine wif_d (fun h3 => ?_) (fun h3 => ?_)
      · refine wif_d (fun h4 => ?_) (fun h4 => ?_)
        · exact absurd h1 (by omega)
        · exact ⟨bool_e (by rw [hi]; omega), rfl⟩
      · exact absurd h3 (by omega)
  · refine wif_d (fun h3 => ?_) (fun h3 => ?_)
    · refine wif_d (fun h4 => ?_) (fun h4 => ?_)
      · exact ⟨by rw [hi.2 (by omega)], rfl⟩
      · exact ⟨bool_e (by rw [hi]; omega), rfl⟩
    · exact ⟨bool_e (by rw [hi]; omega), rfl⟩

/-- An identifier, as the reference sees it. -/
def identB (s : List Nat) : Bool := isWord s && s.all isId
theorem isId_or (b : Nat) : isId b = true ↔ isLet b = true ∨ (48 ≤ b ∧ b ≤ 57) := by
  unfold isId isDig; simp
def okAt (s : List Nat) (i : Nat) : Prop := ∃ b, s[i]? = some b ∧ (isLet b = true ∨ (i ≠ 0 ∧ 48 ≤ b ∧ b ≤ 57))
theorem identB_iff (s : List Nat) : identB s = true ↔ s ≠ [] ∧ ∀ i, i < s.length → okAt s i := by
  unfold identB
  rw [Bool.and_eq_true]
  constructor
  · rintro ⟨h1, h2⟩
    cases s with
    | nil => cases h1
    | cons b r =>
      refine ⟨by simp, fun i hi => ?_⟩
      have hx := List.getElem?_eq_getElem hi
      refine ⟨_, hx, ?_⟩
      cases i with
      | zero => exact .inl h1
      | succ i =>
        have := List.all_eq_true.1 h2 _ (List.getElem_mem hi)
        rcases (isId_or _).1 this with h | h
        · exact .inl h
        · exact .inr ⟨by omega, h⟩
  · rintro ⟨h1, h2⟩
    cases s with
    | nil => exact absurd rfl h1
    | cons b r =>
      refine ⟨?_, List.all_eq_true.2 (fun x hx => ?_)⟩
      · obtain ⟨c, hc, h⟩ := h2 0 (by simp)
        simp at hc; subst hc
        rcases h with h | h
        · exact h
        · exact absurd rfl h.1
      · obtain ⟨i, hi, rfl⟩ := List.mem_iff_getElem.1 hx
        obtain ⟨c, hc, h⟩ := h2 i hi
        rw [List.getElem?_eq_getElem hi] at hc
        cases hc
        rw [isId_or]
        rcases h with h | h
        · exact .inl h
        · exact .inr h.2

theorem ident_fn (s : List Nat) (w : World) (hs : ∀ x ∈ s, x < 256) (hl : s.length ≤ 9223372036854775807) :
    Fn Tryz.prog 81 [.string (strOf s)] w (fun v w' => v = .bool (identB s) ∧ w = w') := by
  have hsz : (strOf s).size = s.length := strOf_size s
  have hby : bytesOf (strOf s) = s := bytesOf_strOf hs
  refine fn_of_exec (c := { c81 with cuts := [] }) gx_ok Tryz.func81 rfl rfl rfl ?_
  refine loop gx_ok [3] (fun i : Nat => [.int .i64 i]) (fun i w' => w = w' ∧ i ≤ s.length ∧ ∀ j, j < i → okAt s j) (fun i _ => s.length - i) 0 rfl ⟨rfl, Nat.zero_le _, fun j hj => absurd hj (by omega)⟩ ?_
  rintro i w' ⟨rfl, hi, hall⟩
  refine wif_d (fun h1 => ?_) (fun h1 => ?_)
  · have next : okAt s i → ∀ j, j < i + 1 → okAt s j := fun h j hj => by
      by_cases hji : j < i
      · exact hall j hji
      · have : j = i := by omega
        subst this; exact h
    have bad : ¬ okAt s i → identB s = false := fun h => by
      rw [← Bool.not_eq_true]; exact fun e => h (((identB_iff s).1 e).2 i (by omega))
    refine sindex' (by omega) (fun x hx hx8 => ?_)
    rw [hby] at hx
    refine call (letter_fn x w) ?_
    rintro _ _ ⟨rfl, rfl⟩
    cases hlet : isLet x with
    | true =>
      refine wif_f rfl ?_
      refine norm_i64_to ((i + 1 : Nat) : Int) (by omega) (by omega) ?_
      exact ⟨i + 1, rfl, ⟨rfl, by omega, next ⟨x, hx, .inl hlet⟩⟩, by show s.length - (i + 1) < s.length - i; omega⟩
    | false =>
      have no : (i ≠ 0 → ¬ (48 ≤ x ∧ x ≤ 57)) → ¬ okAt s i := fun h ⟨b, hb, hh⟩ => by
        have : b = x := Option.some.inj (hb.symm.trans hx)
        subst this
        rcases hh with hh | hh
        · rw [hlet] at hh; cases hh
        · exact h hh.1 hh.2
      refine wif_t rfl ?_
      refine wif_eq (fun h2 => ?_) (fun h2 => ?_)
      · exact ⟨by rw [bad (no (fun h => absurd h (by omega)))], rfl⟩
      · refine sindex' (by omega) (fun y hy hy8 => ?_)
        rw [hby] at hy
        have : y = x := Option.some.inj (hy.symm.trans hx)
        subst this
        refine wif_d (fun h3 => ?_) (fun h3 => ?_)
        · exact ⟨by rw [bad (no (fun _ h => by omega))], rfl⟩
        · refine sindex' (by omega) (fun z hz hz8 => ?_)
          rw [hby] at hz
          have : z = y := Option.some.inj (hz.symm.trans hx)
          subst this
          refine wif_d (fun h4 => ?_) (fun h4 => ?_)
          · exact ⟨by rw [bad (no (fun _ h => by omega))], rfl⟩
          · refine norm_i64_to ((i + 1 : Nat) : Int) (by omega) (by omega) ?_
            exact ⟨i + 1, rfl, ⟨rfl, by omega, next ⟨z, hx, .inr ⟨by omega, by omega, by omega⟩⟩⟩, by show s.length - (i + 1) < s.length - i; omega⟩
  · refine ⟨bool_v ?_, rfl⟩
    rw [identB_iff]
    constructor
    · rintro ⟨h, _⟩
      have : s.length ≠ 0 := fun e => h (List.eq_nil_of_length_eq_zero e)
      omega
    · intro h
      refine ⟨fun e => by have : s.length = 0 := by rw [e]; rfl
                          omega, fun j hj => hall j (by omega)⟩

/-- The first place of a string in a list. -/
def ixF (l : List Nat) : List (List Nat) → Option Nat
  | [] => none
  | s :: names => if s = l then some 0 else (ixF l names).map (· + 1)
theorem ixF_some {l : List Nat} : ∀ {names : List (List Nat)} {i : Nat}, (∀ j, j < i → names[j]? ≠ some l) → names[i]? = some l → ixF l names = some i
  | [], i, _, h => by simp at h
  | s :: names, 0, _, h => by simp at h; simp [ixF, h]
  | s :: names, i + 1, hn, h => by
    have hs : s ≠ l := fun e => hn 0 (by omega) (by simp [e])
    have := ixF_some (names := names) (i := i) (fun j hj => by have := hn (j + 1) (by omega); simpa using this) (by simpa using h)
    simp [ixF, hs, this]
theorem ixF_none {l : List Nat} : ∀ {names : List (List Nat)}, l ∉ names → ixF l names = none
  | [], _ => rfl
  | s :: names, h => by
    simp only [List.mem_cons, not_or] at h
    rw [ixF, if_neg (fun e => h.1 e.symm), ixF_none h.2]; rfl
def ixI (l : List Nat) (names : List (List Nat)) : Int := match ixF l names with
  | some i => (i : Int)
  | none => -1
theorem ixF_ixN {names : List (List Nat)} (h : names.Nodup) (l : List Nat) : ixF l names = ixN names l := by
  by_cases hm : l ∈ names
  · obtain ⟨i, hi, rfl⟩ := List.mem_iff_getElem.1 hm
    have e1 : ixF names[i] names = some i := ixF_some (fun j hj e => by
      have hj' : j < names.length := by omega
      rw [List.getElem?_eq_getElem hj'] at e
      have := (List.getElem_inj h).1 (Option.some.inj e)
      omega) (List.getElem?_eq_getElem hi)
    have e2 := ixR_at names i 0 none names[i] h (List.getElem?_eq_getElem hi)
    rw [e1]; unfold ixN; rw [e2, Nat.zero_add]
  · rw [ixF_none hm]; unfold ixN; rw [ixR_no _ _ _ _ hm]
theorem ixF_mem {l : List Nat} : ∀ {names : List (List Nat)}, l ∈ names → ∃ k, ixF l names = some k
  | [], h => by cases h
  | s :: names, h => by
    by_cases e : s = l
    · exact ⟨0, by rw [ixF, if_pos e]⟩
    · obtain ⟨k, hk⟩ := ixF_mem (names := names) (by simp only [List.mem_cons] at h; exact h.resolve_left (fun e' => e e'.symm))
      exact ⟨k + 1, by rw [ixF, if_neg e, hk]; rfl⟩
theorem ixI_neg {l : List Nat} {names : List (List Nat)} : 0 ≤ ixI l names ↔ l ∈ names := by
  unfold ixI
  by_cases hm : l ∈ names
  · obtain ⟨k, hk⟩ := ixF_mem hm
    rw [hk]; simp [hm]
  · rw [ixF_none hm]; simp [hm]

theorem rindex_fn (names : List (List Nat)) (A : Option Addr) (n c : Nat) (l : List Nat) (w : World) (h : Sl w 1 A n c (strsV names)) (hb : ∀ s ∈ names, ∀ x ∈ s, x < 256) (hl : ∀ x ∈ l, x < 256) :
    Fn Tryz.prog 82 [.slice A n c, .string (strOf l)] w (fun v w' => v = .int .i64 (ixI l names) ∧ w = w') := by
  have hn : names.length = n := by have := h.len; rw [strsV_length] at this; omega
  have hn9 : n ≤ 9223372036854775807 := by have := h.le; have := h.cap; simp only [maxLen] at this; omega
  refine fn_of_exec (c := { c82 with cuts := [] }) gx_ok Tryz.func82 rfl rfl rfl ?_
  refine loop gx_ok [5] (fun s : Nat => [.int .i64 s]) (fun s w' => w = w' ∧ s ≤ n ∧ ∀ j, j < s → names[j]? ≠ some l) (fun s _ => n - s) 0 rfl ⟨rfl, Nat.zero_le _, fun j hj => absurd hj (by omega)⟩ ?_
  rintro s _ ⟨rfl, hs, hno⟩
  refine wif_d (fun h3 => ?_) (fun h3 => ?_)
  · have hgs : names[s]? = some names[s] := List.getElem?_eq_getElem (by omega)
    generalize names[s] = t at hgs
    refine index_sl h (by omega) (fun ad u hA hu hcell => ?_)
    rw [strsV_get hgs] at hu
    cases hu
    refine load hcell ?_
    have ht8 := hb t (List.mem_of_getElem? hgs)
    by_cases e : t = l
    · subst e
      refine wif_dt rfl ?_
      exact ⟨by unfold ixI; rw [ixF_some hno hgs], rfl⟩
    · refine wif_df (fun h => e (strOf_inj ht8 hl h)) ?_
      refine norm_i64_to ((s + 1 : Nat) : Int) (by omega) (by omega) ?_
      refine ⟨s + 1, rfl, ⟨rfl, by omega, fun j hj => ?_⟩, by show n - (s + 1) < n - s; omega⟩
      by_cases hjs : j < s
      · exact hno j hjs
      · have : j = s := by omega
        subst this
        rw [hgs]; exact fun h => e (Option.some.inj h)
  · refine ⟨?_, rfl⟩
    have : l ∉ names := fun hm => by
      obtain ⟨i, hi, rfl⟩ := List.mem_iff_getElem.1 hm
      exact hno i (by omega) (List.getElem?_eq_getElem hi)
    unfold ixI; rw [ixF_none this]

theorem nameOk_ident (s : List Nat) : nameOk s = true ↔ identB s = true ∧ s ≠ trueL ∧ s ≠ falseL := by
  constructor
  · intro h
    obtain ⟨h1, h2, h3⟩ := nameOk_word h
    refine ⟨?_, h2, h3⟩
    unfold identB
    rw [wordB_isWord h1]
    exact List.all_eq_true.2 h1.2
  · rintro ⟨h1, h2, h3⟩
    unfold identB at h1
    rw [Bool.and_eq_true] at h1
    cases s with
    | nil => exact absurd h1.1 (by decide)
    | cons b r =>
      have hl : isLet b = true := h1.1
      have hd : isDig b = false := by
        have := (isLet_iff b).1 hl
        unfold isDig; simp; omega
      unfold nameOk
      rw [decide_eq_true_eq]
      refine ⟨by simp, ?_, h2, h3⟩
      show (if isDig b then 0 else ((b :: r).takeWhile isId).length) = _
      rw [hd, if_neg (by decide), takeWhile_all h1.2]

theorem rnames_fn (names : List (List Nat)) (A : Option Addr) (n c : Nat) (w : World) (h : Sl w 1 A n c (strsV names)) (hb : NamesOk names) :
    Fn Tryz.prog 48 [.slice A n c] w (fun v w' => v = .bool (numsOk names) ∧ Ext w w') := by
  have hn : names.length = n := by have := h.len; rw [strsV_length] at this; omega
  have hn9 : n ≤ 9223372036854775807 := by have := h.le; have := h.cap; simp only [maxLen] at this; omega
  have hiff := numsOk_iff hb
  refine fn_of_exec (c := { c48 with cuts := [] }) gx_ok Tryz.func48 rfl rfl rfl ?_
  refine loop gx_ok [3] (fun s : Nat => [.int .i64 s]) (fun s w' => Ext w w' ∧ s ≤ n ∧ (names.take s).all nameOk = true ∧ (names.take s).Nodup) (fun s _ => n - s) 0 rfl ⟨Ext.refl w, Nat.zero_le _, rfl, by simp⟩ ?_
  rintro s w3 ⟨hE3, hs, hall, hnd⟩
  refine wif_d (fun h3 => ?_) (fun h3 => ?_)
  · have hgs : names[s]? = some names[s] := List.getElem?_eq_getElem (by omega)
    generalize names[s] = t at hgs
    obtain ⟨ht8, htl⟩ := hb t (List.mem_of_getElem? hgs)
    have e1 : ((strOf t = (⟨#[116, 114, 117, 101]⟩ : ByteArray)) ↔ t = trueL) := ⟨fun h => strOf_inj ht8 (by decide) h, fun h => by rw [h]; rfl⟩
    have e2 : ((strOf t = (⟨#[102, 97, 108, 115, 101]⟩ : ByteArray)) ↔ t = falseL) := ⟨fun h => strOf_inj ht8 (by decide) h, fun h => by rw [h]; rfl⟩
    have bad : (nameOk t ≠ true ∨ t ∈ names.take s) → numsOk names = false := fun h => by
      rw [← Bool.not_eq_true]
      intro ho
      rcases h with h | h
      · rw [not_all hgs h] at ho; cases ho
      · have hnn := (hiff.1 ho).2.1
        obtain ⟨i, hi, he⟩ := List.mem_iff_getElem.1 h
        rw [List.length_take] at hi
        rw [List.getElem_take] at he
        have hsl : s < names.length := by omega
        have : names[s] = t := by rw [List.getElem?_eq_getElem hsl] at hgs; exact Option.some.inj hgs
        have := (List.getElem_inj (h₀ := (by omega : i < names.length)) (h₁ := hsl) hnn).1 (by rw [he, this])
        omega
    have hN := h.ext hE3
    have rd : ∀ {w' : World} {K : Addr → Prop}, Ext w3 w' → (∀ p, (∀ w2, Ext w3 w2 → w2.cell? p = some (.string (strOf t))) → K p) → Index A n (s : Int) 1 K := fun {w'} {K} _ k => by
      refine index_sl hN (by omega) (fun ad u hA hu hcell => ?_)
      rw [strsV_get hgs] at hu
      cases hu
      exact k _ (fun w2 h2 => h2.cell hcell)
    refine draw_plan gx_ok (Ext w3) 31 [(true, 0), (true, 1), (true, 2), (true, 3), (false, 4), (true, 5), (true, 6), (true, 7), (true, 8), (true, 9), (true, 10), (true, 11), (true, 12), (true, 13), (true, 14), (true, 15), (true, 16), (true, 17), (true, 18), (true, 19), (true, 20), (true, 21), (true, 22), (true, 24), (true, 25), (true, 26), (true, 27), (false, 23), (false, 28), (true, 29), (true, 30)] (by kernel_rfl) (Ext.drew w3) ?_
    refine rd (Ext.refl _) (fun p hp => ?_)
    refine qload hp ?_
    refine call (ident_fn t _ ht8 htl) ?_
    rintro _ _ ⟨rfl, rfl⟩
    refine ⟨Ext.drew w3, ?_⟩
    cases hid : identB t with
    | false =>
      refine wif_t rfl ?_
      have : nameOk t ≠ true := fun h => by rw [((nameOk_ident t).1 h).1] at hid; cases hid
      exact ⟨by rw [bad (.inl this)], hE3.trans (Ext.drew w3)⟩
    | true =>
      refine wif_f rfl ?_
      refine rd (Ext.refl _) (fun p2 hp2 => ?_)
      refine qload hp2 ?_
      by_cases ht1 : t = trueL
      · refine wif_dt (e1.2 ht1) ?_
        have : nameOk t ≠ true := fun h => ((nameOk_ident t).1 h).2.1 ht1
        exact ⟨by rw [bad (.inl this)], hE3.trans (Ext.drew w3)⟩
      refine wif_df (fun h => ht1 (e1.1 h)) ?_
      refine rd (Ext.refl _) (fun p3 hp3 => ?_)
      refine qload hp3 ?_
      by_cases ht2 : t = falseL
      · refine wif_dt (e2.2 ht2) ?_
        have : nameOk t ≠ true := fun h => ((nameOk_ident t).1 h).2.2 ht2
        exact ⟨by rw [bad (.inl this)], hE3.trans (Ext.drew w3)⟩
      refine wif_df (fun h => ht2 (e2.1 h)) ?_
      refine rd (Ext.refl _) (fun p4 hp4 => ?_)
      refine qload hp4 ?_
      refine at_slice_h gx_ok rfl rfl rfl rfl rfl rfl (by have := h.le; omega) ?_
      refine ⟨Ext.drew w3, ?_⟩
      have hT : Sl w3.drew 1 A s c (strsV (names.take s)) := by
        have := (hN.ext (Ext.drew w3)).take (m := s) (by omega)
        rw [Nat.mul_one] at this
        rw [show strsV (names.take s) = (strsV names).take s by simp [strsV]]
        exact this
      refine call (rindex_fn (names.take s) A s c t _ hT (fun u hu => (hb u (List.mem_of_mem_take hu)).1) ht8) ?_
      rintro _ _ ⟨rfl, rfl⟩
      refine ⟨Ext.drew w3, ?_⟩
      have hok : nameOk t = true := (nameOk_ident t).2 ⟨hid, ht1, ht2⟩
      by_cases hm : t ∈ names.take s
      · refine wif_dt (ixI_neg.2 hm) ?_
        exact ⟨by rw [bad (.inr hm)], hE3.trans (Ext.drew w3)⟩
      · refine wif_df (fun h => hm (ixI_neg.1 h)) ?_
        refine norm_i64_to ((s + 1 : Nat) : Int) (by omega) (by omega) ?_
        refine ⟨s + 1, rfl, ⟨hE3.trans (Ext.drew w3), by omega, all_take hall hgs hok, ?_⟩, by show n - (s + 1) < n - s; omega⟩
        rw [List.take_add_one, hgs]
        simp only [Option.toList_some]
        rw [List.nodup_append]
        exact ⟨hnd, by simp, fun x hx y hy e => by simp only [List.mem_singleton] at hy; subst hy; subst e; exact hm hx⟩
  · have : s = n := by omega
    subst this
    rw [List.take_of_length_le (by omega)] at hall hnd
    exact ⟨bool_v (by rw [hiff]; exact ⟨fun h => by omega, fun h => ⟨hall, hnd, by omega⟩⟩), hE3⟩
end

section
open Go Go.RowKit

theorem strsV_snoc (l : List (List Nat)) (s : List Nat) : strsV (l ++ [s]) = strsV l ++ [.string (strOf s)] := by simp [strsV]
/-- The n bytes from i on are a token, and behind them goes on what is left. -/
def TokAt (s : List Nat) (i n : Nat) : Prop := 0 < n ∧ i + n ≤ s.length ∧ lexA (s.drop i) = ((s.drop i).take n :: (lexA (s.drop (i + n))).1, (lexA (s.drop (i + n))).2)
theorem tokAt_one {s : List Nat} {i b : Nat} (hb : s[i]? = some b) (h : b = 40 ∨ b = 41 ∨ b = 33) : TokAt s i 1 := by
  have hi := (List.getElem?_eq_some_iff.1 hb).1
  have e := List.drop_eq_getElem_cons hi
  rw [List.getElem?_eq_getElem hi] at hb
  rw [Option.some.inj hb] at e
  exact ⟨by omega, by omega, by rw [e, lexA_one h]; rfl⟩
theorem tokAt_two {s : List Nat} {i b : Nat} (hb : s[i]? = some b) (hb2 : s[i + 1]? = some b) (h : b = 38 ∨ b = 124) : TokAt s i 2 := by
  have hi := (List.getElem?_eq_some_iff.1 hb).1
  have hi2 := (List.getElem?_eq_some_iff.1 hb2).1
  have e := List.drop_eq_getElem_cons hi
  have e2 := List.drop_eq_getElem_cons hi2
  rw [List.getElem?_eq_getElem hi] at hb
  rw [List.getElem?_eq_getElem hi2] at hb2
  rw [Option.some.inj hb, e2, Option.some.inj hb2] at e
  exact ⟨by omega, by omega, by rw [e, lexA_two h]; rfl⟩
theorem drop_sp {s : List Nat} {i b : Nat} (hb : s[i]? = some b) (h : b = 32 ∨ b = 9) : lexA (s.drop i) = lexA (s.drop (i + 1)) := by
  have hi := (List.getElem?_eq_some_iff.1 hb).1
  have e := List.drop_eq_getElem_cons hi
  rw [List.getElem?_eq_getElem hi] at hb
  rw [e, Option.some.inj hb, lexA_sp h]
theorem lex_bad {s : List Nat} {i b : Nat} (hb : s[i]? = some b) (h1 : ¬ (b = 32 ∨ b = 9)) (h2 : ¬ (b = 40 ∨ b = 41 ∨ b = 33)) (h3 : ¬ ((b = 38 ∨ b = 124) ∧ s[i + 1]? = some b)) (h4 : isLet b = false) : lexA (s.drop i) = ([], false) := by
  have hi := (List.getElem?_eq_some_iff.1 hb).1
  have e := List.drop_eq_getElem_cons hi
  rw [List.getElem?_eq_getElem hi] at hb
  rw [e, Option.some.inj hb]
  refine lexA_bad h1 h2 (fun h => h3 ⟨h.1, ?_⟩) h4
  rw [← h.2, List.head?_drop]
/-- All of n bytes belong to an identifier, the first is a letter. -/
def IdAt (s : List Nat) (i n : Nat) : Prop := 0 < n ∧ i + n ≤ s.length ∧ identB ((s.drop i).take n) = true
theorem idAt_tok {s : List Nat} {i n : Nat} (h : IdAt s i n) (hs : i + n = s.length ∨ identB ((s.drop i).take (n + 1)) = false) : TokAt s i n := by
  obtain ⟨h1, h2, h3⟩ := h
  have hw : WordB ((s.drop i).take n) := by
    unfold identB at h3
    rw [Bool.and_eq_true] at h3
    refine ⟨?_, List.all_eq_true.1 h3.2⟩
    cases hh : (s.drop i).take n with
    | nil => rw [hh] at h3; exact absurd h3.1 (by decide)
    | cons b r => rw [hh] at h3; exact ⟨b, r, rfl, h3.1⟩
  have hst : Stop (s.drop (i + n)) := fun b r e => by
    rcases hs with hs | hs
    · rw [List.drop_of_length_le (by omega)] at e; cases e
    · rw [← Bool.not_eq_true]
      intro hb
      have hbn : (s.drop i)[n]? = some b := by rw [List.getElem?_drop, ← List.head?_drop, e]; rfl
      have e2 : (s.drop i).take (n + 1) = (s.drop i).take n ++ [b] := by rw [List.take_add_one, hbn]; rfl
      have : identB ((s.drop i).take (n + 1)) = true := by
        unfold identB at h3 ⊢
        rw [e2, List.all_append]
        rw [Bool.and_eq_true] at h3
        cases hh : (s.drop i).take n with
        | nil => rw [hh] at h3; exact absurd h3.1 (by decide)
        | cons c r =>
          rw [hh] at h3
          simp only [List.cons_append, Bool.and_eq_true]
          exact ⟨h3.1, h3.2, by simp [hb]⟩
      rw [this] at hs; cases hs
  refine ⟨h1, h2, ?_⟩
  have := lex_word hw hst
  rw [← List.drop_drop, List.take_append_drop] at this
  rw [this, List.drop_drop]
theorem idAt_one {s : List Nat} {i b : Nat} (hb : s[i]? = some b) (h : isLet b = true) : IdAt s i 1 := by
  have hi := (List.getElem?_eq_some_iff.1 hb).1
  have e := List.drop_eq_getElem_cons hi
  rw [List.getElem?_eq_getElem hi] at hb
  refine ⟨by omega, by omega, ?_⟩
  rw [e, Option.some.inj hb]
  unfold identB
  show (isLet b && [b].all isId) = true
  rw [h]; simp [isId_let h]
theorem sub_str {s : List Nat} {i n : Nat} : (strOf s).extract i (i + n) = strOf ((s.drop i).take n) := by
  rw [strOf_extract, List.drop_take]
  congr 2; omega

theorem tokens_fn (s : List Nat) (w : World) (hs : ∀ x ∈ s, x < 256) (hl : s.length ≤ 1000000000000) :
    Fn Tryz.prog 154 [.string (strOf s)] w (fun v w' => ∃ A n c, v = .tuple #[.slice A n c, .bool (lexA s).2] ∧ Ext w w' ∧ Sl w' 1 A n c (strsV (if (lexA s).2 then (lexA s).1 else []))) := by
  have hsz : (strOf s).size = s.length := strOf_size s
  have hby : bytesOf (strOf s) = s := bytesOf_strOf hs
  refine fn_of_exec (c := { c154 with cuts := [6] }) gx_ok Tryz.func154 rfl rfl rfl ?_
  refine loop gx_ok [5, 4] (fun t : Nat × List (List Nat) × Option Addr × Nat => [.int .i64 t.1, .slice t.2.2.1 t.2.1.length t.2.2.2])
    (fun t w' => Ext w w' ∧ t.1 ≤ s.length ∧ t.2.1.length ≤ t.1 ∧ Own w' w.heap.size 9 1 t.2.2.1 t.2.1.length t.2.2.2 (strsV t.2.1) ∧ lexA s = (t.2.1 ++ (lexA (s.drop t.1)).1, (lexA (s.drop t.1)).2)) (fun t _ => s.length - t.1) (0, [], none, 0) rfl
    ⟨Ext.refl w, Nat.zero_le _, Nat.le_refl _, Own.nil _ _ _ _, by simp⟩ ?_
  rintro ⟨i, out, A, c⟩ w1 ⟨hE1, hi, hol, hown, hlex⟩
  simp only at hE1 hi hol hown hlex
  refine wif_d (fun h1 => ?_) (fun h1 => ?_)
  · have hgi : s[i]? = some s[i] := List.getElem?_eq_getElem (by omega)
    generalize s[i] = b at hgi
    have rd : ∀ {K : Int → Prop}, K (b : Int) → SIndex (strOf s) (i : Int) K := fun k => sindex' (by omega) (fun x hx _ => by
      rw [hby] at hx
      have : x = b := Option.some.inj (hx.symm.trans hgi)
      subst this; exact k)
    refine cutIn [] gx_ok [6, 5] (fun n : Nat => [.int .i64 n, .int .i64 i]) (fun n w' => w1 = w' ∧ TokAt s i n) ?_ ?_
    · refine rd ?_
      have cont : (b = 32 ∨ b = 9) → ∀ (K : Prop), K → K := fun _ _ k => k
      by_cases c1 : b = 32
      · refine wif_eqt (by omega) ?_
        refine norm_i64_to ((i + 1 : Nat) : Int) (by omega) (by omega) ?_
        exact ⟨(i + 1, out, A, c), rfl, ⟨hE1, by simp only; omega, by simp only; omega, hown, by simp only; rw [← drop_sp hgi (.inl c1)]; exact hlex⟩, by show s.length - (i + 1) < s.length - i; omega⟩
      refine wif_eqf (by omega) ?_
      refine rd ?_
      by_cases c2 : b = 9
      · refine wif_eqt (by omega) ?_
        refine norm_i64_to ((i + 1 : Nat) : Int) (by omega) (by omega) ?_
        exact ⟨(i + 1, out, A, c), rfl, ⟨hE1, by simp only; omega, by simp only; omega, hown, by simp only; rw [← drop_sp hgi (.inr c2)]; exact hlex⟩, by show s.length - (i + 1) < s.length - i; omega⟩
      refine wif_eqf (by omega) ?_
      refine rd ?_
      by_cases c3 : b = 40
      · refine wif_eqt (by omega) ?_
        exact ⟨1, rfl, rfl, tokAt_one hgi (.inl c3)⟩
      refine wif_eqf (by omega) ?_
      refine rd ?_
      by_cases c4 : b = 41
      · refine wif_eqt (by omega) ?_
        exact ⟨1, rfl, rfl, tokAt_one hgi (.inr (.inl c4))⟩
      refine wif_eqf (by omega) ?_
      refine rd ?_
      by_cases c5 : b = 33
      · refine wif_eqt (by omega) ?_
        exact ⟨1, rfl, rfl, tokAt_one hgi (.inr (.inr c5))⟩
      refine wif_eqf (by omega) ?_
      refine norm_i64_to ((i + 1 : Nat) : Int) (by omega) (by omega) ?_
      have h40 : ¬ (b = 32 ∨ b = 9) := by omega
      have h41 : ¬ (b = 40 ∨ b = 41 ∨ b = 33) := by omega
      have b8 := hs b (List.mem_of_getElem? hgi)
      refine wif_d (fun h2 => ?_) (fun h2 => ?_)
      · have hg2 : s[i + 1]? = some s[i + 1] := List.getElem?_eq_getElem (by omega)
        generalize s[i + 1] = b2 at hg2
        have b28 := hs b2 (List.mem_of_getElem? hg2)
        have htwo : (s.drop i).take 2 = [b, b2] := by
          have hi := (List.getElem?_eq_some_iff.1 hgi).1
          have hi2 := (List.getElem?_eq_some_iff.1 hg2).1
          rw [List.drop_eq_getElem_cons hi, List.drop_eq_getElem_cons hi2]
          rw [List.getElem?_eq_getElem hi] at hgi
          rw [List.getElem?_eq_getElem hi2] at hg2
          rw [Option.some.inj hgi, Option.some.inj hg2]; rfl
        have l8 : ∀ x ∈ [b, b2], x < 256 := by simp [b8, b28]
        refine norm_i64_to ((i + 2 : Nat) : Int) (by omega) (by omega) ?_
        refine need_to (v' := .string (strOf [b, b2])) ⟨by omega, by omega, by omega⟩ (by rw [← htwo]; simp only [Int.toNat_natCast]; rw [sub_str]) ?_
        by_cases c6 : b = 38 ∧ b2 = 38
        · obtain ⟨rfl, rfl⟩ := c6
          refine wif_dt rfl ?_
          exact ⟨2, rfl, rfl, tokAt_two hgi hg2 (.inl rfl)⟩
        refine wif_df (fun e => c6 (by have := strOf_inj (m := [38, 38]) l8 (by decide) e; simpa using this)) ?_
        refine norm_i64_to ((i + 2 : Nat) : Int) (by omega) (by omega) ?_
        refine need_to (v' := .string (strOf [b, b2])) ⟨by omega, by omega, by omega⟩ (by rw [← htwo]; simp only [Int.toNat_natCast]; rw [sub_str]) ?_
        by_cases c7 : b = 124 ∧ b2 = 124
        · obtain ⟨rfl, rfl⟩ := c7
          refine wif_dt rfl ?_
          exact ⟨2, rfl, rfl, tokAt_two hgi hg2 (.inr rfl)⟩
        refine wif_df (fun e => c7 (by have := strOf_inj (m := [124, 124]) l8 (by decide) e; simpa using this)) ?_
        have h3 : ¬ ((b = 38 ∨ b = 124) ∧ s[i + 1]? = some b) := by
          rintro ⟨h4, h5⟩
          have : b2 = b := Option.some.inj (hg2.symm.trans h5)
          omega
        refine rd ?_
        refine call (letter_fn b w1) ?_
        rintro _ _ ⟨rfl, rfl⟩
        cases hb : isLet b with
        | false =>
          refine wif_f rfl ?_
          have e := lex_bad hgi h40 h41 h3 hb
          have : (lexA s).2 = false := by rw [hlex, e]
          exact ⟨none, 0, 0, by rw [this], hE1, by rw [this]; exact Sl.nil _ _⟩
        | true =>
          refine wif_t rfl ?_
          refine loop gx_ok [6] (fun n : Nat => [.int .i64 n]) (fun n w' => w1 = w' ∧ IdAt s i n) (fun n _ => s.length - n) 1 rfl ⟨rfl, idAt_one hgi hb⟩ ?_
          rintro n _ ⟨rfl, hid⟩
          have hid2 := hid.2.1
          refine norm_i64_to ((i + n : Nat) : Int) (by omega) (by omega) ?_
          refine wif_d (fun h5 => ?_) (fun h5 => ?_)
          · refine norm_i64_to ((i + n : Nat) : Int) (by omega) (by omega) ?_
            refine norm_i64_to ((i + (n + 1) : Nat) : Int) (by omega) (by omega) ?_
            refine need_to (v' := .string (strOf ((s.drop i).take (n + 1)))) ⟨by omega, by omega, by omega⟩ (by simp only [Int.toNat_natCast]; rw [sub_str]) ?_
            have l8 : ∀ x ∈ (s.drop i).take (n + 1), x < 256 := B8.take (B8.drop hs i) (n + 1)
            refine call (ident_fn ((s.drop i).take (n + 1)) w1 l8 (by rw [List.length_take, List.length_drop]; omega)) ?_
            rintro _ _ ⟨rfl, rfl⟩
            cases hi2 : identB ((s.drop i).take (n + 1)) with
            | true =>
              refine wif_t rfl ?_
              refine norm_i64_to ((n + 1 : Nat) : Int) (by omega) (by omega) ?_
              exact ⟨n + 1, rfl, ⟨rfl, by omega, by omega, hi2⟩, by show s.length - (n + 1) < s.length - n; omega⟩
            | false =>
              refine wif_f rfl ?_
              exact ⟨n, rfl, rfl, idAt_tok hid (.inr hi2)⟩
          · exact ⟨n, rfl, rfl, idAt_tok hid (.inl (by omega))⟩
      · have h3 : ¬ ((b = 38 ∨ b = 124) ∧ s[i + 1]? = some b) := by
          rintro ⟨h4, h5⟩
          have := (List.getElem?_eq_some_iff.1 h5).1
          omega
        refine rd ?_
        refine call (letter_fn b w1) ?_
        rintro _ _ ⟨rfl, rfl⟩
        cases hb : isLet b with
        | false =>
          refine wif_f rfl ?_
          have e := lex_bad hgi h40 h41 h3 hb
          have : (lexA s).2 = false := by rw [hlex, e]
          exact ⟨none, 0, 0, by rw [this], hE1, by rw [this]; exact Sl.nil _ _⟩
        | true =>
          refine wif_t rfl ?_
          refine loop gx_ok [6] (fun n : Nat => [.int .i64 n]) (fun n w' => w1 = w' ∧ IdAt s i n) (fun n _ => s.length - n) 1 rfl ⟨rfl, idAt_one hgi hb⟩ ?_
          rintro n _ ⟨rfl, hid⟩
          have hid2 := hid.2.1
          refine norm_i64_to ((i + n : Nat) : Int) (by omega) (by omega) ?_
          refine wif_d (fun h5 => ?_) (fun h5 => ?_)
          · refine norm_i64_to ((i + n : Nat) : Int) (by omega) (by omega) ?_
            refine norm_i64_to ((i + (n + 1) : Nat) : Int) (by omega) (by omega) ?_
            refine need_to (v' := .string (strOf ((s.drop i).take (n + 1)))) ⟨by omega, by omega, by omega⟩ (by simp only [Int.toNat_natCast]; rw [sub_str]) ?_
            have l8 : ∀ x ∈ (s.drop i).take (n + 1), x < 256 := B8.take (B8.drop hs i) (n + 1)
            refine call (ident_fn ((s.drop i).take (n + 1)) w1 l8 (by rw [List.length_take, List.length_drop]; omega)) ?_
            rintro _ _ ⟨rfl, rfl⟩
            cases hi2 : identB ((s.drop i).take (n + 1)) with
            | true =>
              refine wif_t rfl ?_
              refine norm_i64_to ((n + 1 : Nat) : Int) (by omega) (by omega) ?_
              exact ⟨n + 1, rfl, ⟨rfl, by omega, by omega, hi2⟩, by show s.length - (n + 1) < s.length - n; omega⟩
            | false =>
              refine wif_f rfl ?_
              exact ⟨n, rfl, rfl, idAt_tok hid (.inr hi2)⟩
          · exact ⟨n, rfl, rfl, idAt_tok hid (.inl (by omega))⟩
    · rintro n _ ⟨rfl, h1, h2, h3⟩
      refine norm_i64_to ((i + n : Nat) : Int) (by omega) (by omega) ?_
      refine need_to (v' := .string (strOf ((s.drop i).take n))) ⟨by omega, by omega, by omega⟩ (by simp only [Int.toNat_natCast]; rw [sub_str]) ?_
      refine at_build1 gx_ok rfl rfl rfl rfl rfl rfl rfl rfl (fun w2 hE2 hz2 hB2 => ?_)
      have hs2 : Sl w2 1 (some ⟨w1.heap.size, 0, none⟩) 1 1 [.string (strOf ((s.drop i).take n))] := Sl.own' (n := 1) hB2 rfl (by decide)
      refine at_app (sz := 1) (n := out.length) gx_ok rfl rfl rfl rfl rfl (by decide) rfl rfl ⟨_, rfl⟩ rfl rfl (hown.ext hE2) hs2 (by intro u hu; simp at hu; rcases hu with rfl; rfl) (by unfold maxLen; omega) (by show _ * 16 ≤ _; omega) (by have := hE1.size; have := hE2.size; omega) ?_
      intro A' c' w3 hm3 hown3 hmv3
      refine norm_i64_to ((i + n : Nat) : Int) (by omega) (by omega) ?_
      have hE13 : Ext w w3 := hm3.ext (hE1.trans hE2) (fun k hk => (hown.rows k hk).1)
      refine ⟨(i + n, out ++ [(s.drop i).take n], A', c'), by simp only [List.length_append, List.length_cons, List.length_nil]; rfl, ⟨hE13, h2, by simp only [List.length_append, List.length_cons, List.length_nil]; omega, by simp only [List.length_append, List.length_cons, List.length_nil]; rw [strsV_snoc]; exact hown3, by simp only; rw [hlex, h3]; simp⟩, by show s.length - (i + n) < s.length - i; omega⟩
  · have : i = s.length := by omega
    subst this
    rw [List.drop_of_length_le (Nat.le_refl _)] at hlex
    have h2 : (lexA s).2 = true := by rw [hlex]; rfl
    have h1 : (lexA s).1 = out := by rw [hlex]; simp [lexA_nil]
    rw [h2]
    exact ⟨A, out.length, c, rfl, hE1, by rw [h1]; exact hown.sl⟩
end

section
open Go Go.RowKit

/-- What a parser holds fast. -/
structure RD where
  NA : Option Addr
  nn : Nat
  nc : Nat
  names : List (List Nat)
  LA : Option Addr
  ln : Nat
  lc : Nat
  toks : List (List Nat)
/-- How far it has come. -/
structure Rs where
  at_ : Nat
  f : List Fz
  bad : Bool
  unk : Bool
structure RDok (w0 : World) (D : RD) : Prop where
  nms : Sl w0 1 D.NA D.nn D.nc (strsV D.names)
  tks : Sl w0 1 D.LA D.ln D.lc (strsV D.toks)
  nb : NamesOk D.names
  tb : ∀ t ∈ D.toks, (∀ x ∈ t, x < 256) ∧ t.length ≤ 1000000000000
  wf : ∀ t ∈ D.toks, identB t = isWord t
  lim : D.toks.length ≤ 1000000000000
theorem RDok.ln {w0 : World} {D : RD} (h : RDok w0 D) : D.toks.length = D.ln := by have := h.tks.len; rw [strsV_length] at this; omega
structure Rq (w0 w : World) (base r : Nat) (D : RD) (A : Option Addr) (c : Nat) (s : Rs) : Prop where
  e0 : Ext w0 w
  r0 : w0.heap.size ≤ r
  lt : r < base
  top : base ≤ w.heap.size
  blk : Blk w r 218 [.slice D.NA D.nn D.nc, .slice D.LA D.ln D.lc, .int .i64 s.at_, .slice A s.f.length c, .bool s.bad, .bool s.unk]
  own : Own w base 205 4 A s.f.length c (fzV s.f)
  le : s.at_ ≤ D.toks.length
/-- The parser has come to s. -/
def RTo (w0 : World) (base r : Nat) (D : RD) (s : Rs) (w : World) : Prop := ∃ A c, Rq w0 w base r D A c s
theorem Rq.nrow {w0 w : World} {base r : Nat} {D : RD} {A : Option Addr} {c : Nat} {s : Rs} (h : Rq w0 w base r D A c s) : ¬ rowS A r := fun hr => by
  have := (h.own.rows r hr).1
  have := h.lt
  omega
theorem Rq.ext {w0 w w' : World} {base r : Nat} {D : RD} {A : Option Addr} {c : Nat} {s : Rs} (h : Rq w0 w base r D A c s) (k : Ext w w') : Rq w0 w' base r D A c s :=
  ⟨h.e0.trans k, h.r0, h.lt, Nat.le_trans h.top k.size, h.blk.ext k, h.own.ext k, h.le⟩
/-- A field of the parser is set. -/
theorem Rq.set {w0 w w' : World} {base r : Nat} {D : RD} {A : Option Addr} {c : Nat} {s : Rs} (h : Rq w0 w base r D A c s) (k : Mod (· = r) w w') {s' : Rs} (hf : s'.f = s.f) (hl : s'.at_ ≤ D.toks.length)
    (hB : Blk w' r 218 [.slice D.NA D.nn D.nc, .slice D.LA D.ln D.lc, .int .i64 s'.at_, .slice A s'.f.length c, .bool s'.bad, .bool s'.unk]) : Rq w0 w' base r D A c s' :=
  ⟨k.ext h.e0 (fun i hi => by have := h.r0; omega), h.r0, h.lt, Nat.le_trans h.top k.size, hB, by rw [hf]; exact h.own.mod k (fun i hi e => h.nrow (by rw [← e]; exact hi)), hl⟩

theorem head_eq {l : List (List Nat)} {i : Nat} {t : List Nat} (h : l[i]? = some t) : (l.drop i).head? = some t := by rw [List.head?_drop, h]

theorem rnext_fn (w0 : World) (base r : Nat) (D : RD) (A : Option Addr) (c : Nat) (s : Rs) (sym : List Nat) (w : World) (hD : RDok w0 D) (h : Rq w0 w base r D A c s) (hs : ∀ x ∈ sym, x < 256) :
    Fn Tryz.prog 174 [.pointer (some ⟨r, 0, none⟩), .string (strOf sym)] w (fun v w' => v = .bool (decide (s.at_ < D.toks.length ∧ (D.toks.drop s.at_).head? = some sym)) ∧
      Rq w0 w' base r D A c (if s.at_ < D.toks.length ∧ (D.toks.drop s.at_).head? = some sym then { s with at_ := s.at_ + 1 } else s)) := by
  have hln := hD.ln
  have hlim := hD.lim
  refine fn_of_exec (c := { c174 with cuts := [] }) gx_ok Tryz.func174 rfl rfl rfl ?_
  refine draw_plan gx_ok (Ext w) 24 [(true, 0), (true, 1), (true, 2), (true, 3), (true, 4), (true, 5), (true, 6), (true, 7), (true, 8), (true, 9), (true, 10), (true, 11), (true, 12), (true, 13), (true, 14), (true, 15), (true, 16), (true, 17), (true, 18), (true, 19), (true, 20), (true, 21), (true, 22), (true, 23)] (by kernel_rfl) (Ext.drew w) ?_
  have q : ∀ (j : Nat) (v : Value), [Value.slice D.NA D.nn D.nc, .slice D.LA D.ln D.lc, .int .i64 s.at_, .slice A s.f.length c, .bool s.bad, .bool s.unk][j]? = some v → ∀ w', Ext w w' → w'.cell? ((⟨r, 0, none⟩ : Addr).add j) = some v := fun j v hj w' hw' => by rw [(h.blk.ext hw').cell]; exact hj
  refine qload (q 2 _ rfl) ?_
  refine qload (q 1 _ rfl) ?_
  have hd := h.ext (Ext.drew w)
  refine wif_d (fun h1 => ?_) (fun h1 => ?_)
  · refine qload (q 1 _ rfl) ?_
    refine qload (q 2 _ rfl) ?_
    have hgs : D.toks[s.at_]? = some D.toks[s.at_] := List.getElem?_eq_getElem (by omega)
    generalize D.toks[s.at_] = t at hgs
    have ht8 := (hD.tb t (List.mem_of_getElem? hgs)).1
    refine index_sl (hD.tks.ext h.e0) (by omega) (fun ad u hA hu hcell => ?_)
    rw [strsV_get hgs] at hu
    cases hu
    refine qload (fun w' hw' => hw'.cell hcell) ?_
    by_cases e : t = sym
    · subst e
      refine wif_dt rfl ?_
      have hc : s.at_ < D.toks.length ∧ (D.toks.drop s.at_).head? = some t := ⟨by omega, head_eq hgs⟩
      rw [if_pos hc, decide_eq_true hc]
      refine load_blk hd.blk rfl ?_
      refine norm_i64_to ((s.at_ + 1 : Nat) : Int) (by omega) (by omega) ?_
      refine store_mod hd.blk (by simp) (fun w3 hM3 hB3 => ?_)
      exact ⟨rfl, hd.set hM3 rfl (by simp only; omega) hB3⟩
    · refine wif_df (fun h => e (strOf_inj ht8 hs h)) ?_
      have hc : ¬ (s.at_ < D.toks.length ∧ (D.toks.drop s.at_).head? = some sym) := fun hh => e (by rw [head_eq hgs] at hh; exact Option.some.inj hh.2)
      rw [if_neg hc, decide_eq_false hc]
      exact ⟨rfl, hd⟩
  · have hc : ¬ (s.at_ < D.toks.length ∧ (D.toks.drop s.at_).head? = some sym) := fun hh => h1 (by have := hh.1; omega)
    rw [if_neg hc, decide_eq_false hc]
    exact ⟨rfl, hd⟩

theorem rput_fn (w0 : World) (base r : Nat) (D : RD) (A : Option Addr) (c : Nat) (s : Rs) (x : Fz) (w : World) (hD : RDok w0 D) (h : Rq w0 w base r D A c s) (hl : s.f.length + 1 ≤ s.at_) :
    Fn Tryz.prog 175 [.pointer (some ⟨r, 0, none⟩), .agg x.cells.toArray] w (fun v w' => v = .int .i64 (s.f.length : Nat) ∧ RTo w0 base r D { s with f := s.f ++ [x] } w') := by
  have hlim := hD.lim
  have hle := h.le
  refine fn_of_exec (c := c175) gx_ok Tryz.func175 rfl rfl rfl ?_
  refine new (fun w1 hE1 hz1 hB1 => ?_)
  have h1 := h.ext hE1
  have hrows := h.own.rows
  have hC0 : Mod (rowS A) w1 w1.drew := Mod.of_ext _ (Ext.drew w1)
  refine draw_plan gx_ok (Mod (rowS A) w1) 8 [(true, 0), (true, 1), (true, 2), (true, 3), (true, 4), (true, 5), (false, 6), (false, 7)] (by kernel_rfl) hC0 ?_
  refine qload (v := .slice A s.f.length c) (fun w' hw' => by rw [(h1.blk.mod hw' h.nrow).cell]; rfl) ?_
  have hn1 : ¬ rowS A w.heap.size := fun hr => by have := (hrows _ hr).2; omega
  refine qloadN (vs := x.cells) rfl (fun w' hw' j v hj => by rw [(hB1.mod hw' hn1).cell]; exact hj) ?_
  refine at_buildN gx_ok [x.cells] rfl rfl rfl rfl rfl ⟨rfl, rfl, ⟨⟩⟩ rfl (fun cs h => by simp only [List.mem_singleton] at h; subst h; rfl) rfl (by decide) (by decide) ?_
  intro w2 hE2 hz2 hB2
  have hE12 := (Ext.drew w1).trans hE2
  have h2 := h1.ext hE12
  refine ⟨Mod.of_ext _ hE12, ?_⟩
  have hs2 : Sl w2 4 (some ⟨w1.drew.heap.size, 0, none⟩) 1 1 x.cells := Sl.own (sz := 4) (n := 1) hB2 (Nat.le_refl _) (by decide) (by simp [Fz.cells])
  refine at_app gx_ok rfl rfl rfl rfl rfl (by decide) rfl rfl ⟨_, rfl⟩ rfl rfl h2.own hs2 (by intro u hu; simp [Fz.cells] at hu; rcases hu with rfl | rfl | rfl | rfl <;> rfl) (by unfold maxLen; omega) (by show _ * 32 ≤ _; omega) h2.top ?_
  intro A' c' w3 hm3 hown3 hmv3
  have hM13 : Mod (rowS A) w1 w3 := (Mod.of_ext (rowS A) hE12).trans hm3 (fun i hi => .inl hi)
  refine ⟨hM13, ?_⟩
  have hB3 := h1.blk.mod hM13 h.nrow
  refine store_mod hB3 (by simp) (fun w4 hm4 hB4 => ?_)
  refine load_blk hB4 rfl ?_
  refine norm_i64_to ((s.f.length : Nat) : Int) (by omega) (by omega) ?_
  have hE3 : Ext w0 w3 := hM13.ext h1.e0 (fun i hi => by have := (hrows i hi).1; have := h.lt; have := h.r0; omega)
  have el : (s.f ++ [x]).length = s.f.length + 1 := by simp
  refine ⟨rfl, A', c', ⟨hm4.ext hE3 (fun i hi => by have := h.r0; omega), h.r0, h.lt, ?_, ?_, ?_, h.le⟩⟩
  · have := hM13.size; have := hm4.size; have := h1.top; omega
  · simp only; rw [el]; exact hB4
  · simp only; rw [el, fzV_snoc]
    exact hown3.mod hm4 (fun k hk e => by have := (hown3.rows k hk).1; have := h.lt; omega)
end

section
open Go Go.RowKit

def RAdv (s s' : Rs) : Prop := s.at_ ≤ s'.at_ ∧ s'.f.length + s.at_ ≤ s.f.length + s'.at_
theorem RAdv.refl (s : Rs) : RAdv s s := ⟨Nat.le_refl _, Nat.le_refl _⟩
/-- What has been read. -/
def ROut (D : RD) (s : Rs) (o : Option (Fm × Bool × List (List Nat))) (a : Int) (s' : Rs) : Prop := RAdv s s' ∧ match o with
  | none => s'.bad = true
  | some (t, u, ts) => a = ((s.f.length + szF t - 1 : Nat) : Int) ∧ s'.f = s.f ++ postF t s.f.length ∧ s'.bad = false ∧ s'.unk = (s.unk || u) ∧ D.toks.drop s'.at_ = ts
/-- What a function of the parser does. -/
def RdFn (w0 : World) (base r : Nat) (D : RD) (F : Nat) (k : Nat) (opt : List (List Nat) → Option (Fm × Bool × List (List Nat))) : Prop := ∀ (A : Option Addr) (c : Nat) (s : Rs) (w : World), Rq w0 w base r D A c s → s.bad = false → s.f.length ≤ s.at_ → D.toks.length - s.at_ < k →
  Fn Tryz.prog F [.pointer (some ⟨r, 0, none⟩)] w (fun v w' => ∃ (a : Int) (s' : Rs), v = .int .i64 a ∧ RTo w0 base r D s' w' ∧ ROut D s (opt (D.toks.drop s.at_)) a s')
def LoI (D : RD) (op : List Nat) (mk : Fm → Fm → Fm) (opt : List (List Nat) → Option (Fm × Bool × List (List Nat))) (s : Rs) (o : Option (Fm × Bool × List (List Nat))) (a : Int) (s1 : Rs) : Prop := RAdv s s1 ∧ ((s1.bad = true ∧ o = none) ∨ (s1.bad = false ∧ ∃ t u, a = ((s.f.length + szF t - 1 : Nat) : Int) ∧ s1.f = s.f ++ postF t s.f.length ∧ s1.unk = (s.unk || u) ∧ o = loopT op mk opt ((D.toks.drop s1.at_).length + 1) t u (D.toks.drop s1.at_)))
theorem drop_head {l : List (List Nat)} {i : Nat} {t : List Nat} (h : (l.drop i).head? = some t) : l.drop i = t :: l.drop (i + 1) := by
  rw [List.head?_drop] at h
  have hi := (List.getElem?_eq_some_iff.1 h).1
  rw [List.drop_eq_getElem_cons hi]
  rw [List.getElem?_eq_getElem hi] at h
  rw [Option.some.inj h]
theorem LoI.first {D : RD} {op : List Nat} {mk : Fm → Fm → Fm} {opt : List (List Nat) → Option (Fm × Bool × List (List Nat))} {s s1 : Rs} {a : Int} (h : ROut D s (opt (D.toks.drop s.at_)) a s1) : LoI D op mk opt s (chainT op mk opt (D.toks.drop s.at_)) a s1 := by
  obtain ⟨h1, h2⟩ := h
  refine ⟨h1, ?_⟩
  unfold chainT
  cases ho : opt (D.toks.drop s.at_) with
  | none => rw [ho] at h2; exact .inl ⟨h2, rfl⟩
  | some q =>
    obtain ⟨t, u, ts⟩ := q
    rw [ho] at h2
    obtain ⟨e1, e2, e3, e4, e5⟩ := h2
    exact .inr ⟨e3, t, u, e1, e2, e4, by rw [e5]⟩
/-- One more operand. -/
theorem LoI.step {D : RD} {op : List Nat} {mk : Fm → Fm → Fm} {opt : List (List Nat) → Option (Fm × Bool × List (List Nat))} {s s1 s3 : Rs} {o : Option (Fm × Bool × List (List Nat))} {a b : Int} {k : Int} (hl : LimT opt)
    (hmk : ∀ a b k', postF (mk a b) k' = postF a k' ++ postF b (k' + szF a) ++ [⟨k, 0, ((k' + szF a - 1 : Nat) : Int), ((k' + szF a + szF b - 1 : Nat) : Int)⟩]) (hsz : ∀ a b, szF (mk a b) = szF a + szF b + 1)
    (h : LoI D op mk opt s o a s1) (hb : s1.bad = false) (hh : (D.toks.drop s1.at_).head? = some op) (hr : ROut D { s1 with at_ := s1.at_ + 1 } (opt (D.toks.drop (s1.at_ + 1))) b s3) (_ : s1.f.length ≤ s1.at_) :
    LoI D op mk opt s o ((s3.f.length : Nat) : Int) { s3 with f := s3.f ++ [⟨k, 0, a, b⟩] } := by
  obtain ⟨h1, h2⟩ := h
  obtain ⟨r1, r2⟩ := hr
  have q1 := r1.1
  have q2 := r1.2
  simp only at q1 q2
  have p1 := h1.1
  have p2 := h1.2
  refine ⟨⟨by simp only; omega, by simp only [List.length_append, List.length_cons, List.length_nil]; omega⟩, ?_⟩
  rcases h2 with ⟨h2, _⟩ | ⟨_, t, u, e1, e2, e3, e4⟩
  · rw [hb] at h2; cases h2
  rw [drop_head hh] at e4
  cases ho : opt (D.toks.drop (s1.at_ + 1)) with
  | none =>
    rw [ho] at r2
    refine .inl ⟨r2, ?_⟩
    rw [e4, List.length_cons]
    show loopT op mk opt ((D.toks.drop (s1.at_ + 1)).length + 1 + 1) t u _ = none
    rw [loopT, List.head?_cons, if_pos rfl, List.tail_cons, ho]
  | some q =>
    obtain ⟨t2, v, ts⟩ := q
    rw [ho] at r2
    obtain ⟨g1, g2, g3, g4, g5⟩ := r2
    simp only at g1 g2 g4
    have pt := szF_pos t
    have pt2 := szF_pos t2
    have hf1 : s1.f.length = s.f.length + szF t := by rw [e2, List.length_append, postF_len]
    refine .inr ⟨g3, mk t t2, u || v, ?_, ?_, ?_, ?_⟩
    · rw [g2, List.length_append, postF_len, hf1, hsz]; congr 1; omega
    · simp only
      rw [g2, e2, hmk, e1, g1, hf1, List.length_append, postF_len]
      simp
    · simp only; rw [g4, e3, Bool.or_assoc]
    · simp only
      rw [e4, g5]
      exact loopT_op hl (m := 1) ho
theorem LoI.done {D : RD} {op : List Nat} {mk : Fm → Fm → Fm} {opt : List (List Nat) → Option (Fm × Bool × List (List Nat))} {s s1 : Rs} {o : Option (Fm × Bool × List (List Nat))} {a : Int} (h : LoI D op mk opt s o a s1) (hs : s1.bad = true ∨ (D.toks.drop s1.at_).head? ≠ some op) : ROut D s o a s1 := by
  obtain ⟨h1, h2⟩ := h
  refine ⟨h1, ?_⟩
  rcases h2 with ⟨h2, rfl⟩ | ⟨hb, t, u, e1, e2, e3, e4⟩
  · exact h2
  · have hh := hs.resolve_left (by rw [hb]; decide)
    rw [loopT_stop hh] at e4
    subst e4
    exact ⟨e1, e2, hb, e3, rfl⟩

theorem rconj_fn (w0 : World) (base r : Nat) (D : RD) (k : Nat) (opt : List (List Nat) → Option (Fm × Bool × List (List Nat))) (hD : RDok w0 D) (hlim : LimT opt) (H : RdFn w0 base r D 186 k opt) :
    RdFn w0 base r D 173 k (chainT [38, 38] .and opt) := by
  intro A c s w h hb hle hk
  refine fn_of_exec (c := { c173 with cuts := [] }) gx_ok Tryz.func173 rfl rfl rfl ?_
  refine call (H A c s w h hb hle hk) ?_
  rintro _ w1 ⟨a1, s1, rfl, hT1, hR1⟩
  refine loop gx_ok [3] (fun σ : Int × Rs => [.int .i64 σ.1]) (fun σ w' => RTo w0 base r D σ.2 w' ∧ LoI D [38, 38] .and opt s (chainT [38, 38] .and opt (D.toks.drop s.at_)) σ.1 σ.2) (fun σ _ => D.toks.length - σ.2.at_) (a1, s1) rfl ⟨hT1, LoI.first hR1⟩ ?_
  rintro ⟨a, s1⟩ w1 ⟨⟨A1, c1, h1⟩, hI⟩
  simp only at h1 hI
  have hadv := hI.1
  have hle1 : s1.f.length ≤ s1.at_ := by have := hadv.1; have := hadv.2; omega
  refine load_blk h1.blk rfl ?_
  cases hb1 : s1.bad with
  | true =>
    refine wif_f rfl ?_
    exact ⟨a, s1, rfl, ⟨A1, c1, h1⟩, hI.done (.inl hb1)⟩
  | false =>
    refine wif_t rfl ?_
    refine call (rnext_fn w0 base r D A1 c1 s1 [38, 38] w1 hD h1 (by decide)) ?_
    by_cases hc : s1.at_ < D.toks.length ∧ (D.toks.drop s1.at_).head? = some [38, 38]
    · rw [if_pos hc, decide_eq_true hc]
      rintro _ w2 ⟨rfl, h2⟩
      refine wif_t rfl ?_
      refine call (H A1 c1 _ w2 h2 hb1 (by simp only; omega) (by simp only; have := hadv.1; omega)) ?_
      rintro _ w3 ⟨b, s3, rfl, ⟨A3, c3, h3⟩, hR3⟩
      have hI3 := hI.step (k := 4) hlim (fun _ _ _ => rfl) (fun _ _ => rfl) hb1 hc.2 hR3 hle1
      have q1 := hR3.1.1
      have q2 := hR3.1.2
      simp only at q1 q2
      refine call (rput_fn w0 base r D A3 c3 s3 ⟨4, 0, a, b⟩ w3 hD h3 (by omega)) ?_
      rintro _ w4 ⟨rfl, hT4⟩
      exact ⟨(((s3.f.length : Nat) : Int), _), rfl, ⟨hT4, hI3⟩, by show D.toks.length - s3.at_ < D.toks.length - s1.at_; omega⟩
    · rw [if_neg hc, decide_eq_false hc]
      rintro _ w2 ⟨rfl, h2⟩
      refine wif_f rfl ?_
      refine ⟨a, s1, rfl, ⟨A1, c1, h2⟩, hI.done (.inr (fun hh => hc ⟨?_, hh⟩))⟩
      rw [List.head?_drop] at hh
      exact (List.getElem?_eq_some_iff.1 hh).1

theorem rexpr_fn (w0 : World) (base r : Nat) (D : RD) (k : Nat) (opt : List (List Nat) → Option (Fm × Bool × List (List Nat))) (hD : RDok w0 D) (hlim : LimT opt) (H : RdFn w0 base r D 173 k opt) :
    RdFn w0 base r D 155 k (chainT [124, 124] .or opt) := by
  intro A c s w h hb hle hk
  refine fn_of_exec (c := { c155 with cuts := [] }) gx_ok Tryz.func155 rfl rfl rfl ?_
  refine call (H A c s w h hb hle hk) ?_
  rintro _ w1 ⟨a1, s1, rfl, hT1, hR1⟩
  refine loop gx_ok [3] (fun σ : Int × Rs => [.int .i64 σ.1]) (fun σ w' => RTo w0 base r D σ.2 w' ∧ LoI D [124, 124] .or opt s (chainT [124, 124] .or opt (D.toks.drop s.at_)) σ.1 σ.2) (fun σ _ => D.toks.length - σ.2.at_) (a1, s1) rfl ⟨hT1, LoI.first hR1⟩ ?_
  rintro ⟨a, s1⟩ w1 ⟨⟨A1, c1, h1⟩, hI⟩
  simp only at h1 hI
  have hadv := hI.1
  have hle1 : s1.f.length ≤ s1.at_ := by have := hadv.1; have := hadv.2; omega
  refine load_blk h1.blk rfl ?_
  cases hb1 : s1.bad with
  | true =>
    refine wif_f rfl ?_
    exact ⟨a, s1, rfl, ⟨A1, c1, h1⟩, hI.done (.inl hb1)⟩
  | false =>
    refine wif_t rfl ?_
    refine call (rnext_fn w0 base r D A1 c1 s1 [124, 124] w1 hD h1 (by decide)) ?_
    by_cases hc : s1.at_ < D.toks.length ∧ (D.toks.drop s1.at_).head? = some [124, 124]
    · rw [if_pos hc, decide_eq_true hc]
      rintro _ w2 ⟨rfl, h2⟩
      refine wif_t rfl ?_
      refine call (H A1 c1 _ w2 h2 hb1 (by simp only; omega) (by simp only; have := hadv.1; omega)) ?_
      rintro _ w3 ⟨b, s3, rfl, ⟨A3, c3, h3⟩, hR3⟩
      have hI3 := hI.step (k := 5) hlim (fun _ _ _ => rfl) (fun _ _ => rfl) hb1 hc.2 hR3 hle1
      have q1 := hR3.1.1
      have q2 := hR3.1.2
      simp only at q1 q2
      refine call (rput_fn w0 base r D A3 c3 s3 ⟨5, 0, a, b⟩ w3 hD h3 (by omega)) ?_
      rintro _ w4 ⟨rfl, hT4⟩
      exact ⟨(((s3.f.length : Nat) : Int), _), rfl, ⟨hT4, hI3⟩, by show D.toks.length - s3.at_ < D.toks.length - s1.at_; omega⟩
    · rw [if_neg hc, decide_eq_false hc]
      rintro _ w2 ⟨rfl, h2⟩
      refine wif_f rfl ?_
      refine ⟨a, s1, rfl, ⟨A1, c1, h2⟩, hI.done (.inr (fun hh => hc ⟨?_, hh⟩))⟩
      rw [List.head?_drop] at hh
      exact (List.getElem?_eq_some_iff.1 hh).1
end

section
open Go Go.RowKit

/-- A node for a token. -/
theorem rword_out {D : RD} {s : Rs} {t : List Nat} {ix : List Nat → Option Nat} {n : Nat} (hr : D.toks.drop s.at_ = t :: D.toks.drop (s.at_ + 1)) (hb : s.bad = false) (h33 : t ≠ [33]) (h40 : t ≠ [40]) (hw : isWord t = true) {f : Fm} {u : Bool} (hx : wordT ix t = (f, u)) (hf : szF f = 1) (uk : Bool) (hu : uk = (s.unk || u)) :
    ROut D s (facT ix (n + 1) (D.toks.drop s.at_)) ((s.f.length : Nat) : Int) ⟨s.at_ + 1, s.f ++ postF f s.f.length, s.bad, uk⟩ := by
  refine ⟨⟨by simp only; omega, by simp only [List.length_append, postF_len]; omega⟩, ?_⟩
  rw [hr]
  unfold facT
  rw [if_neg h33, if_neg h40, if_pos hw, hx]
  exact ⟨by rw [hf]; rfl, rfl, hb, hu, rfl⟩

theorem rfactor_fn (w0 : World) (base r : Nat) (D : RD) (hD : RDok w0 D) (ix : List Nat → Option Nat) (hix : ∀ l, ix l = ixF l D.names) : ∀ n, RdFn w0 base r D 186 n (facT ix n)
  | 0 => fun A c s w h hb hle hk => by omega
  | n + 1 => fun A c s w h hb hle hk => by
    have ih := rfactor_fn w0 base r D hD ix hix n
    have hE := rexpr_fn w0 base r D n _ hD (andT_lim ix n) (rconj_fn w0 base r D n _ hD (facT_lim ix n) ih)
    have hlim := hD.lim
    have hln := hD.ln
    refine fn_of_exec (c := { c186 with cuts := [] }) gx_ok Tryz.func186 rfl rfl rfl ?_
    refine call (rnext_fn w0 base r D A c s [33] w hD h (by decide)) ?_
    by_cases c1 : s.at_ < D.toks.length ∧ (D.toks.drop s.at_).head? = some [33]
    · rw [if_pos c1, decide_eq_true c1]
      rintro _ w1 ⟨rfl, h1⟩
      refine wif_t rfl ?_
      refine call (ih A c _ w1 h1 hb (by simp only; omega) (by simp only; omega)) ?_
      rintro _ w2 ⟨a, s2, rfl, ⟨A2, c2, h2⟩, hR2⟩
      have q1 := hR2.1.1
      have q2 := hR2.1.2
      simp only at q1 q2
      refine call (rput_fn w0 base r D A2 c2 s2 ⟨3, 0, a, 0⟩ w2 hD h2 (by omega)) ?_
      rintro _ w3 ⟨rfl, hT3⟩
      refine ⟨_, _, rfl, hT3, ⟨by simp only; omega, by simp only [List.length_append, List.length_cons, List.length_nil]; omega⟩, ?_⟩
      have hr2 := hR2.2
      simp only at hr2
      rw [drop_head c1.2]
      unfold facT
      rw [if_pos rfl]
      cases ho : facT ix n (D.toks.drop (s.at_ + 1)) with
      | none => rw [ho] at hr2; exact hr2
      | some q =>
        obtain ⟨t, u, ts⟩ := q
        rw [ho] at hr2
        obtain ⟨g1, g2, g3, g4, g5⟩ := hr2
        have pt := szF_pos t
        refine ⟨?_, ?_, g3, g4, g5⟩
        · rw [g2, List.length_append, postF_len]; rfl
        · simp only; rw [g2, g1]; simp [postF]
    rw [if_neg c1, decide_eq_false c1]
    rintro _ w1 ⟨rfl, h1⟩
    refine wif_f rfl ?_
    refine call (rnext_fn w0 base r D A c s trueL w1 hD h1 (by decide)) ?_
    by_cases c2 : s.at_ < D.toks.length ∧ (D.toks.drop s.at_).head? = some trueL
    · rw [if_pos c2, decide_eq_true c2]
      rintro _ w2 ⟨rfl, h2⟩
      refine wif_t rfl ?_
      refine call (rput_fn w0 base r D A c _ ⟨1, 0, 0, 0⟩ w2 hD h2 (by simp only; omega)) ?_
      rintro _ w3 ⟨rfl, hT3⟩
      exact ⟨_, _, rfl, hT3, rword_out (f := .c true) (u := false) (drop_head c2.2) hb (by decide) (by decide) (by decide) rfl rfl s.unk (by simp)⟩
    rw [if_neg c2, decide_eq_false c2]
    rintro _ w2 ⟨rfl, h2⟩
    refine wif_f rfl ?_
    refine call (rnext_fn w0 base r D A c s falseL w2 hD h2 (by decide)) ?_
    by_cases c3 : s.at_ < D.toks.length ∧ (D.toks.drop s.at_).head? = some falseL
    · rw [if_pos c3, decide_eq_true c3]
      rintro _ w3 ⟨rfl, h3⟩
      refine wif_t rfl ?_
      refine call (rput_fn w0 base r D A c _ ⟨0, 0, 0, 0⟩ w3 hD h3 (by simp only; omega)) ?_
      rintro _ w4 ⟨rfl, hT4⟩
      exact ⟨_, _, rfl, hT4, rword_out (f := .c false) (u := false) (drop_head c3.2) hb (by decide) (by decide) (by decide) rfl rfl s.unk (by simp)⟩
    rw [if_neg c3, decide_eq_false c3]
    rintro _ w3 ⟨rfl, h3⟩
    refine wif_f rfl ?_
    refine call (rnext_fn w0 base r D A c s [40] w3 hD h3 (by decide)) ?_
    by_cases c4 : s.at_ < D.toks.length ∧ (D.toks.drop s.at_).head? = some [40]
    · rw [if_pos c4, decide_eq_true c4]
      rintro _ w4 ⟨rfl, h4⟩
      refine wif_t rfl ?_
      refine call (hE A c _ w4 h4 hb (by simp only; omega) (by simp only; omega)) ?_
      rintro _ w5 ⟨a, s5, rfl, ⟨A5, c5, h5⟩, hR5⟩
      have q1 := hR5.1.1
      have q2 := hR5.1.2
      have hr5 := hR5.2
      simp only at q1 q2 hr5
      refine call (rnext_fn w0 base r D A5 c5 s5 [41] w5 hD h5 (by decide)) ?_
      by_cases c5' : s5.at_ < D.toks.length ∧ (D.toks.drop s5.at_).head? = some [41]
      · rw [if_pos c5', decide_eq_true c5']
        rintro _ w6 ⟨rfl, h6⟩
        refine wif_f rfl ?_
        refine ⟨a, _, rfl, ⟨A5, c5, h6⟩, ⟨by simp only; omega, by simp only; omega⟩, ?_⟩
        rw [drop_head c4.2]
        unfold facT
        rw [if_neg (by decide), if_pos rfl]
        cases ho : chainT [124, 124] Fm.or (chainT [38, 38] Fm.and (facT ix n)) (D.toks.drop (s.at_ + 1)) with
        | none => rw [ho] at hr5; exact hr5
        | some q =>
          obtain ⟨t, u, ts⟩ := q
          rw [ho] at hr5
          obtain ⟨g1, g2, g3, g4, g5⟩ := hr5
          simp only
          rw [← g5, if_pos c5'.2, drop_head c5'.2]
          exact ⟨g1, g2, g3, g4, rfl⟩
      · rw [if_neg c5', decide_eq_false c5']
        rintro _ w6 ⟨rfl, h6⟩
        refine wif_t rfl ?_
        refine store_mod h6.blk (by simp) (fun w7 hM7 hB7 => ?_)
        refine ⟨a, _, rfl, ⟨A5, c5, h6.set (s' := { s5 with bad := true }) hM7 rfl h6.le hB7⟩, ⟨by simp only; omega, by simp only; omega⟩, ?_⟩
        rw [drop_head c4.2]
        unfold facT
        rw [if_neg (by decide), if_pos rfl]
        cases ho : chainT [124, 124] Fm.or (chainT [38, 38] Fm.and (facT ix n)) (D.toks.drop (s.at_ + 1)) with
        | none => rfl
        | some q =>
          obtain ⟨t, u, ts⟩ := q
          rw [ho] at hr5
          obtain ⟨g1, g2, g3, g4, g5⟩ := hr5
          simp only
          rw [← g5, if_neg (fun hh => c5' ⟨by rw [List.head?_drop] at hh; exact (List.getElem?_eq_some_iff.1 hh).1, hh⟩)]
          trivial
    rw [if_neg c4, decide_eq_false c4]
    rintro _ w4 ⟨rfl, h4⟩
    refine wif_f rfl ?_
    have fail : facT ix (n + 1) (D.toks.drop s.at_) = none → ∀ (A c) (w w' : World), Rq w0 w base r D A c s → Mod (· = r) w w' → Blk w' r 218 [.slice D.NA D.nn D.nc, .slice D.LA D.ln D.lc, .int .i64 s.at_, .slice A s.f.length c, .bool true, .bool s.unk] →
        ∃ (a : Int) (s' : Rs), (Value.int .i64 0) = .int .i64 a ∧ RTo w0 base r D s' w' ∧ ROut D s (facT ix (n + 1) (D.toks.drop s.at_)) a s' := fun hn A c w w' h hM hB => by
      rw [hn]
      exact ⟨0, { s with bad := true }, rfl, ⟨A, c, h.set hM rfl h.le hB⟩, RAdv.refl s, rfl⟩
    have q : ∀ (j : Nat) (v : Value), [Value.slice D.NA D.nn D.nc, .slice D.LA D.ln D.lc, .int .i64 s.at_, .slice A s.f.length c, .bool s.bad, .bool s.unk][j]? = some v → ∀ w', Ext w4 w' → w'.cell? ((⟨r, 0, none⟩ : Addr).add j) = some v := fun j v hj w' hw' => by rw [(h4.blk.ext hw').cell]; exact hj
    have hd := h4.ext (Ext.drew w4)
    refine draw_plan gx_ok (Ext w4) 24 [(true, 0), (true, 1), (true, 2), (true, 3), (true, 4), (true, 5), (true, 6), (true, 7), (true, 8), (true, 9), (true, 10), (true, 11), (true, 12), (true, 13), (true, 14), (true, 15), (true, 16), (true, 17), (true, 18), (true, 19), (true, 20), (false, 21), (true, 22), (true, 23)] (by kernel_rfl) (Ext.drew w4) ?_
    refine qload (q 2 _ rfl) ?_
    refine qload (q 1 _ rfl) ?_
    refine wif_d (fun hlt => ?_) (fun hlt => ?_)
    · have hgs : D.toks[s.at_]? = some D.toks[s.at_] := List.getElem?_eq_getElem (by omega)
      generalize D.toks[s.at_] = t at hgs
      obtain ⟨ht8, htl⟩ := hD.tb t (List.mem_of_getElem? hgs)
      have hhd := head_eq hgs
      have hrest := drop_head hhd
      have n33 : t ≠ [33] := fun e => c1 ⟨by omega, by rw [hhd, e]⟩
      have n40 : t ≠ [40] := fun e => c4 ⟨by omega, by rw [hhd, e]⟩
      have nt : t ≠ trueL := fun e => c2 ⟨by omega, by rw [hhd, e]⟩
      have nf : t ≠ falseL := fun e => c3 ⟨by omega, by rw [hhd, e]⟩
      have hwf := hD.wf t (List.mem_of_getElem? hgs)
      refine qload (q 1 _ rfl) ?_
      refine qload (q 2 _ rfl) ?_
      refine index_sl (hD.tks.ext h4.e0) (by omega) (fun ad u hA hu hcell => ?_)
      rw [strsV_get hgs] at hu
      cases hu
      refine qload (fun w' hw' => hw'.cell hcell) ?_
      refine call (ident_fn t _ ht8 (by omega)) ?_
      rintro _ _ ⟨rfl, rfl⟩
      refine ⟨Ext.drew w4, ?_⟩
      cases hid : identB t with
      | false =>
        refine wif_f rfl ?_
        rw [hwf] at hid
        refine store_mod hd.blk (by simp) (fun w7 hM7 hB7 => ?_)
        refine fail ?_ A c _ w7 hd hM7 hB7
        rw [hrest]
        unfold facT
        rw [if_neg n33, if_neg n40, if_neg (by rw [hid]; decide)]
      | true =>
        refine wif_t rfl ?_
        rw [hwf] at hid
        have q' : ∀ (j : Nat) (v : Value), [Value.slice D.NA D.nn D.nc, .slice D.LA D.ln D.lc, .int .i64 s.at_, .slice A s.f.length c, .bool s.bad, .bool s.unk][j]? = some v → ∀ w', Ext w4.drew w' → w'.cell? ((⟨r, 0, none⟩ : Addr).add j) = some v := fun j v hj w' hw' => by rw [(hd.blk.ext hw').cell]; exact hj
        refine draw_plan gx_ok (Ext w4.drew) 16 [(true, 0), (true, 1), (true, 2), (true, 3), (true, 4), (true, 5), (true, 6), (true, 7), (true, 8), (true, 9), (true, 10), (true, 11), (true, 12), (true, 13), (false, 14), (true, 15)] (by kernel_rfl) (Ext.drew w4.drew) ?_
        refine qload (q' 0 _ rfl) ?_
        refine qload (q' 1 _ rfl) ?_
        refine qload (q' 2 _ rfl) ?_
        refine index_sl (hD.tks.ext hd.e0) (by omega) (fun ad u hA hu hcell => ?_)
        rw [strsV_get hgs] at hu
        cases hu
        refine qload (fun w' hw' => hw'.cell hcell) ?_
        have hdd := hd.ext (Ext.drew w4.drew)
        refine call (rindex_fn D.names D.NA D.nn D.nc t _ (hD.nms.ext hdd.e0) (fun u hu => (hD.nb u hu).1) ht8) ?_
        rintro _ _ ⟨rfl, rfl⟩
        refine ⟨Ext.drew w4.drew, ?_⟩
        refine load_blk hdd.blk rfl ?_
        refine norm_i64_to ((s.at_ + 1 : Nat) : Int) (by omega) (by omega) ?_
        refine store_mod hdd.blk (by simp) (fun w7 hM7 hB7 => ?_)
        have h7 : Rq w0 w7 base r D A c { s with at_ := s.at_ + 1 } := hdd.set hM7 rfl (by simp only; omega) hB7
        have hixt := hix t
        unfold ixI
        cases hi : ixF t D.names with
        | none =>
          rw [hi] at hixt
          refine wif_dt (by decide) ?_
          refine store_mod h7.blk (by simp) (fun w8 hM8 hB8 => ?_)
          have h8 : Rq w0 w8 base r D A c { s with at_ := s.at_ + 1, unk := true } := h7.set hM8 rfl h7.le hB8
          refine call (rput_fn w0 base r D A c _ ⟨2, 0, 0, 0⟩ w8 hD h8 (by simp only; omega)) ?_
          rintro _ w9 ⟨rfl, hT9⟩
          exact ⟨_, _, rfl, hT9, rword_out (f := .v 0) (u := true) hrest hb n33 n40 hid (by unfold wordT; rw [if_neg nt, if_neg nf, hixt]; rfl) rfl true (by simp)⟩
        | some i =>
          rw [hi] at hixt
          refine wif_df (by simp only; omega) ?_
          refine call (rput_fn w0 base r D A c _ ⟨2, (i : Int), 0, 0⟩ w7 hD h7 (by simp only; omega)) ?_
          rintro _ w9 ⟨rfl, hT9⟩
          exact ⟨_, _, rfl, hT9, rword_out (f := .v i) (u := false) hrest hb n33 n40 hid (by unfold wordT; rw [if_neg nt, if_neg nf, hixt]; rfl) rfl s.unk (by simp)⟩
    · refine store_mod hd.blk (by simp) (fun w7 hM7 hB7 => ?_)
      refine fail ?_ A c _ w7 hd hM7 hB7
      rw [List.drop_of_length_le (by omega)]
      rfl
end

section
open Go Go.RowKit

theorem lex_mem : ∀ (n : Nat) (l : List Nat), ∀ t ∈ (lexF n l).1, (∀ x ∈ t, x ∈ l) ∧ t.length ≤ l.length ∧ identB t = isWord t
  | 0, l, t, h => by cases h
  | n + 1, [], t, h => by cases h
  | n + 1, b :: l, t, h => by
    have up : ∀ l' : List Nat, (∀ x ∈ l', x ∈ b :: l) → l'.length ≤ (b :: l).length → (∀ x ∈ t, x ∈ l') ∧ t.length ≤ l'.length ∧ identB t = isWord t → (∀ x ∈ t, x ∈ b :: l) ∧ t.length ≤ (b :: l).length ∧ identB t = isWord t := fun l' h1 h2 h3 => ⟨fun x hx => h1 x (h3.1 x hx), Nat.le_trans h3.2.1 h2, h3.2.2⟩
    have tl : ∀ x ∈ l, x ∈ b :: l := fun x hx => List.mem_cons_of_mem _ hx
    simp only [lexF] at h
    split at h
    · exact up l tl (by simp) (lex_mem n l t h)
    · split at h
      · rename_i hb
        simp only [List.mem_cons] at h
        rcases h with rfl | h
        · refine ⟨by simp, by simp, ?_⟩
          rcases hb with rfl | rfl | rfl <;> rfl
        · exact up l tl (by simp) (lex_mem n l t h)
      · split at h
        · rename_i hb
          simp only [List.mem_cons] at h
          rcases h with rfl | h
          · refine ⟨by simp, ?_, ?_⟩
            · cases l with
              | nil => simp at hb
              | cons y l => simp
            · rcases hb.1 with rfl | rfl <;> rfl
          · exact up l.tail (fun x hx => tl x (List.mem_of_mem_tail hx)) (by simp [List.length_tail]; omega) (lex_mem n l.tail t h)
        · split at h
          · rename_i hb
            simp only [List.mem_cons] at h
            rcases h with rfl | h
            · refine ⟨fun x hx => (List.takeWhile_prefix isId).subset hx, (List.takeWhile_prefix isId).length_le, ?_⟩
              unfold identB
              rw [List.all_takeWhile, Bool.and_true]
            · exact up _ (fun x hx => (List.dropWhile_suffix isId).subset hx) (dropWhile_len _ _) (lex_mem n _ t h)
          · cases h

theorem rparse_fn (names : List (List Nat)) (A : Option Addr) (n c : Nat) (s : List Nat) (w : World) (h : Sl w 1 A n c (strsV names)) (hb : NamesOk names) (hs : ∀ x ∈ s, x < 256) (hl : s.length ≤ 1000000000000) :
    Fn Tryz.prog 123 [.slice A n c, .string (strOf s)] w (FzRes w (parseP names s)) := by
  rw [parse_tok]
  unfold parseK
  refine fn_of_exec (c := { c123 with cuts := [] }) gx_ok Tryz.func123 rfl rfl rfl ?_
  refine call (rnames_fn names A n c w h hb) ?_
  rintro _ w1 ⟨rfl, hE1⟩
  cases hn : numsOk names with
  | false =>
    refine wif_t rfl ?_
    exact ⟨none, 0, 0, rfl, hE1, SlS.nil _⟩
  | true =>
    refine wif_f rfl ?_
    refine call (tokens_fn s w1 hs hl) ?_
    rintro _ w2 ⟨LA, ln, lc, rfl, hE2, hL⟩
    have hE02 := hE1.trans hE2
    cases hf : (lexA s).2 with
    | false =>
      refine wif_t rfl ?_
      exact ⟨none, 0, 0, rfl, hE02, SlS.nil _⟩
    | true =>
      refine wif_f rfl ?_
      rw [hf] at hL
      have hmem := lex_mem s.length s
      let D : RD := ⟨A, n, c, names, LA, ln, lc, (lexA s).1⟩
      have hD : RDok w2 D := ⟨h.ext hE02, hL, hb, fun t ht => ⟨fun x hx => hs x ((hmem t ht).1 x hx), by have := (hmem t ht).2.1; omega⟩, fun t ht => (hmem t ht).2.2, by have := tok_le s.length s; show (lexF s.length s).1.length ≤ _; omega⟩
      refine new (fun w4 hE24 hz4 hB4 => ?_)
      have hq : Rq w2 w4 (w2.heap.size + 1) w2.heap.size D none 0 ⟨0, [], false, false⟩ := ⟨hE24, Nat.le_refl _, Nat.lt_succ_self _, by omega, hB4, Own.nil _ _ _ _, Nat.zero_le _⟩
      have hix : ∀ l, ixN names l = ixF l D.names := fun l => (ixF_ixN ((numsOk_iff hb).1 hn).2.1 l).symm
      have hE := rexpr_fn w2 (w2.heap.size + 1) w2.heap.size D (s.length + 1) _ hD (andT_lim (ixN names) (s.length + 1)) (rconj_fn w2 (w2.heap.size + 1) w2.heap.size D (s.length + 1) _ hD (facT_lim (ixN names) (s.length + 1)) (rfactor_fn w2 (w2.heap.size + 1) w2.heap.size D hD (ixN names) hix (s.length + 1)))
      refine call (hE none 0 _ w4 hq rfl (Nat.le_refl _) (by have := tok_le s.length s; show (lexF s.length s).1.length - 0 < _; omega)) ?_
      rintro _ w5 ⟨a, s5, rfl, ⟨A5, c5, h5⟩, hR5⟩
      have hE05 := hE02.trans h5.e0
      have hr := hR5.2
      have e0 : wholeT (ixN names) (s.length + 1) (lexA s).1 = chainT [124, 124] Fm.or (andT (ixN names) (s.length + 1)) (List.drop 0 D.toks) := rfl
      rw [e0]
      have q : ∀ (j : Nat) (v : Value), [Value.slice D.NA D.nn D.nc, .slice D.LA D.ln D.lc, .int .i64 s5.at_, .slice A5 s5.f.length c5, .bool s5.bad, .bool s5.unk][j]? = some v → ∀ w', Ext w5 w' → w'.cell? ((⟨w2.heap.size, 0, none⟩ : Addr).add j) = some v := fun j v hj w' hw' => by rw [(h5.blk.ext hw').cell]; exact hj
      have hd := h5.ext (Ext.drew w5)
      have hE0d := hE05.trans (Ext.drew w5)
      refine draw_plan gx_ok (Ext w5) 17 [(true, 0), (true, 1), (true, 2), (true, 3), (true, 4), (true, 5), (true, 6), (true, 7), (true, 8), (true, 9), (true, 10), (true, 11), (true, 12), (true, 13), (true, 14), (true, 15), (true, 16)] (by kernel_rfl) (Ext.drew w5) ?_
      refine qload (q 4 _ rfl) ?_
      cases hbd : s5.bad with
      | true =>
        refine wif_t rfl ?_
        refine ⟨none, 0, 0, ?_, hE0d, ?_⟩
        all_goals
          cases ho : chainT [124, 124] Fm.or (andT (ixN names) (s.length + 1)) (List.drop 0 D.toks) with
          | some q => obtain ⟨t, u, ts⟩ := q; rw [ho] at hr; have := hr.2.2.1; rw [hbd] at this; cases this
          | none => first | rfl | exact SlS.nil _
      | false =>
        refine wif_f rfl ?_
        refine qload (q 2 _ rfl) ?_
        refine qload (q 1 _ rfl) ?_
        cases ho : chainT [124, 124] Fm.or (andT (ixN names) (s.length + 1)) (List.drop 0 D.toks) with
        | none => rw [ho] at hr; have : s5.bad = true := hr; rw [hbd] at this; cases this
        | some q =>
          obtain ⟨t, u, ts⟩ := q
          rw [ho] at hr
          obtain ⟨g1, g2, g3, g4, g5⟩ := hr
          have hln := hD.ln
          have hle := h5.le
          simp only
          refine wif_d (fun hlt => ?_) (fun hlt => ?_)
          · have hne : ts ≠ [] := fun e => by
              rw [e] at g5
              have := congrArg List.length g5
              rw [List.length_drop] at this
              simp at this; omega
            rw [if_pos trivial, if_pos trivial, if_pos hne]
            exact ⟨none, 0, 0, rfl, hE0d, SlS.nil _⟩
          · have hne : ts = [] := by rw [← g5]; exact List.drop_of_length_le (by omega)
            refine load_blk hd.blk rfl ?_
            simp only [List.nil_append, List.length_nil, Bool.false_or] at g2 g4
            rw [if_pos trivial, if_pos trivial, if_neg (fun h => h hne), ← g4]
            have hlen : s5.f.length = szF t := by rw [g2, postF_len]
            cases hu : s5.unk with
            | true =>
              refine wif_t rfl ?_
              exact ⟨none, 0, 0, rfl, hE0d, SlS.nil _⟩
            | false =>
              refine wif_f rfl ?_
              refine load_blk hd.blk rfl ?_
              rw [if_neg (by decide)]
              refine wif_d (fun hc => ?_) (fun hc => ?_)
              · rw [if_pos (by omega)]
                exact ⟨none, 0, 0, rfl, hE0d, SlS.nil _⟩
              · refine load_blk hd.blk rfl ?_
                rw [if_neg (by omega)]
                exact ⟨A5, s5.f.length, c5, rfl, hE0d, by rw [← g2]; exact ⟨hd.own.sl, rfl⟩⟩
end
end
end Go.Proofs.YtedopgkbajhanaaGreatDoor

namespace Go.Proofs.YtedopgkbajhanaaGreatDoor
section
open Go Go.RowKit

theorem operands_fn (o : Int) (w : World) : Fn Tryz.prog 177 [.int .i64 o] w (fun v w' => v = .int .i64 (fAr o) ∧ w = w') := by
  refine fn_of_exec (c := c177) gx_ok Tryz.func177 rfl rfl rfl ?_
  unfold fAr
  refine wif_eq (fun h0 => ?_) (fun h0 => ?_)
  · exact ⟨by rw [if_pos (.inl h0)], rfl⟩
  refine wif_eq (fun h1 => ?_) (fun h1 => ?_)
  · exact ⟨by rw [if_pos (.inr (.inl h1))], rfl⟩
  refine wif_eq (fun h2 => ?_) (fun h2 => ?_)
  · exact ⟨by rw [if_pos (.inr (.inr h2))], rfl⟩
  rw [if_neg (fun h => h.elim h0 (fun h => h.elim h1 h2))]
  refine wif_eq (fun h3 => ?_) (fun h3 => ?_)
  · exact ⟨by rw [if_pos h3], rfl⟩
  rw [if_neg h3]
  refine wif_eq (fun h4 => ?_) (fun h4 => ?_)
  · exact ⟨by rw [if_pos (.inl h4)], rfl⟩
  refine wif_eq (fun h5 => ?_) (fun h5 => ?_)
  · exact ⟨by rw [if_pos (.inr h5)], rfl⟩
  exact ⟨by rw [if_neg (fun h => h.elim h4 h5)], rfl⟩
end
end Go.Proofs.YtedopgkbajhanaaGreatDoor

namespace Go.Proofs.YtedopgkbajhanaaGreatDoor
section
open Go Go.RowKit

def litF (v : Nat) (pos : Bool) : Fm := if pos then .v v else .not (.v v)
def cfT (nd : List Br) : Nat → Int → Fm
  | 0, _ => .c false
  | m + 1, n => if n < 2 then .c (decide (n = 1)) else match nd[(n - 2).toNat]? with
    | none => .c false
    | some b => if b.h < 2 ∧ b.l < 2 then litF b.v.toNat (decide (b.h = 1))
      else if b.l = 0 then .and (litF b.v.toNat true) (cfT nd m b.h)
      else if b.h = 0 then .and (litF b.v.toNat false) (cfT nd m b.l)
      else if b.h = 1 then .or (litF b.v.toNat true) (cfT nd m b.l)
      else if b.l = 1 then .or (litF b.v.toNat false) (cfT nd m b.h)
      else .or (.and (litF b.v.toNat true) (cfT nd m b.h)) (.and (litF b.v.toNat false) (cfT nd m b.l))
/-- The canonical formula of a number. -/
def cf (nd : List Br) (n : Int) : Fm := cfT nd (n.toNat + 1) n
/-- The value of a formula. -/
def evF : Fm → (Nat → Bool) → Bool
  | .c b, _ => b
  | .v n, e => e n
  | .not a, e => !evF a e
  | .and a b, e => evF a e && evF b e
  | .or a b, e => evF a e || evF b e
/-! ### The program's road -/
end
end Go.Proofs.YtedopgkbajhanaaGreatDoor

namespace Go.Proofs.YtedopgkbajhanaaGreatDoor
section
open Go Go.RowKit

/-- The conditions of a diagram lie below a bound. -/
def VIn (k : Nat) (nd : List Br) : Prop := ∀ b ∈ nd, b.v < k
theorem VIn.nil (k : Nat) : VIn k [] := fun b hb => by simp at hb
theorem VIn.lvl {k : Nat} {nd : List Br} (h : VIn k nd) {n : Int} (h2 : ¬ n < 2) (hn : n < nd.length + 2) : lvlD nd n < k := by
  obtain ⟨b, hb⟩ := getE h2 hn
  rw [lvl_some h2 hb]; exact h b (List.mem_of_getElem? hb)
theorem Rd0.lvl0 {nd : List Br} (h : Rd0 nd) {n : Int} (hn : n < nd.length + 2) : 0 ≤ lvlD nd n := by
  by_cases h2 : n < 2
  · rw [lvl_one h2]; omega
  · obtain ⟨z, hz⟩ := getE h2 hn
    rw [lvl_some h2 hz]; exact (h _ _ hz).1
theorem pow_half {a b c : Nat} (ha : a < c) (hb : b < c) : 2 ^ a + 2 ^ b ≤ 2 ^ c := by
  obtain ⟨d, rfl⟩ : ∃ d, c = d + 1 := ⟨c - 1, by omega⟩
  have h1 : 2 ^ a ≤ 2 ^ d := Nat.pow_le_pow_right (by decide) (by omega)
  have h2 : 2 ^ b ≤ 2 ^ d := Nat.pow_le_pow_right (by decide) (by omega)
  rw [Nat.pow_succ]; omega
theorem pow_pos2 (a : Nat) : 1 ≤ 2 ^ a := Nat.one_le_two_pow

theorem vis_bnd {nd : List Br} (h : Rd0 nd) {k : Nat} (hk : VIn k nd) : ∀ (m : Nat) (n : Int) (st : List Br × List Nat), 0 ≤ n → n < m → n < nd.length + 2 → (vis nd m n st).2.1.length + 1 ≤ st.1.length + 2 ^ ((k : Int) - lvlD nd n).toNat
  | 0, n, st, h0, hm, _ => by omega
  | m + 1, n, st, h0, hm, hn => by
    have p := pow_pos2 ((k : Int) - lvlD nd n).toNat
    by_cases h2 : n < 2
    · rw [vis_lt h2]; simp only; omega
    by_cases h3 : 0 < st.2[(n - 2).toNat]?.getD 0
    · rw [vis_old h2 h3]; simp only; omega
    obtain ⟨b, hb⟩ := getE h2 hn
    obtain ⟨b1, b2, b3, b4, b5, b6, b7, b8, b9, b10⟩ := h _ _ hb
    have hbk := hk b (List.mem_of_getElem? hb)
    have hlv := lvl_some h2 hb
    rw [vis_new h2 h3 hb]
    have i1 := vis_bnd h hk m b.l st b3 (by omega) (by omega)
    generalize (vis nd m b.l st) = p1 at *
    have i2 := vis_bnd h hk m b.h p1.2 b5 (by omega) (by omega)
    generalize (vis nd m b.h p1.2) = p2 at *
    have := pow_half (a := ((k : Int) - lvlD nd b.l).toNat) (b := ((k : Int) - lvlD nd b.h).toNat) (c := ((k : Int) - lvlD nd n).toNat) (by omega) (by omega)
    simp only [List.length_append, List.length_cons, List.length_nil]
    omega
theorem vis_vars {nd : List Br} {k : Nat} (hk : VIn k nd) : ∀ (m : Nat) (n : Int) (st : List Br × List Nat), VIn k st.1 → VIn k (vis nd m n st).2.1
  | 0, n, st, h => h
  | m + 1, n, st, h => by
    by_cases h2 : n < 2
    · rw [vis_lt h2]; exact h
    by_cases h3 : 0 < st.2[(n - 2).toNat]?.getD 0
    · rw [vis_old h2 h3]; exact h
    cases hb : nd[(n - 2).toNat]? with
    | none => rw [vis, if_neg h2, if_neg h3, hb]; exact h
    | some b =>
      rw [vis_new h2 h3 hb]
      have i1 := vis_vars hk m b.l st h
      generalize (vis nd m b.l st) = p1 at *
      have i2 := vis_vars hk m b.h p1.2 i1
      generalize (vis nd m b.h p1.2) = p2 at *
      intro x hx
      simp only [List.mem_append, List.mem_singleton] at hx
      rcases hx with hx | rfl
      · exact i2 x hx
      · exact hk b (List.mem_of_getElem? hb)
theorem numbered_vars {nd : List Br} {k : Nat} (hk : VIn k nd) (r : Int) : VIn k (numberedD nd r).1 := vis_vars hk _ _ _ (VIn.nil k)
theorem VD.len {nd : List Br} {r : Int} (h : VD nd r) {k : Nat} (hk : VIn k nd) : nd.length + 1 ≤ 2 ^ k := by
  have i := vis_bnd h.rd0 hk (r.toNat + 1) r ([], List.replicate nd.length 0) h.2.1 (by have := h.2.1; omega) h.2.2.1
  have e : (vis nd (r.toNat + 1) r ([], List.replicate nd.length 0)).2.1 = nd := congrArg Prod.fst h.2.2.2
  rw [e] at i
  have := h.rd0.lvl0 h.2.2.1
  have p : 2 ^ ((k : Int) - lvlD nd r).toNat ≤ 2 ^ k := Nat.pow_le_pow_right (by decide) (by omega)
  simp only [List.length_nil] at i
  omega
theorem uniq_vars {k : Nat} {l : List Br} (h : VIn k l) {b : Br} (hb : b.v < k) : VIn k (uniqD b l).1 := by
  unfold uniqD
  split
  · exact h
  · split
    · exact h
    · intro x hx
      simp only [List.mem_append, List.mem_singleton] at hx
      rcases hx with hx | rfl
      · exact h x hx
      · exact hb
theorem at2_vars {a b : List Br} (ha : DOk a) (hb : DOk b) {k : Nat} (ka : VIn k a) (kb : VIn k b) (op : Int) : ∀ (m : Nat) (x y : Int) (st : List Br × List Tr3), 0 ≤ x → 0 ≤ y → x < a.length + 2 → y < b.length + 2 → VIn k st.1 → VIn k (at2 a b op m x y st).2.1
  | 0, _, _, st, _, _, _, _, h => h
  | m + 1, x, y, st, x0, y0, hx, hy, h => by
    by_cases hxy : x < 2 ∧ y < 2
    · rw [at2_c hxy]; exact h
    cases k3 : st.2.find? (fun t => decide (t.1 = x ∧ t.2.1 = y)) with
    | some t => rw [at2_s hxy k3]; exact h
    | none =>
      have hvk : min (lvlD a x) (lvlD b y) < k := by
        by_cases c : x < 2
        · have := kb.lvl (n := y) (fun c2 => hxy ⟨c, c2⟩) hy
          rw [Int.min_def]; split <;> omega
        · have := ka.lvl (n := x) c hx
          rw [Int.min_def]; split <;> omega
      have hv64 : min (lvlD a x) (lvlD b y) < 64 := by
        by_cases c : x < 2
        · have := lvl_lt hb (n := y) (fun c2 => hxy ⟨c, c2⟩) (by omega)
          rw [Int.min_def]; split <;> omega
        · have := lvl_lt ha (n := x) c (by omega)
          rw [Int.min_def]; split <;> omega
      rw [at2_n hxy k3 _ rfl]
      generalize min (lvlD a x) (lvlD b y) = v at *
      obtain ⟨s1, s2, s3, s4, s5⟩ := sideD_le ha (n := x) x0 hv64
      obtain ⟨t1, t2, t3, t4, t5⟩ := sideD_le hb (n := y) y0 hv64
      have i1 := at2_vars ha hb ka kb op m (sideD a x v).1 (sideD b y v).1 st s1 t1 (by omega) (by omega) h
      generalize (at2 a b op m (sideD a x v).1 (sideD b y v).1 st) = r0 at *
      have i2 := at2_vars ha hb ka kb op m (sideD a x v).2 (sideD b y v).2 r0.2 s3 t3 (by omega) (by omega) i1
      exact uniq_vars i2 hvk

/-- A valid diagram over some conditions that means a set. -/
structure Set1 (k : Nat) (nd : List Br) (r : Int) (o : (Nat → Bool) → Bool) : Prop where
  vd : VD nd r
  vin : VIn k nd
  mean : ∀ e, ev nd r e = o e
theorem Set1.len {k : Nat} {nd : List Br} {r : Int} {o : (Nat → Bool) → Bool} (h : Set1 k nd r o) (hk : k ≤ 12) : nd.length ≤ 4095 := by
  have := h.vd.len h.vin
  have p : 2 ^ k ≤ 2 ^ 12 := Nat.pow_le_pow_right (by decide) hk
  omega
theorem Set1.chk {k : Nat} {nd : List Br} {r : Int} {o : (Nat → Bool) → Bool} (h : Set1 k nd r o) (hk : k ≤ 12) : chkD nd r = 0 := chkD_ok (by have := h.len hk; omega) h.vd
theorem Set1.unique {k k' : Nat} {nd nd' : List Br} {r r' : Int} {o o' : (Nat → Bool) → Bool} (h : Set1 k nd r o) (h' : Set1 k' nd' r' o') (e : ∀ x, o x = o' x) : (nd, r) = (nd', r') :=
  h.vd.eqv h'.vd (fun x => by rw [h.mean, h'.mean, e])
theorem Set1.congr {k : Nat} {nd : List Br} {r : Int} {o o' : (Nat → Bool) → Bool} (h : Set1 k nd r o) (e : ∀ x, o x = o' x) : Set1 k nd r o' := ⟨h.vd, h.vin, fun x => (h.mean x).trans (e x)⟩
theorem comb_set {k : Nat} {a b : List Br} {ra rb : Int} {o o' : (Nat → Bool) → Bool} (h : Set1 k a ra o) (h' : Set1 k b rb o') (op : Int) : Set1 k (combD a ra b rb op).1 (combD a ra b rb op).2 (fun e => opB op (o e) (o' e)) := by
  obtain ⟨v, m⟩ := comb_vd h.vd h'.vd op
  refine ⟨v, numbered_vars (at2_vars h.vd.dok h'.vd.dok h.vin h'.vin op _ _ _ _ h.vd.2.1 h'.vd.2.1 h.vd.2.2.1 h'.vd.2.2.1 (VIn.nil k)) _, fun e => ?_⟩
  rw [m e, h.mean, h'.mean]
theorem op_set {k : Nat} (hk : k ≤ 12) {a b : List Br} {ra rb : Int} {o o' : (Nat → Bool) → Bool} (h : Set1 k a ra o) (h' : Set1 k b rb o') (op : Int) : opD a ra b rb op = (combD a ra b rb op, 0) := by
  have l := (comb_set h h' op).len hk
  unfold opD
  rw [if_neg (fun hh => hh (h.chk hk)), if_neg (fun hh => hh (h'.chk hk))]
  unfold limD
  rw [if_neg (by omega)]
theorem const_set (k : Nat) (b : Bool) : Set1 k [] (if b then 1 else 0) (fun _ => b) := by
  refine ⟨⟨fun j x hx => by simp at hx, by cases b <;> decide, by cases b <;> decide, by cases b <;> rfl⟩, VIn.nil k, fun e => ?_⟩
  rw [ev_lt (by cases b <;> decide)]; cases b <;> rfl

/-! ### Canonical formulas, branch by branch -/
end
end Go.Proofs.YtedopgkbajhanaaGreatDoor

namespace Go.Proofs.YtedopgkbajhanaaGreatDoor
section
open Go Go.RowKit

/-! ### Expressions -/
/-- What an expression is: a formula, or an error number. -/
def parseT (nm : List (List Nat)) (s : List Nat) : Except Int Fm := if numsOk nm then
    if (lexA s).2 then match wholeT (ixN nm) (s.length + 1) (lexA s).1 with
      | none => .error 31
      | some (t, u, ts) => if ts ≠ [] then .error 31 else if u then .error 3 else if 512 < szF t then .error 2 else .ok t
    else .error 31
  else .error 1
theorem parse_T (nm : List (List Nat)) (s : List Nat) : parseP nm s = match parseT nm s with
    | .ok t => (postF t 0, 0)
    | .error e => ([], e) := by
  rw [parse_tok]
  unfold parseK parseT
  cases numsOk nm with
  | false => rfl
  | true =>
    cases (lexA s).2 with
    | false => rfl
    | true =>
      simp only [if_true]
      cases wholeT (ixN nm) (s.length + 1) (lexA s).1 with
      | none => rfl
      | some q =>
        obtain ⟨t, u, ts⟩ := q
        simp only
        by_cases h1 : ts ≠ []
        · rw [if_pos h1, if_pos h1]
        · rw [if_neg h1, if_neg h1]
          by_cases h2 : u = true
          · rw [if_pos h2, if_pos h2]
          · rw [if_neg h2, if_neg h2]
            by_cases h3 : 512 < szF t
            · rw [if_pos h3, if_pos h3]
            · rw [if_neg h3, if_neg h3]

/-- A formula's conditions lie below a bound, if none is unknown. -/
def KnownT (N : Nat) (opd : List (List Nat) → Option (Fm × Bool × List (List Nat))) : Prop := ∀ ts t ts', opd ts = some (t, false, ts') → VarsIn N t
theorem loopT_known {N : Nat} {op : List Nat} {mk : Fm → Fm → Fm} {opd : List (List Nat) → Option (Fm × Bool × List (List Nat))} (hm : ∀ a b, VarsIn N a → VarsIn N b → VarsIn N (mk a b)) (h : KnownT N opd) :
    ∀ (m : Nat) (a : Fm) (u : Bool) (ts : List (List Nat)) (t : Fm) (ts' : List (List Nat)), (u = false → VarsIn N a) → loopT op mk opd m a u ts = some (t, false, ts') → VarsIn N t
  | 0, a, u, ts, t, ts', _, hh => by cases hh
  | m + 1, a, u, ts, t, ts', ha, hh => by
    unfold loopT at hh
    split at hh
    · cases ho : opd ts.tail with
      | none => rw [ho] at hh; cases hh
      | some q =>
        obtain ⟨b, v, ts2⟩ := q
        rw [ho] at hh
        refine loopT_known hm h m _ _ _ t ts' (fun huv => ?_) hh
        cases u <;> cases v <;> simp at huv
        exact hm _ _ (ha rfl) (h _ _ _ ho)
    · cases hh; exact ha rfl
theorem chainT_known {N : Nat} {op : List Nat} {mk : Fm → Fm → Fm} {opd : List (List Nat) → Option (Fm × Bool × List (List Nat))} (hm : ∀ a b, VarsIn N a → VarsIn N b → VarsIn N (mk a b)) (h : KnownT N opd) : KnownT N (chainT op mk opd) := fun ts t ts' hh => by
  unfold chainT at hh
  cases ho : opd ts with
  | none => rw [ho] at hh; cases hh
  | some q =>
    obtain ⟨a, u, ts2⟩ := q
    rw [ho] at hh
    exact loopT_known hm h _ _ _ _ t ts' (fun hu => by subst hu; exact h _ _ _ ho) hh
theorem facT_known {N : Nat} {ix : List Nat → Option Nat} (hx : ∀ l n, ix l = some n → n < N) : ∀ n, KnownT N (facT ix n)
  | 0 => fun ts t ts' h => by cases h
  | n + 1 => fun ts t ts' h => by
    have ih := facT_known hx n
    cases ts with
    | nil => cases h
    | cons w ts =>
      unfold facT at h
      split at h
      · cases ho : facT ix n ts with
        | none => rw [ho] at h; cases h
        | some q =>
          obtain ⟨a, u, ts2⟩ := q
          rw [ho] at h
          cases h
          exact show VarsIn N a from ih _ _ _ ho
      split at h
      · cases ho : chainT [124, 124] Fm.or (chainT [38, 38] Fm.and (facT ix n)) ts with
        | none => rw [ho] at h; cases h
        | some q =>
          obtain ⟨a, u, ts2⟩ := q
          rw [ho] at h
          simp only at h
          split at h
          · cases h
            exact chainT_known (mk := Fm.or) (fun _ _ h h' => ⟨h, h'⟩) (chainT_known (mk := Fm.and) (fun _ _ h h' => ⟨h, h'⟩) ih) _ _ _ ho
          · cases h
      split at h
      · simp only [Option.some.injEq, Prod.mk.injEq] at h
        obtain ⟨rfl, h2, _⟩ := h
        unfold wordT at h2 ⊢
        split
        · trivial
        · split
          · trivial
          · rename_i h3 h4
            rw [if_neg h3, if_neg h4] at h2
            simp only at h2
            cases hi : ix w with
            | none => rw [hi] at h2; cases h2
            | some k => exact hx _ _ hi
      · cases h
theorem ixR_lt (l : List Nat) (N : Nat) : ∀ (names : List (List Nat)) (i : Nat) (acc : Option Nat), (∀ n, acc = some n → n < N) → i + names.length ≤ N → ∀ n, ixR l names i acc = some n → n < N
  | [], i, acc, ha, _, n, h => ha n h
  | s :: names, i, acc, ha, hl, n, h => by
    unfold ixR at h
    refine ixR_lt l N names (i + 1) _ (fun m hm => ?_) (by simp at hl; omega) n h
    split at hm
    · cases hm; simp at hl; omega
    · exact ha m hm
theorem ixN_lt {names : List (List Nat)} {l : List Nat} {n : Nat} (h : ixN names l = some n) : n < names.length := ixR_lt l _ names 0 none (fun _ h => by cases h) (by omega) n h
theorem parseT_ok {nm : List (List Nat)} {s : List Nat} {t : Fm} (h : parseT nm s = .ok t) : numsOk nm = true ∧ VarsIn nm.length t ∧ szF t ≤ 512 := by
  unfold parseT at h
  split at h
  · rename_i hn
    split at h
    · split at h
      · cases h
      · rename_i t' u ts hw
        split at h
        · cases h
        split at h
        · cases h
        split at h
        · cases h
        · rename_i hu hs
          cases h
          have hu : u = false := by simpa using hu
          subst hu
          exact ⟨hn, chainT_known (mk := Fm.or) (fun _ _ h h' => ⟨h, h'⟩) (chainT_known (mk := Fm.and) (fun _ _ h h' => ⟨h, h'⟩) (facT_known (fun l n h => ixN_lt h) _)) _ _ _ hw, by omega⟩
    · cases h
  · cases h
theorem parseT_err {nm : List (List Nat)} {s : List Nat} {e : Int} (h : parseT nm s = .error e) : e = 1 ∨ e = 2 ∨ e = 3 ∨ e = 31 := by
  unfold parseT at h
  repeat' split at h
  all_goals first | cases h | skip
  all_goals simp

/-- A set of configurations, by its members. -/
abbrev BF := (Nat → Bool) → Bool
/-- The set of an expression, or an error number. -/
def setE (nm : List (List Nat)) (s : List Nat) : Except Int BF := match parseT nm s with
  | .ok t => .ok (evF t)
  | .error e => .error (if e = 2 then 2 else 71)

/-! ### Lines -/
inductive Dir where
  | txt
  | ifd (s : List Nat)
  | elif (s : List Nat)
  | els
  | en
  | inc (s : List Nat)
def pIf : List Nat := [35, 105, 102, 32]
def pElif : List Nat := [35, 101, 108, 105, 102, 32]
def pInc : List Nat := [35, 105, 110, 99, 108, 117, 100, 101, 32]
def lElse : List Nat := [35, 101, 108, 115, 101]
def lEnd : List Nat := [35, 101, 110, 100]
/-- What a line is. -/
def dirOf (s : List Nat) : Dir := if pIf.isPrefixOf s then .ifd (s.drop 4) else if pInc.isPrefixOf s then .inc (s.drop 9) else if pElif.isPrefixOf s then .elif (s.drop 6) else if s = lElse then .els else if s = lEnd then .en else .txt

/-- The lines of a text; each lacks its line feed. -/
def linesOf : List Nat → List (List Nat)
  | [] => []
  | b :: l => if b = 10 then [] :: linesOf l else match linesOf l with
    | [] => [[b]]
    | s :: ls => (b :: s) :: ls
/-- The text of some lines. -/
def unl (ls : List (List Nat)) : List Nat := ls.flatMap (fun s => s ++ [10])
theorem unl_cons (s : List Nat) (ls : List (List Nat)) : unl (s :: ls) = s ++ 10 :: unl ls := by simp [unl]
theorem unl_le (ls : List (List Nat)) : ls.length ≤ (unl ls).length := by
  induction ls with
  | nil => exact Nat.le_refl _
  | cons s ls ih => rw [unl_cons]; simp only [List.length_cons, List.length_append]; omega
/-- No line has a line feed. -/
def Lines (ls : List (List Nat)) : Prop := ∀ s ∈ ls, 10 ∉ s
theorem linesOf_line (s l : List Nat) (h : 10 ∉ s) : linesOf (s ++ 10 :: l) = s :: linesOf l := by
  induction s with
  | nil => simp [linesOf]
  | cons b s ih =>
    simp only [List.mem_cons, not_or] at h
    rw [List.cons_append, linesOf, if_neg (fun e => h.1 e.symm), ih h.2]
/-- A text that is empty or ends with a line feed. -/
def TextOk (l : List Nat) : Prop := l = [] ∨ l.getLast? = some 10
theorem linesOf_lines : ∀ (l : List Nat), Lines (linesOf l)
  | [] => fun s hs => by simp [linesOf] at hs
  | b :: l => by
    have ih := linesOf_lines l
    intro s hs
    unfold linesOf at hs
    split at hs
    · simp only [List.mem_cons] at hs
      rcases hs with rfl | hs
      · simp
      · exact ih s hs
    · rename_i hb
      cases hl : linesOf l with
      | nil =>
        rw [hl] at hs
        simp only [List.mem_singleton] at hs
        subst hs
        simpa using fun e => hb e.symm
      | cons t ls =>
        rw [hl] at hs ih
        simp only [List.mem_cons] at hs
        rcases hs with rfl | hs
        · have := ih t (by simp)
          simp only [List.mem_cons, not_or]
          exact ⟨fun e => hb e.symm, this⟩
        · exact ih s (by simp [hs])
theorem unl_linesOf : ∀ {l : List Nat}, TextOk l → unl (linesOf l) = l
  | [], _ => rfl
  | b :: l, h => by
    have hl : TextOk l := by
      cases l with
      | nil => exact .inl rfl
      | cons c l => right; rcases h with h | h; cases h; simpa using h
    have ih := unl_linesOf hl
    unfold linesOf
    split
    · rename_i hb; subst hb; rw [unl_cons, ih]; rfl
    · rename_i hb
      cases hls : linesOf l with
      | nil =>
        rw [hls] at ih
        have : l = [] := ih.symm
        subst this
        rcases h with h | h
        · cases h
        · simp at h; exact absurd h hb
      | cons t ls =>
        rw [hls] at ih
        simp only [unl_cons] at ih ⊢
        rw [List.cons_append, ih]
/-! ### Reading -/
/-- A run of lines of a file under a condition. -/
structure Sg where
  f : Nat
  t : Nat
  fl : Nat
  at_ : Nat
  o : BF
/-- What was read so far; whether the next line of text begins a segment. -/
structure Gs where
  tx : List Nat
  sg : List Sg
  fr : Bool
/-- An open section. -/
structure Se where
  ou : BF
  re : BF
  ot : Bool
  ln : Nat
/-- Where an error is. -/
structure Pl where
  e : Int
  f : Int
  l : Int
def setTo (n : Nat) : List Sg → List Sg
  | [] => []
  | [x] => [{ x with t := n }]
  | x :: y :: l => x :: setTo n (y :: l)
theorem setTo_snoc (n : Nat) (l : List Sg) (x : Sg) : setTo n (l ++ [x]) = l ++ [{ x with t := n }] := by
  induction l with
  | nil => rfl
  | cons y l ih =>
    cases l with
    | nil => rfl
    | cons z l => rw [List.cons_append, List.cons_append] at *; rw [setTo, ih]; rfl
/-- A line of text is added. -/
def addG (s : List Nat) (fl at_ : Nat) (k : BF) (g : Gs) : Option Gs :=
  if 1048576 < g.tx.length + s.length ∨ (g.fr = true ∧ g.sg.length = 65536) then none
  else some ⟨g.tx ++ s, setTo (g.tx.length + s.length) (if g.fr then g.sg ++ [⟨g.tx.length, 0, fl, at_, k⟩] else g.sg), false⟩
/-- The file that an include names. -/
def incE (ix : List Nat → Option Nat) (rd : List Nat) (s : List Nat) : Except Int Nat :=
  if s.length < 2 ∨ s.head? ≠ some 34 ∨ s.getLast? ≠ some 34 ∨ s.count 34 ≠ 2 then .error 71
  else match ix ((s.drop 1).take (s.length - 2)) with
    | none => .error 73
    | some n => if n ∈ rd then .error 73 else .ok n
abbrev bAnd (a b : BF) : BF := fun e => a e && b e
abbrev bSub (a b : BF) : BF := fun e => a e && !b e
/-- The lines of a file: inc reads what an include names (its line, the condition, what was read, how many sections are open). -/
def rdL (nm : List (List Nat)) (fl d0 : Nat) (inc : List Nat → Nat → Nat → BF → Gs → Except Pl Gs) : List (List Nat) → Nat → Nat → BF → List Se → Gs → Except Pl Gs
  | [], _, _, _, op, g => match op with
    | [] => .ok { g with fr := true }
    | x :: _ => .error ⟨72, fl, x.ln⟩
  | s :: ls, ln, at_, k, op, g => match dirOf s with
    | .ifd r => match setE nm r with
      | .error e => .error ⟨e, fl, ln + 1⟩
      | .ok d => if d0 + op.length = 64 then .error ⟨2, fl, ln + 1⟩ else rdL nm fl d0 inc ls (ln + 1) (at_ + s.length + 1) (bAnd k d) (⟨k, bSub k d, false, ln + 1⟩ :: op) { g with fr := true }
    | .inc r => match inc r (ln + 1) (d0 + op.length) k g with
      | .error p => .error p
      | .ok g' => rdL nm fl d0 inc ls (ln + 1) (at_ + s.length + 1) k op { g' with fr := true }
    | .elif r => match op with
      | [] => .error ⟨72, fl, ln + 1⟩
      | x :: op' => if x.ot then .error ⟨71, fl, ln + 1⟩ else match setE nm r with
        | .error e => .error ⟨e, fl, ln + 1⟩
        | .ok d => rdL nm fl d0 inc ls (ln + 1) (at_ + s.length + 1) (bAnd x.re d) ({ x with re := bSub x.re d } :: op') { g with fr := true }
    | .els => match op with
      | [] => .error ⟨72, fl, ln + 1⟩
      | x :: op' => if x.ot then .error ⟨71, fl, ln + 1⟩ else rdL nm fl d0 inc ls (ln + 1) (at_ + s.length + 1) x.re ({ x with ot := true } :: op') { g with fr := true }
    | .en => match op with
      | [] => .error ⟨72, fl, ln + 1⟩
      | x :: op' => rdL nm fl d0 inc ls (ln + 1) (at_ + s.length + 1) x.ou op' { g with fr := true }
    | .txt => match addG (s ++ [10]) fl at_ k g with
      | none => .error ⟨2, fl, ln + 1⟩
      | some g' => rdL nm fl d0 inc ls (ln + 1) (at_ + s.length + 1) k op g'
/-- A file: its number, the files that are being read, how many sections and files are open. -/
def rdF (nm : List (List Nat)) (fs : List (List Nat × List Nat)) : Nat → List Nat → Nat → Nat → BF → Gs → Except Pl Gs
  | 0, _, _, _, _, _ => .error ⟨0, 0, 0⟩
  | f + 1, rd, d, n, k, g => rdL nm n d (fun r ln d k g => match incE (ixN (fs.map (·.1))) (n :: rd) r with
      | .error e => .error ⟨e, n, ln⟩
      | .ok m => if d = 64 then .error ⟨2, n, ln⟩ else rdF nm fs f (n :: rd) (d + 1) m k g) (linesOf ((fs[n]?.map (·.2)).getD [])) 0 0 k [] { g with fr := true }

/-- A name of a file. -/
def fnameOk (s : List Nat) : Bool := decide (s ≠ []) && s.all (fun b => decide (32 ≤ b) && b != 34 && b != 127)
def textB (l : List Nat) : Bool := decide (l = []) || l.getLast? == some 10
/-- The first error of the files. -/
def chkFs : List (List Nat × List Nat) → List (List Nat) → Nat → Option Pl
  | [], _, _ => none
  | x :: l, seen, i => if ¬ (fnameOk x.1 = true ∧ x.1 ∉ seen ∧ textB x.2 = true) then some ⟨70, i, 0⟩ else if 1048576 < x.2.length then some ⟨2, i, 0⟩ else chkFs l (seen ++ [x.1]) (i + 1)
def filesE (fs : List (List Nat × List Nat)) : Option Pl := if 256 < fs.length then some ⟨2, -1, 0⟩ else chkFs fs [] 0
/-- What Read answers. -/
def readE (nm : List (List Nat)) (fs : List (List Nat × List Nat)) (root : List Nat) : Except Pl Gs :=
  if numsOk nm = false then .error ⟨30, -1, 0⟩ else match filesE fs with
    | some p => .error p
    | none => match ixN (fs.map (·.1)) root with
      | none => .error ⟨73, -1, 0⟩
      | some n => rdF nm fs 65 [] 0 n (fun _ => true) ⟨[], [], false⟩
end
end Go.Proofs.YtedopgkbajhanaaGreatDoor

namespace Go.Proofs.YtedopgkbajhanaaGreatDoor
section
open Go Go.RowKit

theorem dsides_fn (A : Option Addr) (n c : Nat) (r m v : Int) (nd : List Br) (w : World) (h : SB w A n c nd) (hm : m < n + 2) (h64 : v < 64) :
    Fn Tryz.prog 102 [dgV A n c r, .int .i64 m, .int .i64 v] w (fun u w' => u = .tuple #[.int .i64 (sideD nd m v).1, .int .i64 (sideD nd m v).2] ∧ Ext w w') := by
  have hlen := h.2
  have hcap : n ≤ 9223372036854775807 := by have := h.1.le; have := h.1.cap; simp only [maxLen] at this; omega
  refine fn_of_exec (c := { c102 with cuts := [] }) gx_ok Tryz.func102 rfl rfl rfl ?_
  refine new (fun w1 hE1 hz1 hB1 => ?_)
  refine loadN_blk0 hB1 rfl ?_
  refine call (level_fn A n c r m nd w1 (h.ext hE1) hm) ?_
  rintro u w2 ⟨rfl, hE2⟩
  have hE02 := hE1.trans hE2
  have hB2 := hB1.ext hE2
  refine wif_ne (fun c1 => ?_) (fun c1 => ?_)
  · exact ⟨by unfold sideD; rw [if_pos c1], hE02⟩
  · have h2n : ¬ m < 2 := fun h2 => by
      unfold lvlD at c1
      rw [if_pos h2] at c1
      omega
    have hx := List.getElem?_eq_getElem (show (m - 2).toNat < nd.length by omega)
    generalize nd[(m - 2).toNat] = b at hx
    have e : sideD nd m v = (b.l, b.h) := by unfold sideD; rw [if_neg (by omega), hx]
    rw [e]
    refine draw_plan gx_ok (Ext w2) 16 [(true, 0), (true, 1), (true, 2), (true, 3), (true, 4), (true, 5), (true, 6), (true, 7), (true, 8), (true, 9), (true, 10), (true, 11), (true, 12), (true, 13), (true, 14), (true, 15)] (by kernel_rfl) (Ext.drew w2) ?_
    refine qload (v := .slice A n c) (fun w' hw' => by rw [(hB2.ext hw').cell]; rfl) ?_
    refine norm_i64_to (((m - 2).toNat : Nat) : Int) (by omega) (by omega) ?_
    refine index_sls br_len (h.ext hE02) rfl (by omega) (fun p z hz hc => ?_)
    have hzb : z = b := Option.some.inj (hz.symm.trans hx)
    subst hzb
    refine qload (v := .int .i64 z.l) (fun w' hw' => hw'.cell (hc 1 _ rfl)) ?_
    refine qload (v := .slice A n c) (fun w' hw' => by rw [(hB2.ext hw').cell]; rfl) ?_
    refine norm_i64_to (((m - 2).toNat : Nat) : Int) (by omega) (by omega) ?_
    refine index_sls br_len (h.ext hE02) rfl (by omega) (fun p' z' hz' hc' => ?_)
    have hzb' : z' = z := Option.some.inj (hz'.symm.trans hx)
    subst hzb'
    refine qload (v := .int .i64 z'.h) (fun w' hw' => hw'.cell (hc' 2 _ rfl)) ?_
    exact ⟨rfl, hE02.trans (Ext.drew w2)⟩

/-! ### The builder -/
def idxV (nd : List Br) (b : Br) : Option Value := (fstIdx b nd).map fun i => .int .i64 ((i + 2 : Nat) : Int)
/-- A builder: its branches, and the map that knows them. -/
structure Bd (w : World) (base pb km : Nat) (NA : Option Addr) (nc : Nat) (nd : List Br) : Prop where
  blk : Blk w pb 159 [.slice NA nd.length nc, .map (some km)]
  own : Own w base 116 3 NA nd.length nc (brV nd)
  known : ∃ m, MapQ brK w km m ∧ ∀ b, assoc b m = idxV nd b
  lt : pb < base ∧ km < base ∧ pb ≠ km
  top : base ≤ w.heap.size
theorem Bd.ext {w w' : World} {base pb km : Nat} {NA : Option Addr} {nc : Nat} {nd : List Br} (h : Bd w base pb km NA nc nd) (k : Ext w w') : Bd w' base pb km NA nc nd :=
  ⟨h.blk.ext k, h.own.ext k, let ⟨m, h1, h2⟩ := h.known; ⟨m, h1.ext k, h2⟩, h.lt, Nat.le_trans h.top k.size⟩
def BS (pb km : Nat) (NA : Option Addr) : Nat → Prop := fun k => k = pb ∨ k = km ∨ rowS NA k
theorem BS.moved {w : World} {pb km : Nat} {A A' : Option Addr} (h : Moved w A A') : ∀ k, BS pb km A' k → BS pb km A k ∨ w.heap.size ≤ k := by
  rintro k (rfl | rfl | hk)
  · exact .inl (.inl rfl)
  · exact .inl (.inr (.inl rfl))
  · rcases h.rows k hk with h | h
    · exact .inl (.inr (.inr h))
    · exact .inr h
def BdTo (w : World) (base pb km : Nat) (NA : Option Addr) (nd : List Br) (w' : World) : Prop := ∃ NA' nc', Bd w' base pb km NA' nc' nd ∧ Mod (BS pb km NA) w w' ∧ Moved w NA NA'

theorem fst_snoc (b x : Br) : ∀ l : List Br, fstIdx x l = none → fstIdx b (l ++ [x]) = if b = x then some l.length else fstIdx b l
  | [], _ => by
    show (if x = b then some 0 else (none : Option Nat).map (· + 1)) = _
    by_cases h : x = b
    · rw [if_pos h, if_pos h.symm]; rfl
    · rw [if_neg h, if_neg (fun e => h e.symm)]; rfl
  | y :: l, hx => by
    have hy : y ≠ x := fun e => by rw [fstIdx, if_pos e] at hx; cases hx
    have hl : fstIdx x l = none := by
      rw [fstIdx, if_neg hy] at hx
      cases hh : fstIdx x l with
      | none => rfl
      | some k => rw [hh] at hx; cases hx
    have ih := fst_snoc b x l hl
    show (if y = b then some 0 else (fstIdx b (l ++ [x])).map (· + 1)) = if b = x then some (l.length + 1) else if y = b then some 0 else (fstIdx b l).map (· + 1)
    rw [ih]
    by_cases h1 : b = x
    · rw [if_pos h1, if_pos h1, if_neg (fun e => hy (e.trans h1))]; rfl
    · rw [if_neg h1, if_neg h1]

theorem uniq_some {b : Br} {nd : List Br} {i : Nat} (h : b.l ≠ b.h) (k : fstIdx b nd = some i) : uniqD b nd = (nd, ((i + 2 : Nat) : Int)) := by unfold uniqD; rw [if_neg h, k]
theorem uniq_none {b : Br} {nd : List Br} (h : b.l ≠ b.h) (k : fstIdx b nd = none) : uniqD b nd = (nd ++ [b], ((nd.length + 2 : Nat) : Int)) := by unfold uniqD; rw [if_neg h, k]

theorem dbranch_fn (base pb km : Nat) (NA : Option Addr) (nc : Nat) (nd : List Br) (b : Br) (w : World) (h : Bd w base pb km NA nc nd) (hl : nd.length + 1 ≤ 1000000000000) :
    Fn Tryz.prog 136 [.pointer (some ⟨pb, 0, none⟩), .int .i64 b.v, .int .i64 b.l, .int .i64 b.h] w (fun u w' => u = .int .i64 (uniqD b nd).2 ∧ BdTo w base pb km NA (uniqD b nd).1 w') := by
  obtain ⟨p1, p2, p3⟩ := h.lt
  have htop := h.top
  have hrows := h.own.rows
  refine fn_of_exec (c := { c136 with cuts := [] }) gx_ok Tryz.func136 rfl rfl rfl ?_
  refine wif_eq (fun c1 => ?_) (fun c1 => ?_)
  · have e : uniqD b nd = (nd, b.l) := by unfold uniqD; rw [if_pos c1]
    rw [e]
    exact ⟨rfl, NA, nc, h, Mod.refl _ _, Moved.refl _ _⟩
  refine new (fun w1 hE1 hz1 hB1 => ?_)
  refine storeN_blk0 hB1 rfl (sc rfl) (fun w2 hg2 hz2 hB2 => ?_)
  have hE2 : Ext w w2 := newBox hE1 hB1 hg2
  replace hB2 : Blk w2 w.heap.size 116 b.cells := hB2
  have h2 := h.ext hE2
  obtain ⟨m, hm, hmem⟩ := h2.known
  refine draw_plan gx_ok (Ext w2) 11 [(true, 0), (true, 1), (true, 2), (true, 3), (true, 4), (false, 5), (true, 6), (true, 7), (true, 8), (true, 9), (true, 10)] (by kernel_rfl) (Ext.drew w2) ?_
  refine qload (v := .map (some km)) (fun w' hw' => by rw [(h2.blk.ext hw').cell]; rfl) ?_
  refine qloadN (vs := b.cells) rfl (fun w' hw' j v hj => by rw [(hB2.ext hw').cell]; exact hj) ?_
  refine at_lookupQ_ok (kv := brK) (a := b) gx_ok rfl rfl rfl rfl brKey rfl rfl (hm.ext (Ext.drew w2)) ?_
  refine ⟨Ext.drew w2, ?_⟩
  have hE02 := hE2.trans (Ext.drew w2)
  have hB3 := hB2.ext (Ext.drew w2)
  have h3 := h2.ext (Ext.drew w2)
  have hm3 := hm.ext (Ext.drew w2)
  have hz3 : w2.heap.size ≤ w2.drew.heap.size := (Ext.drew w2).size
  generalize w2.drew = w3 at *
  cases hf : fstIdx b nd with
  | some i =>
    have ha : assoc b m = some (.int .i64 ((i + 2 : Nat) : Int)) := by rw [hmem, idxV, hf]; rfl
    have hx0 := uniq_some c1 hf
    refine wif_not (wif_t (by rw [ha]; rfl) ?_)
    rw [hx0]
    exact ⟨by rw [ha]; rfl, NA, nc, h3, Mod.of_ext _ hE02, Moved.refl _ _⟩
  | none =>
    have ha : assoc b m = none := by rw [hmem, idxV, hf]; rfl
    have hx0 := uniq_none c1 hf
    refine wif_not (wif_f (by rw [ha]; rfl) ?_)
    rw [hx0]
    have n3 : w1.heap.size = w.heap.size + 1 := hz1
    have hpr : ¬ rowS NA pb := fun hr => by have := (hrows _ hr).1; omega
    have hxr : ¬ rowS NA w.heap.size := fun hr => by have := (hrows _ hr).2; omega
    refine draw_plan gx_ok (Mod (rowS NA) w3) 8 [(true, 0), (true, 1), (true, 2), (true, 3), (true, 4), (true, 5), (false, 6), (false, 7)] (by kernel_rfl) (Mod.of_ext _ (Ext.drew w3)) ?_
    refine qload (v := .slice NA nd.length nc) (fun w' hw' => by rw [(h3.blk.mod hw' hpr).cell]; rfl) ?_
    refine qloadN (vs := b.cells) rfl (fun w' hw' j v hj => by rw [(hB3.mod hw' hxr).cell]; exact hj) ?_
    refine at_buildN gx_ok [b.cells] rfl rfl rfl rfl rfl ⟨rfl, rfl, ⟨⟩⟩ rfl (fun cs h => by simp only [List.mem_singleton] at h; subst h; rfl) rfl (by decide) (by decide) ?_
    intro w4 hE4 hz4 hB4
    have hE34 := (Ext.drew w3).trans hE4
    have h4 := h3.ext hE34
    refine ⟨Mod.of_ext _ hE34, ?_⟩
    have hs4 : Sl w4 3 (some ⟨w3.drew.heap.size, 0, none⟩) 1 1 b.cells := Sl.own (sz := 3) (n := 1) hB4 (Nat.le_refl _) (by decide) (by simp [Br.cells])
    refine at_app (n := nd.length) gx_ok rfl rfl rfl rfl rfl (by decide) rfl rfl ⟨_, rfl⟩ rfl rfl h4.own hs4 (by intro u hu; simp [Br.cells] at hu; rcases hu with rfl | rfl | rfl <;> rfl) (by unfold maxLen; omega) (by show _ * 24 ≤ _; omega) h4.top ?_
    intro A' c' w5 hm5 hown5 hmv5
    have hM35 : Mod (rowS NA) w3 w5 := (Mod.of_ext (rowS NA) hE34).trans hm5 (fun i hi => .inl hi)
    refine ⟨hM35, ?_⟩
    have hz5 := hM35.size
    have hz34 := hE34.size
    have hz02 := hE02.size
    refine store_mod (h3.blk.mod hM35 hpr) (by simp) (fun w6 hm6 hB6 => ?_)
    have hz6 := hm6.size
    have ar : ∀ i, rowS A' i → base ≤ i := fun i hi => (hown5.rows i hi).1
    have hB6' : Blk w6 pb 159 [.slice A' (nd.length + 1) c', .map (some km)] := hB6
    refine load_blk0 hB6' rfl ?_
    refine norm_i64_to ((nd.length + 2 : Nat) : Int) (by show ((nd.length + 1 : Nat) : Int) + 1 = _; omega) (by omega) ?_
    have hx6 := (hB3.mod hM35 hxr).mod hm6 (by show ¬ w.heap.size = pb; omega)
    have hq6 : MapQ brK w6 km m := (hm3.mod hM35 (fun hr => by have := (hrows _ hr).1; omega)).mod hm6 (by show ¬ km = pb; omega)
    refine draw_plan gx_ok (Ext w6) 6 [(true, 0), (true, 1), (true, 2), (true, 3), (true, 4), (true, 5)] (by kernel_rfl) (Ext.drew w6) ?_
    refine qload (v := .map (some km)) (fun w' hw' => by rw [(hB6'.ext hw').cell]; rfl) ?_
    refine qloadN (vs := b.cells) rfl (fun w' hw' j v hj => by rw [(hx6.ext hw').cell]; exact hj) ?_
    refine at_mapUpdateQ (kv := brK) (a := b) gx_ok rfl rfl rfl rfl brKey rfl rfl rfl (hq6.ext (Ext.drew w6)) (fun w8 hm8 hz8 hq8 => ?_)
    have hM68 : Mod (· = km) w6 w8 := (Mod.of_ext (· = km) (Ext.drew w6)).trans hm8 (fun i hi => .inl hi)
    have hM3 : Mod (BS pb km NA) w w3 := Mod.of_ext _ hE02
    have hM5 : Mod (BS pb km NA) w w5 := hM3.trans hM35 (fun i hi => .inl (.inr (.inr hi)))
    have hM6 : Mod (BS pb km NA) w w6 := hM5.trans hm6 (fun i hi => .inl (.inl hi))
    have hM8 : Mod (BS pb km NA) w w8 := hM6.trans hM68 (fun i hi => .inl (.inr (.inl hi)))
    have el : (nd ++ [b]).length = nd.length + 1 := by simp
    refine ⟨rfl, A', c', ⟨?_, ?_, ⟨_, hq8, fun x => ?_⟩, h.lt, Nat.le_trans htop hM8.size⟩, hM8, hmv5.back (by omega)⟩
    · rw [el]; exact hB6'.mod hM68 (by show ¬ pb = km; omega)
    · rw [el, brV_snoc]
      exact (hown5.mod hm6 (fun i hi e => by have := ar i hi; have e' : i = pb := e; omega)).mod hM68 (fun i hi e => by have := ar i hi; have e' : i = km := e; omega)
    · rw [assoc_set, hmem, idxV, idxV, fst_snoc x b nd hf]
      by_cases hxb : x = b
      · rw [if_pos hxb, if_pos hxb]; rfl
      · rw [if_neg hxb, if_neg hxb]

/-! ### Check of several, limited, Constant, Var, the closures -/
theorem dcheck_fn (F : Option Addr) (m cf : Nat) (L : List DV) (w : World) (h : SlS DV.cells 2 w F m cf L) (hL : ∀ x ∈ L, SB w x.A x.n x.c x.nd) :
    Fn Tryz.prog 62 [.slice F m cf] w (fun v w' => v = .int .i64 (firstD L) ∧ Ext w w') := by
  have hlen := h.2
  have hcap : m ≤ 9223372036854775807 := by have := h.1.le; have := h.1.cap; simp only [maxLen] at this; omega
  refine fn_of_exec (c := { c62 with cuts := [] }) gx_ok Tryz.func62 rfl rfl rfl ?_
  refine loop gx_ok [8] (fun s : Nat => [.int .i64 s]) (fun s w' => Ext w w' ∧ s ≤ m ∧ ∀ (j : Nat) (y : DV), j < s → L[j]? = some y → chkD y.nd y.r = 0) (fun s _ => m - s) 0 rfl ⟨Ext.refl w, Nat.zero_le _, fun j y hj => absurd hj (by omega)⟩ ?_
  rintro s w1 ⟨hE1, hs, hall⟩
  refine wif_d (fun h2 => ?_) (fun h2 => ?_)
  · refine index_sls dv_len (h.ext hE1) rfl (by omega) (fun p x hx hc => ?_)
    refine loadN_at (vs := x.cells) rfl hc ?_
    refine new (fun w2 hE2 hz2 hB2 => ?_)
    refine storeN_blk0 hB2 rfl (sc rfl) (fun w3 hg3 hz3 hB3 => ?_)
    have hE3 : Ext w w3 := hE1.trans (newBox hE2 hB2 hg3)
    refine loadN_blk0 hB3 rfl ?_
    refine call (check2_fn x.A x.n x.c x.nd x.r w3 ((hL x (List.mem_of_getElem? hx)).ext hE3)) ?_
    rintro v w4 ⟨rfl, hE4⟩
    refine wif_ne (fun c1 => ?_) (fun c1 => ?_)
    · exact ⟨by rw [firstD_hit hall hx c1], hE3.trans hE4⟩
    · refine norm_i64_to ((s + 1 : Nat) : Int) (by omega) (by omega) ?_
      refine ⟨s + 1, rfl, ⟨hE3.trans hE4, by omega, fun j y hj hy => ?_⟩, by show m - (s + 1) < m - s; omega⟩
      by_cases hjs : j < s
      · exact hall j y hjs hy
      · have : j = s := by omega
        subst this
        rw [Option.some.inj (hy.symm.trans hx)]; exact c1
  · exact ⟨by rw [firstD_none (fun j y hj hy => hall j y (by omega) hy)], hE1⟩

theorem dlimited_fn (A : Option Addr) (n c : Nat) (a : List Br) (ra : Int) (w0 w : World) (h : SB w A n c a) (hr : ∀ i, rowS A i → w0.heap.size ≤ i) (hE : Ext w0 w) :
    Fn Tryz.prog 103 [dgV A n c ra] w (DgE w0 (limD (a, ra))) := by
  have hal := h.2
  refine fn_of_exec (c := { c103 with cuts := [] }) gx_ok Tryz.func103 rfl rfl rfl ?_
  refine new (fun w1 hE1 hz1 hB1 => ?_)
  refine new (fun w2 hE2 hz2 hB2 => ?_)
  have hE02 := hE1.trans hE2
  refine load_blk0 (hB1.ext hE2) rfl ?_
  refine wif_d (fun c1 => ?_) (fun c1 => ?_)
  · have e : limD (a, ra) = (([], 0), 2) := by unfold limD; rw [if_pos (show 4096 < (a, ra).1.length by simp only; omega)]
    rw [e]
    refine storeN_blk0 hB2 rfl (sc rfl) (fun w3 hg3 _ hB3 => ?_)
    have hM3 : Mod (· = w1.heap.size) w2 w3 := Mod.of_grown hg3 rfl
    refine loadN_blk0 hB3 rfl ?_
    exact ⟨none, 0, 0, rfl, hE.trans (hM3.ext hE02 (fun i hi => by have := hE1.size; omega)), SlS.nil _, fun i ⟨_, e, _⟩ => by cases e⟩
  · have e : limD (a, ra) = ((a, ra), 0) := by unfold limD; rw [if_neg (show ¬ 4096 < (a, ra).1.length by simp only; omega)]
    rw [e]
    refine loadN_blk0 (hB1.ext hE2) rfl ?_
    refine storeN_blk0 hB2 rfl (sc rfl) (fun w3 hg3 _ hB3 => ?_)
    have hM3 : Mod (· = w1.heap.size) w2 w3 := Mod.of_grown hg3 rfl
    refine loadN_blk0 hB3 rfl ?_
    refine ⟨A, n, c, rfl, hE.trans (hM3.ext hE02 (fun i hi => by have := hE1.size; omega)), ⟨(h.ext hE02).1.modS hM3 (fun h0 i hi e => by obtain ⟨ad, rfl, rfl⟩ := hi; have := SB.lt h ad rfl h0; omega), hal⟩, hr⟩

theorem dvar_fn (k : Int) (w : World) (h0 : 0 ≤ k) (h1 : k ≤ 63) : Fn Tryz.prog 148 [.int .i64 k] w (DgE w (([⟨k, 0, 1⟩], 2), 0)) := by
  refine fn_of_exec (c := { c148 with cuts := [] }) gx_ok Tryz.func148 rfl rfl rfl ?_
  refine new (fun w1 hE1 hz1 hB1 => ?_)
  refine wif_df (by omega) ?_
  refine wif_df (by omega) ?_
  refine at_buildN gx_ok [(⟨k, 0, 1⟩ : Br).cells] rfl rfl rfl rfl rfl ⟨rfl, rfl, ⟨⟩⟩ rfl (fun cs h => by simp only [List.mem_singleton] at h; subst h; rfl) rfl (by decide) (by decide) ?_
  intro w2 hE2 hz2 hB2
  refine storeN_blk0 (hB1.ext hE2) rfl (sc rfl) (fun w3 hg3 _ hB3 => ?_)
  have hM3 : Mod (· = w.heap.size) w2 w3 := Mod.of_grown hg3 rfl
  refine loadN_blk0 hB3 rfl ?_
  refine ⟨some ⟨w1.heap.size, 0, none⟩, 1, 1, rfl, hM3.ext (hE1.trans hE2) (fun i hi => by omega), ⟨Sl.own (sz := 3) (n := 1) (hB2.mod hM3 (by omega)) (Nat.le_refl _) (by decide) (by simp [Br.cells]), rfl⟩, fun i ⟨ad, e, hi⟩ => by cases e; simp only at hi; omega⟩

theorem dconst_fn (b : Bool) (w : World) : Fn Tryz.prog 34 [.bool b] w (fun v w' => v = dgV none 0 0 (if b then 1 else 0) ∧ Ext w w') := by
  refine fn_of_exec (c := { c34 with cuts := [] }) gx_ok Tryz.func34 rfl rfl rfl ?_
  refine new (fun w1 hE1 hz1 hB1 => ?_)
  cases b with
  | true =>
    refine wif_t rfl ?_
    refine storeN_blk0 hB1 rfl (sc rfl) (fun w3 hg3 _ hB3 => ?_)
    refine loadN_blk0 hB3 rfl ?_
    exact ⟨rfl, newBox hE1 hB1 hg3⟩
  | false =>
    refine wif_f rfl ?_
    refine storeN_blk0 hB1 rfl (sc rfl) (fun w3 hg3 _ hB3 => ?_)
    refine loadN_blk0 hB3 rfl ?_
    exact ⟨rfl, newBox hE1 hB1 hg3⟩

/-- The closures and their operations. -/
def CloOp (F : Nat) (op : Int) : Prop := (F = 149 ∧ op = 0) ∨ (F = 65 ∧ op = 1) ∨ (F = 150 ∧ op = 3)
theorem clo_fn {F : Nat} {op : Int} (h : CloOp F op) (x y : Bool) (w : World) : Fn Tryz.prog F [.bool x, .bool y] w (fun v w' => v = .bool (opB op x y) ∧ w = w') := by
  rcases h with ⟨rfl, rfl⟩ | ⟨rfl, rfl⟩ | ⟨rfl, rfl⟩
  · refine fn_of_exec (c := { c149 with cuts := [] }) gx_ok Tryz.func149 rfl rfl rfl ?_
    cases x with
    | true =>
      refine wif_t rfl ?_
      exact ⟨rfl, rfl⟩
    | false =>
      refine wif_f rfl ?_
      exact ⟨rfl, rfl⟩
  · refine fn_of_exec (c := { c65 with cuts := [] }) gx_ok Tryz.func65 rfl rfl rfl ?_
    cases x with
    | true =>
      refine wif_t rfl ?_
      exact ⟨rfl, rfl⟩
    | false =>
      refine wif_f rfl ?_
      exact ⟨rfl, rfl⟩
  · refine fn_of_exec (c := { c150 with cuts := [] }) gx_ok Tryz.func150 rfl rfl rfl ?_
    exact ⟨rfl, rfl⟩
theorem bin1_fn {F : Nat} {op : Int} (h : CloOp F op) (ob : Nat) (x y z : Bool) (w : World) (hB : Blk w ob 113 [.func (.func F) #[] #[]]) :
    Fn Tryz.prog 105 [.bool x, .bool y, .bool z, .pointer (some ⟨ob, 0, none⟩)] w (fun v w' => v = .bool (opB op x y) ∧ w = w') := by
  rcases h with ⟨rfl, rfl⟩ | ⟨rfl, rfl⟩ | ⟨rfl, rfl⟩
  · refine fn_of_exec (c := { c105 with cuts := [] }) gx_ok Tryz.func105 rfl rfl rfl ?_
    refine load_blk0 hB rfl ?_
    refine call (clo_fn (op := 0) (.inl ⟨rfl, rfl⟩) x y w) ?_
    rintro _ _ ⟨rfl, rfl⟩
    exact ⟨rfl, rfl⟩
  · refine fn_of_exec (c := { c105 with cuts := [] }) gx_ok Tryz.func105 rfl rfl rfl ?_
    refine load_blk0 hB rfl ?_
    refine call (clo_fn (op := 1) (.inr (.inl ⟨rfl, rfl⟩)) x y w) ?_
    rintro _ _ ⟨rfl, rfl⟩
    exact ⟨rfl, rfl⟩
  · refine fn_of_exec (c := { c105 with cuts := [] }) gx_ok Tryz.func105 rfl rfl rfl ?_
    refine load_blk0 hB rfl ?_
    refine call (clo_fn (op := 3) (.inr (.inr ⟨rfl, rfl⟩)) x y w) ?_
    rintro _ _ ⟨rfl, rfl⟩
    exact ⟨rfl, rfl⟩
end
end Go.Proofs.YtedopgkbajhanaaGreatDoor

namespace Go.Proofs.YtedopgkbajhanaaGreatDoor
section
open Go Go.RowKit

/-! ### Keys that are arrays -/
theorem KeyQ.askingA {α : Type} [DecidableEq α] {P : Program} {ke : Nat} {kv : α → Value} {len elem : Nat} (hu : P.underlying ke = some (.array len elem))
    (heq : ∀ (a b : α) (w : World), (Op.equal ke (kv a) (kv b)).run P w = .ok (decide (a = b)) w) (hc : ∀ b a w, (Instr.checkKey b 10000 ke (kv a)).run P w = .ok () w) (hb : ∀ a, Instr.sameBits 10000 (kv a) (kv a) = true) : KeyQ P ke kv := by
  refine ⟨fun a m bs w hl => ?_, hc, hb⟩
  have key := findAsking_ents (P := P) (ke := ke) (kv := kv) a w (fun b => heq a b w) m bs 0 hl
  obtain ⟨r, h1, h2, h3, h4⟩ := key
  refine ⟨r, ?_, h2, fun j v hj v' => by simpa using (h3 j v hj).2 v', h4⟩
  unfold Instr.findKey
  simp only [Sem.run_bind, run_underlying hu, Result.andThen_ok]
  cases m with
  | nil =>
    simp only [entsOf, List.zip_nil_left, List.map_nil, Instr.findNow, Sem.run_pure]
    simp [entsOf, Instr.findAsking] at h1
    rw [h1]
  | cons p m =>
    cases bs with
    | nil => simp at hl
    | cons s bs =>
      have e : entsOf kv (p :: m) (s :: bs) = { key := kv p.1, val := p.2, born := s } :: entsOf kv m bs := rfl
      rw [e] at h1 ⊢
      have hn : Instr.findNow (.array len elem) (kv a) ({ key := kv p.1, val := p.2, born := s } :: entsOf kv m bs) 0 = none := by
        simp [Instr.findNow, Instr.sameNow]
      rw [hn]
      exact h1
abbrev I3 := Int × Int × Int
abbrev i3C (t : I3) : List Value := [.int .i64 t.1, .int .i64 t.2.1, .int .i64 t.2.2]
abbrev i3K : I3 → Value := fun t => .agg #[.int .i64 t.1, .int .i64 t.2.1, .int .i64 t.2.2]
theorem ci1 : Tryz.prog.cellsOf 3 = 1 := by kernel_rfl
theorem intEq (a b : Int) (n : Nat) (w : World) : (Op.equalIn (n + 1) 3 (.int .i64 a) (.int .i64 b)).run Tryz.prog w = .ok (a == b) w := by
  simp [Op.equalIn, run_underlying Tryz.underlying3]
theorem i3Eq (a b : I3) (n : Nat) (w : World) : (Op.equalIn (n + 2) 199 (i3K a) (i3K b)).run Tryz.prog w = .ok (decide (a = b)) w := by
  obtain ⟨i, hi⟩ := Option.isSome_iff_exists.1 (show (Tryz.prog.info? 3).isSome = true by kernel_rfl)
  obtain ⟨a0, a1, a2⟩ := a
  obtain ⟨b0, b1, b2⟩ := b
  have e := run_equalIn_array (w := w) (n + 1) #[.int .i64 a0, .int .i64 a1, .int .i64 a2] #[.int .i64 b0, .int .i64 b1, .int .i64 b2] Tryz.underlying199 hi
  rw [ci1, show List.range 3 = [0, 1, 2] from rfl] at e
  refine e.trans ?_
  have p0 : ∀ x y z : Int, (part 3 #[Value.int .i64 x, .int .i64 y, .int .i64 z] (0 * 1)).run Tryz.prog w = .ok (.int .i64 x) w := fun x y z => part_one k3 rfl w
  have p1 : ∀ x y z : Int, (part 3 #[Value.int .i64 x, .int .i64 y, .int .i64 z] (1 * 1)).run Tryz.prog w = .ok (.int .i64 y) w := fun x y z => part_one k3 rfl w
  have p2 : ∀ x y z : Int, (part 3 #[Value.int .i64 x, .int .i64 y, .int .i64 z] (2 * 1)).run Tryz.prog w = .ok (.int .i64 z) w := fun x y z => part_one k3 rfl w
  have dd : decide ((a0, a1, a2) = (b0, b1, b2)) = (a0 == b0 && (a1 == b1 && a2 == b2)) := by
    by_cases h0 : a0 = b0 <;> by_cases h1 : a1 = b1 <;> by_cases h2 : a2 = b2 <;> simp [h0, h1, h2]
  rw [dd]
  simp only [Op.eqItems, Sem.run_bind, p0, Result.andThen_ok, intEq]
  cases h0 : a0 == b0 with
  | false => simp
  | true =>
    simp only [Bool.not_true, Bool.false_eq_true, if_false, Sem.run_bind, p1, Result.andThen_ok, intEq, Bool.true_and]
    cases h1 : a1 == b1 with
    | false => simp
    | true =>
      simp only [Bool.not_true, Bool.false_eq_true, if_false, Sem.run_bind, p2, Result.andThen_ok, intEq, Bool.true_and]
      cases h2 : a2 == b2 <;> simp
theorem i3Check (b : Bool) (a : I3) (n : Nat) (w : World) : (Instr.checkKey b (n + 2) 199 (i3K a)).run Tryz.prog w = .ok () w := by
  obtain ⟨i, hi⟩ := Option.isSome_iff_exists.1 (show (Tryz.prog.info? 3).isSome = true by kernel_rfl)
  have p0 : ∀ x y z : Int, (part 3 #[Value.int .i64 x, .int .i64 y, .int .i64 z] 0).run Tryz.prog w = .ok (.int .i64 x) w := fun x y z => part_one k3 rfl w
  have p1 : ∀ x y z : Int, (part 3 #[Value.int .i64 x, .int .i64 y, .int .i64 z] 1).run Tryz.prog w = .ok (.int .i64 y) w := fun x y z => part_one k3 rfl w
  have p2 : ∀ x y z : Int, (part 3 #[Value.int .i64 x, .int .i64 y, .int .i64 z] 2).run Tryz.prog w = .ok (.int .i64 z) w := fun x y z => part_one k3 rfl w
  have hz : (sizeOf 3).run Tryz.prog w = .ok 1 w := by rw [← ci1]; exact Go.run_sizeOf w hi
  simp [Instr.checkKey, run_underlying Tryz.underlying199, run_underlying Tryz.underlying3, hz, p0, p1, p2, Std.Legacy.Range.forIn_eq_forIn_range', Std.Legacy.Range.size, List.range'_succ]
theorem i3Key : KeyQ Tryz.prog 199 i3K :=
  KeyQ.askingA Tryz.underlying199 (fun a b w => i3Eq a b 9998 w) (fun b a w => i3Check b a 9998 w) (fun a => by simp [Instr.sameBits])
end
end Go.Proofs.YtedopgkbajhanaaGreatDoor

namespace Go.Proofs.YtedopgkbajhanaaGreatDoor
section
open Go Go.RowKit

/-- The variables of combine. -/
structure CP where
  ox : Nat
  ob : Nat
  mx : Nat
  lx : Nat
  ax : Nat
  bx : Nat
  pb : Nat
  km : Nat
  mm : Nat
  F : Nat
  D : AD
def CP.caps (p : CP) : List Value := [VP.ptr p.ox, VP.ptr p.mx, VP.ptr p.lx, VP.ptr p.ax, VP.ptr p.bx]
def CP.clo (p : CP) : Value := .func (.func 135) #[] #[VP.ptr p.ox, VP.ptr p.mx, VP.ptr p.lx, VP.ptr p.ax, VP.ptr p.bx]
def CP.lC (p : CP) : List Value := [.slice p.D.A p.D.n p.D.c, .int .i64 p.D.ra, .slice p.D.B p.D.m p.D.d, .int .i64 p.D.rb, .slice none 0 0, .int .i64 0]
/-- What stays. -/
structure CK (w : World) (base : Nat) (p : CP) : Prop where
  hF : CloOp p.F p.D.op
  oxb : Blk w p.ox 176 [.func (.func 105) #[] #[VP.ptr p.ob]]
  obb : Blk w p.ob 113 [.func (.func p.F) #[] #[]]
  mxb : Blk w p.mx 197 [.map (some p.mm)]
  lxb : Blk w p.lx 175 p.lC
  axb : Blk w p.ax 198 [p.clo]
  bxb : Blk w p.bx 156 [VP.ptr p.pb]
  as_ : SB w p.D.A p.D.n p.D.c p.D.a
  bs : SB w p.D.B p.D.m p.D.d p.D.b
  off : ∀ k, k = p.ox ∨ k = p.ob ∨ k = p.mx ∨ k = p.lx ∨ k = p.ax ∨ k = p.bx → k < base ∧ k ≠ p.pb ∧ k ≠ p.km ∧ k ≠ p.mm
  rowA : ∀ ad, p.D.A = some ad → 0 < p.D.n → ad.block < base ∧ ad.block ≠ p.pb ∧ ad.block ≠ p.km ∧ ad.block ≠ p.mm
  rowB : ∀ ad, p.D.B = some ad → 0 < p.D.m → ad.block < base ∧ ad.block ≠ p.pb ∧ ad.block ≠ p.km ∧ ad.block ≠ p.mm
/-- What the closure writes. -/
def CS (p : CP) (NA : Option Addr) : Nat → Prop := fun k => k = p.mm ∨ BS p.pb p.km NA k
theorem CS.moved {w : World} {p : CP} {A A' : Option Addr} (h : Moved w A A') : ∀ k, CS p A' k → CS p A k ∨ w.heap.size ≤ k := by
  rintro k (rfl | hk)
  · exact .inl (.inl rfl)
  · rcases BS.moved h k hk with h | h
    · exact .inl (.inr h)
    · exact .inr h
theorem CS.trans {w w1 w2 : World} {p : CP} {A A1 : Option Addr} (hm : Mod (CS p A) w w1) (hv : Moved w A A1) (h : Mod (CS p A1) w1 w2) : Mod (CS p A) w w2 := hm.trans h (CS.moved hv)
theorem CS.no {p : CP} {base : Nat} {NA : Option Addr} (hr : ∀ i, rowS NA i → base ≤ i) {k : Nat} (h : k < base ∧ k ≠ p.pb ∧ k ≠ p.km ∧ k ≠ p.mm) : ¬ CS p NA k := fun e => by
  obtain ⟨h1, h2, h3, h4⟩ := h
  rcases e with e | e | e | e
  · exact h4 e
  · exact h2 e
  · exact h3 e
  · have := hr k e; omega
theorem CK.mod {w w' : World} {base : Nat} {p : CP} {NA : Option Addr} (h : CK w base p) (hr : ∀ i, rowS NA i → base ≤ i) (hm : Mod (CS p NA) w w') : CK w' base p := by
  have k := fun k hk => CS.no (p := p) hr (h.off k hk)
  refine ⟨h.hF, h.oxb.mod hm (k _ (by simp)), h.obb.mod hm (k _ (by simp)), h.mxb.mod hm (k _ (by simp)), h.lxb.mod hm (k _ (by simp)), h.axb.mod hm (k _ (by simp)), h.bxb.mod hm (k _ (by simp)), ⟨h.as_.1.modS hm ?_, h.as_.2⟩, ⟨h.bs.1.modS hm ?_, h.bs.2⟩, h.off, h.rowA, h.rowB⟩
  · rintro h0 i ⟨ad, e, rfl⟩
    exact CS.no hr (h.rowA ad e h0)
  · rintro h0 i ⟨ad, e, rfl⟩
    exact CS.no hr (h.rowB ad e h0)
theorem CK.ext {w w' : World} {base : Nat} {p : CP} (h : CK w base p) (k : Ext w w') : CK w' base p :=
  h.mod (NA := none) (fun i hi => by obtain ⟨_, e, _⟩ := hi; cases e) (Mod.of_ext _ k)
def memV (l : List Tr3) (x y : Int) : Option Value := (l.find? (fun t => decide (t.1 = x ∧ t.2.1 = y))).map fun t => .int .i64 t.2.2
/-- What changes. -/
structure CSt (w : World) (base : Nat) (p : CP) (NA : Option Addr) (nc : Nat) (st : List Br × List Tr3) : Prop where
  bd : Bd w base p.pb p.km NA nc st.1
  memo : ∃ m, MapQ i3K w p.mm m ∧ ∀ x y : Int, assoc ((x, y, 0) : I3) m = memV st.2 x y
  lt : p.mm < base ∧ p.mm ≠ p.pb ∧ p.mm ≠ p.km
theorem CSt.ext {w w' : World} {base : Nat} {p : CP} {NA : Option Addr} {nc : Nat} {st : List Br × List Tr3} (h : CSt w base p NA nc st) (k : Ext w w') : CSt w' base p NA nc st :=
  ⟨h.bd.ext k, let ⟨m, h1, h2⟩ := h.memo; ⟨m, h1.ext k, h2⟩, h.lt⟩
def CTo (w : World) (base : Nat) (p : CP) (NA : Option Addr) (st : List Br × List Tr3) (w' : World) : Prop := ∃ NA' nc', CSt w' base p NA' nc' st ∧ Mod (CS p NA) w w' ∧ Moved w NA NA'

theorem constB {op x y : Int} (x0 : 0 ≤ x) (x1 : x < 2) (y0 : 0 ≤ y) (y1 : y < 2) : constD op x y = if opB op (decide (x = 1)) (decide (y = 1)) then 1 else 0 := by
  have h1 := const_mean (op := op) x0 x1 y0 y1
  have h2 := constD_in (op := op) x0 x1 y0 y1
  rw [← h1]
  by_cases h : constD op x y = 1
  · rw [decide_eq_true h]; exact h
  · rw [decide_eq_false h]; show constD op x y = 0; omega

theorem at2_sum {a b : List Br} (ha : DOk a) (hb : DOk b) (op : Int) : ∀ (f : Nat) (x y : Int) (st : List Br × List Tr3), 0 ≤ x → 0 ≤ y → x < a.length + 2 → y < b.length + 2 →
    ∀ t ∈ (at2 a b op f x y st).2.2, t ∈ st.2 ∨ t.1 + t.2.1 ≤ x + y
  | 0, x, y, st, _, _, _, _ => fun t ht => .inl ht
  | f + 1, x, y, st, x0, y0, hx, hy => by
    by_cases hxy : x < 2 ∧ y < 2
    · rw [at2_c hxy]; exact fun t ht => .inl ht
    cases k : st.2.find? (fun t => decide (t.1 = x ∧ t.2.1 = y)) with
    | some t => rw [at2_s hxy k]; exact fun t ht => .inl ht
    | none =>
      have hv64 : min (lvlD a x) (lvlD b y) < 64 := by
        by_cases c : x < 2
        · have := lvl_lt hb (n := y) (fun c2 => hxy ⟨c, c2⟩) (by omega)
          rw [Int.min_def]; split <;> omega
        · have := lvl_lt ha (n := x) c (by omega)
          rw [Int.min_def]; split <;> omega
      rw [at2_n hxy k _ rfl]
      generalize min (lvlD a x) (lvlD b y) = v at *
      obtain ⟨s1, s2, s3, s4, s5⟩ := sideD_le ha (n := x) x0 hv64
      obtain ⟨t1, t2, t3, t4, t5⟩ := sideD_le hb (n := y) y0 hv64
      have j1 := at2_sum ha hb op f _ _ st s1 t1 (by omega) (by omega)
      generalize (at2 a b op f (sideD a x v).1 (sideD b y v).1 st) = r0 at *
      have j2 := at2_sum ha hb op f _ _ r0.2 s3 t3 (by omega) (by omega)
      generalize (at2 a b op f (sideD a x v).2 (sideD b y v).2 r0.2) = r1 at *
      intro t ht
      simp only [List.mem_append, List.mem_singleton] at ht
      rcases ht with ht | rfl
      · rcases j2 t ht with h1 | h1
        · rcases j1 t h1 with h2 | h2
          · exact .inl h2
          · exact .inr (by omega)
        · exact .inr (by omega)
      · exact .inr (by simp only; omega)

theorem at3_fn (base : Nat) (p : CP) (ha : DOk p.D.a) (hb : DOk p.D.b) (hlim : p.D.n ≤ 1000000000000 ∧ p.D.m ≤ 1000000000000) : ∀ (m : Nat) (x y : Int) (st : List Br × List Tr3) (NA : Option Addr) (nc : Nat) (w : World),
    CK w base p → CSt w base p NA nc st → 0 ≤ x → 0 ≤ y → x + y < m → x < p.D.n + 2 → y < p.D.m + 2 → (at2 p.D.a p.D.b p.D.op m x y st).2.1.length ≤ 100000000000 →
    Fn Tryz.prog 135 (i3K (x, y, 0) :: p.caps) w (fun v w' => v = .int .i64 (at2 p.D.a p.D.b p.D.op m x y st).1 ∧ CTo w base p NA (at2 p.D.a p.D.b p.D.op m x y st).2 w')
  | 0, x, y, st, NA, nc, w, _, _, x0, y0, hm, _, _, _ => by omega
  | m + 1, x, y, st, NA, nc, w, hK, hS, x0, y0, hm, hx, hy, hl1 => by
    have ih := at3_fn base p ha hb hlim m
    have hal : p.D.a.length = p.D.n := hK.as_.2
    have hbl : p.D.b.length = p.D.m := hK.bs.2
    have htop := hS.bd.top
    have hrw : ∀ i, rowS NA i → base ≤ i := fun i hi => (hS.bd.own.rows i hi).1
    refine fn_of_exec (c := { c135 with cuts := [1] }) gx_ok Tryz.func135 rfl rfl rfl ?_
    refine new (fun w1 hE1 hz1 hB1 => ?_)
    replace hB1 : Blk w1 w.heap.size 199 (i3C (x, y, 0)) := hB1
    have hK1 := hK.ext hE1
    have hS1 := hS.ext hE1
    have oB : w.heap.size < w1.heap.size := by omega
    refine cutIn [] gx_ok [] (fun _ : Unit => []) (fun _ w' => w1 = w' ∧ ¬ (x < 2 ∧ y < 2)) ?_ ?_
    · refine index (j := 0) (by decide) ?_
      refine load_blk hB1 rfl ?_
      refine wif_d (fun c1 => ?_) (fun c1 => ?_)
      · refine index (j := 1) (by decide) ?_
        refine load_blk hB1 rfl ?_
        refine wif_d (fun c2 => ?_) (fun c2 => ?_)
        · refine index (j := 2) (by decide) ?_
          refine load_blk hB1 rfl ?_
          refine wif_dt (show (0 : Int) < 2 by decide) ?_
          refine load_blk0 hK1.oxb rfl ?_
          refine index (j := 0) (by decide) ?_
          refine load_blk hB1 rfl ?_
          refine index (j := 1) (by decide) ?_
          refine load_blk hB1 rfl ?_
          refine index (j := 2) (by decide) ?_
          refine load_blk hB1 rfl ?_
          rw [at2_c ⟨c1, c2⟩, constB x0 c1 y0 c2]
          refine call (bin1_fn hK.hF p.ob (decide (x = 1)) (decide (y = 1)) (decide ((0 : Int) = 1)) w1 hK1.obb) ?_
          rintro v _ ⟨rfl, rfl⟩
          cases opB p.D.op (decide (x = 1)) (decide (y = 1)) with
          | true =>
            refine wif_t rfl ?_
            exact ⟨rfl, NA, nc, hS1, Mod.of_ext _ hE1, Moved.refl _ _⟩
          | false =>
            refine wif_f rfl ?_
            exact ⟨rfl, NA, nc, hS1, Mod.of_ext _ hE1, Moved.refl _ _⟩
        · exact ⟨(), rfl, rfl, fun hh => c2 hh.2⟩
      · exact ⟨(), rfl, rfl, fun hh => c1 hh.1⟩
    rintro ⟨⟩ _ ⟨rfl, hxy⟩
    obtain ⟨mq, hmq, hmem⟩ := hS1.memo
    refine load_blk0 hK1.mxb rfl ?_
    refine loadN_blk0 hB1 rfl ?_
    refine at_lookupQ_ok (kv := i3K) (a := ((x, y, 0) : I3)) gx_ok rfl rfl rfl rfl i3Key rfl rfl hmq ?_
    cases k : st.2.find? (fun t => decide (t.1 = x ∧ t.2.1 = y)) with
    | some t =>
      have hat : assoc ((x, y, 0) : I3) mq = some (.int .i64 t.2.2) := by rw [hmem, memV, k]; rfl
      refine wif_t (by rw [hat]; rfl) ?_
      rw [at2_s hxy k]
      exact ⟨by rw [hat]; rfl, NA, nc, hS1, Mod.of_ext _ hE1, Moved.refl _ _⟩
    | none =>
    have hat : assoc ((x, y, 0) : I3) mq = none := by rw [hmem, memV, k]; rfl
    refine wif_f (by rw [hat]; rfl) ?_
    have hv64 : min (lvlD p.D.a x) (lvlD p.D.b y) < 64 := by
      by_cases c : x < 2
      · have := lvl_lt hb (n := y) (fun c2 => hxy ⟨c, c2⟩) (by omega)
        rw [Int.min_def]; split <;> omega
      · have := lvl_lt ha (n := x) c (by omega)
        rw [Int.min_def]; split <;> omega
    have hSC : SB w1 none 0 0 [] := SlS.nil _
    have qL : ∀ w', Ext w1 w' → ∀ (j : Nat) (v : Value), p.lC[j]? = some v → w'.cell? ((⟨p.lx, 0, none⟩ : Addr).add j) = some v := fun w' hw' j v hj => by rw [(hK1.lxb.ext hw').cell]; exact hj
    have qN : ∀ w', Ext w1 w' → ∀ (j : Nat) (v : Value), (i3C (x, y, 0))[j]? = some v → w'.cell? ((⟨w.heap.size, 0, none⟩ : Addr).add j) = some v := fun w' hw' j v hj => by rw [(hB1.ext hw').cell]; exact hj
    refine draw_plan gx_ok (Ext w1) 17 [(true, 0), (true, 1), (true, 2), (true, 3), (true, 5), (true, 6), (true, 7), (true, 8), (true, 10), (true, 11), (true, 12), (true, 13), (false, 4), (false, 9), (false, 14), (true, 15), (true, 16)] (by kernel_rfl) (Ext.drew w1) ?_
    refine index_n (j := 0) (by decide) ?_
    refine qloadN (vs := [.slice p.D.A p.D.n p.D.c, .int .i64 p.D.ra]) rfl (fun w' hw' j v hj => by
      rw [add_add, (hK1.lxb.ext hw').cell]
      match j, hj with
      | 0, hj => exact hj
      | 1, hj => exact hj) ?_
    refine index (j := 0) (by decide) ?_
    refine qload (v := .int .i64 x) (fun w' hw' => qN w' hw' 0 _ rfl) ?_
    refine index_n (j := 1) (by decide) ?_
    refine qloadN (vs := [.slice p.D.B p.D.m p.D.d, .int .i64 p.D.rb]) rfl (fun w' hw' j v hj => by
      rw [add_add, (hK1.lxb.ext hw').cell]
      match j, hj with
      | 0, hj => exact hj
      | 1, hj => exact hj) ?_
    refine index (j := 1) (by decide) ?_
    refine qload (v := .int .i64 y) (fun w' hw' => qN w' hw' 1 _ rfl) ?_
    refine index_n (j := 2) (by decide) ?_
    refine qloadN (vs := [.slice none 0 0, .int .i64 0]) rfl (fun w' hw' j v hj => by
      rw [add_add, (hK1.lxb.ext hw').cell]
      match j, hj with
      | 0, hj => exact hj
      | 1, hj => exact hj) ?_
    refine index (j := 2) (by decide) ?_
    refine qload (v := .int .i64 0) (fun w' hw' => qN w' hw' 2 _ rfl) ?_
    refine call (level_fn p.D.A p.D.n p.D.c p.D.ra x p.D.a _ (hK1.as_.ext (Ext.drew w1)) (by omega)) ?_
    rintro u w2 ⟨rfl, hE2⟩
    have hE12 := (Ext.drew w1).trans hE2
    refine ⟨hE12, ?_⟩
    refine call (level_fn p.D.B p.D.m p.D.d p.D.rb y p.D.b _ (hK1.bs.ext hE12) (by omega)) ?_
    rintro u w3 ⟨rfl, hE3⟩
    have hE13 := hE12.trans hE3
    refine ⟨hE13, ?_⟩
    refine call (level_fn none 0 0 0 0 [] _ (hSC.ext hE13) (by simp)) ?_
    rintro u w4 ⟨rfl, hE4⟩
    have hE14 := hE13.trans hE4
    refine ⟨hE14, ?_⟩
    have l64 : lvlD [] 0 = 64 := rfl
    rw [l64]
    have hvn : -9223372036854775808 ≤ min (lvlD p.D.a x) (lvlD p.D.b y) := by
      have pos : ∀ {d : List Br}, DOk d → ∀ {n : Int}, n < d.length + 2 → 0 ≤ lvlD d n := fun {d} hd {n} hn => by
        by_cases h2 : n < 2
        · rw [lvl_one h2]; omega
        · obtain ⟨z, hz⟩ := getE h2 hn
          rw [lvl_some h2 hz]; exact (hd.2 _ _ hz).1
      have p1 := pos ha (n := x) (by omega)
      have p2 := pos hb (n := y) (by omega)
      rw [Int.min_def]; split <;> omega
    have hmin3 : (if (64 : Int) < (if lvlD p.D.b y < lvlD p.D.a x then lvlD p.D.b y else lvlD p.D.a x) then 64 else (if lvlD p.D.b y < lvlD p.D.a x then lvlD p.D.b y else lvlD p.D.a x)) = min (lvlD p.D.a x) (lvlD p.D.b y) := by
      rw [Int.min_def] at hv64 ⊢
      split at hv64 <;> split <;> split <;> omega
    refine norm (m := min (lvlD p.D.a x) (lvlD p.D.b y)) hmin3 ?_
    rw [at2_n hxy k _ rfl] at hl1 ⊢
    generalize hveq : min (lvlD p.D.a x) (lvlD p.D.b y) = v at *
    have hB4 := hB1.ext hE14
    have hK4 := hK1.ext hE14
    have hS4 := hS1.ext hE14
    have hE04 := hE1.trans hE14
    have hz14 := hE14.size
    refine new (fun w5 hE5 hz5 hL5 => ?_)
    refine new (fun w6 hE6 hz6 hH6 => ?_)
    have hE46 := hE5.trans hE6
    have hL6 := hL5.ext hE6
    have hB6 := hB4.ext hE46
    have hK6 := hK4.ext hE46
    have hS6 := hS4.ext hE46
    have hE06 := hE04.trans hE46
    obtain ⟨s1, s2, s3, s4, s5⟩ := sideD_le ha (n := x) x0 hv64
    obtain ⟨t1, t2, t3, t4, t5⟩ := sideD_le hb (n := y) y0 hv64
    refine loop gx_ok [64] (fun s : Nat => [.int .i64 s]) (fun s w' => Mod (fun i => i = w4.heap.size ∨ i = w5.heap.size) w6 w' ∧ s ≤ 3 ∧ Blk w' w4.heap.size 199 (i3C (if 0 < s then (sideD p.D.a x v).1 else 0, if 1 < s then (sideD p.D.b y v).1 else 0, 0)) ∧ Blk w' w5.heap.size 199 (i3C (if 0 < s then (sideD p.D.a x v).2 else 0, if 1 < s then (sideD p.D.b y v).2 else 0, 0))) (fun s _ => 3 - s) 0 rfl ⟨Mod.refl _ _, Nat.zero_le _, hL6, hH6⟩ ?_
    rintro s w7 ⟨hM7, hs3, hL7, hH7⟩
    have hbz : base ≤ w4.heap.size := by have := hE1.size; omega
    have hz45 : w5.heap.size = w4.heap.size + 1 := hz5
    have hwz : w.heap.size < w4.heap.size := by omega
    have hlow : ∀ k, k < w4.heap.size → ¬ (k = w4.heap.size ∨ k = w5.heap.size) := fun k hk e => by omega
    have hlx := hK.off p.lx (by simp)
    have hE7 : Ext w w7 := hM7.ext hE06 (fun i hi => by omega)
    have hE17 : Ext w1 w7 := hM7.ext (hE14.trans hE46) (fun i hi => by omega)
    have hE47 : Ext w4 w7 := hM7.ext hE46 (fun i hi => by omega)
    have hB7 := hB4.ext hE47
    have hK7 := hK4.ext hE47
    have hS7 := hS4.ext hE47
    have hz7 := hM7.size
    have nLX := hlow p.lx (by omega)
    have nB := hlow w.heap.size hwz
    have h0 : sideD [] 0 v = (0, 0) := by unfold sideD; rw [if_pos (show lvlD [] 0 ≠ v by rw [l64]; omega)]
    by_cases hs : s < 3
    · rcases (show s = 0 ∨ s = 1 ∨ s = 2 by omega) with rfl | rfl | rfl
      · refine wif_dt (show ((0 : Nat) : Int) < 3 by decide) ?_
        refine draw_plan gx_ok (Mod (fun i => i = w4.heap.size ∨ i = w5.heap.size) w7) 17 [(true, 0), (true, 1), (true, 2), (true, 3), (true, 4), (true, 5), (true, 6), (true, 7), (true, 8), (false, 9), (true, 10), (true, 11), (true, 12), (true, 13), (false, 14), (true, 15), (false, 16)] (by kernel_rfl) (Mod.of_ext _ (Ext.drew w7)) ?_
        refine index_n (j := 0) (by decide) ?_
        refine qloadN (vs := [.slice p.D.A p.D.n p.D.c, .int .i64 p.D.ra]) rfl (fun w' hw' j v hj => by
          rw [add_add, (hK7.lxb.mod hw' nLX).cell]
          match j, hj with
          | 0, hj => exact hj
          | 1, hj => exact hj) ?_
        refine index (j := 0) (by decide) ?_
        refine qload (v := .int .i64 x) (fun w' hw' => by rw [(hB7.mod hw' nB).cell]; rfl) ?_
        refine call (dsides_fn p.D.A p.D.n p.D.c p.D.ra x v p.D.a _ (hK7.as_.ext (Ext.drew w7)) (by omega) hv64) ?_
        rintro u w8 ⟨rfl, hE8⟩
        have hE78 := (Ext.drew w7).trans hE8
        refine ⟨Mod.of_ext _ hE78, ?_⟩
        refine index (j := 0) (by decide) ?_
        refine store_mod (hL7.ext hE78) (by simp) (fun w9 hM9 hL9 => ?_)
        have hM79 : Mod (fun i => i = w4.heap.size ∨ i = w5.heap.size) w7 w9 := (Mod.of_ext _ hE78).trans hM9 (fun i hi => .inl (.inl hi))
        refine ⟨hM79, ?_⟩
        have hz9 := hM79.size
        refine index (j := 0) (by decide) ?_
        refine store_mod (((hH7.ext hE78).mod hM9 (by show ¬ w5.heap.size = w4.heap.size; omega))) (by simp) (fun w10 hM10 hH10 => ?_)
        have hM710 : Mod (fun i => i = w4.heap.size ∨ i = w5.heap.size) w7 w10 := hM79.trans hM10 (fun i hi => .inl (.inr hi))
        refine ⟨hM710, ?_⟩
        have hL10 := hL9.mod hM10 (by show ¬ w4.heap.size = w5.heap.size; omega)
        refine norm_i64_to ((1 : Nat) : Int) (by decide) (by decide) ?_
        exact ⟨1, rfl, ⟨hM7.trans hM710 (fun i hi => .inl hi), by decide, hL10, hH10⟩, by show 3 - 1 < 3 - 0; decide⟩
      · refine wif_dt (show ((1 : Nat) : Int) < 3 by decide) ?_
        refine draw_plan gx_ok (Mod (fun i => i = w4.heap.size ∨ i = w5.heap.size) w7) 17 [(true, 0), (true, 1), (true, 2), (true, 3), (true, 4), (true, 5), (true, 6), (true, 7), (true, 8), (false, 9), (true, 10), (true, 11), (true, 12), (true, 13), (false, 14), (true, 15), (false, 16)] (by kernel_rfl) (Mod.of_ext _ (Ext.drew w7)) ?_
        refine index_n (j := 1) (by decide) ?_
        refine qloadN (vs := [.slice p.D.B p.D.m p.D.d, .int .i64 p.D.rb]) rfl (fun w' hw' j v hj => by
          rw [add_add, (hK7.lxb.mod hw' nLX).cell]
          match j, hj with
          | 0, hj => exact hj
          | 1, hj => exact hj) ?_
        refine index (j := 1) (by decide) ?_
        refine qload (v := .int .i64 y) (fun w' hw' => by rw [(hB7.mod hw' nB).cell]; rfl) ?_
        refine call (dsides_fn p.D.B p.D.m p.D.d p.D.rb y v p.D.b _ (hK7.bs.ext (Ext.drew w7)) (by omega) hv64) ?_
        rintro u w8 ⟨rfl, hE8⟩
        have hE78 := (Ext.drew w7).trans hE8
        refine ⟨Mod.of_ext _ hE78, ?_⟩
        refine index (j := 1) (by decide) ?_
        refine store_mod (hL7.ext hE78) (by simp) (fun w9 hM9 hL9 => ?_)
        have hM79 : Mod (fun i => i = w4.heap.size ∨ i = w5.heap.size) w7 w9 := (Mod.of_ext _ hE78).trans hM9 (fun i hi => .inl (.inl hi))
        refine ⟨hM79, ?_⟩
        have hz9 := hM79.size
        refine index (j := 1) (by decide) ?_
        refine store_mod (((hH7.ext hE78).mod hM9 (by show ¬ w5.heap.size = w4.heap.size; omega))) (by simp) (fun w10 hM10 hH10 => ?_)
        have hM710 : Mod (fun i => i = w4.heap.size ∨ i = w5.heap.size) w7 w10 := hM79.trans hM10 (fun i hi => .inl (.inr hi))
        refine ⟨hM710, ?_⟩
        have hL10 := hL9.mod hM10 (by show ¬ w4.heap.size = w5.heap.size; omega)
        refine norm_i64_to ((2 : Nat) : Int) (by decide) (by decide) ?_
        exact ⟨2, rfl, ⟨hM7.trans hM710 (fun i hi => .inl hi), by decide, hL10, hH10⟩, by show 3 - 2 < 3 - 1; decide⟩
      · refine wif_dt (show ((2 : Nat) : Int) < 3 by decide) ?_
        refine draw_plan gx_ok (Mod (fun i => i = w4.heap.size ∨ i = w5.heap.size) w7) 17 [(true, 0), (true, 1), (true, 2), (true, 3), (true, 4), (true, 5), (true, 6), (true, 7), (true, 8), (false, 9), (true, 10), (true, 11), (true, 12), (true, 13), (false, 14), (true, 15), (false, 16)] (by kernel_rfl) (Mod.of_ext _ (Ext.drew w7)) ?_
        refine index_n (j := 2) (by decide) ?_
        refine qloadN (vs := [.slice none 0 0, .int .i64 0]) rfl (fun w' hw' j v hj => by
          rw [add_add, (hK7.lxb.mod hw' nLX).cell]
          match j, hj with
          | 0, hj => exact hj
          | 1, hj => exact hj) ?_
        refine index (j := 2) (by decide) ?_
        refine qload (v := .int .i64 0) (fun w' hw' => by rw [(hB7.mod hw' nB).cell]; rfl) ?_
        refine call (dsides_fn none 0 0 0 0 v [] _ (SlS.nil _) (by decide) hv64) ?_
        rintro u w8 ⟨rfl, hE8⟩
        have hE78 := (Ext.drew w7).trans hE8
        refine ⟨Mod.of_ext _ hE78, ?_⟩
        refine index (j := 2) (by decide) ?_
        refine store_mod (hL7.ext hE78) (by simp) (fun w9 hM9 hL9 => ?_)
        have hM79 : Mod (fun i => i = w4.heap.size ∨ i = w5.heap.size) w7 w9 := (Mod.of_ext _ hE78).trans hM9 (fun i hi => .inl (.inl hi))
        refine ⟨hM79, ?_⟩
        have hz9 := hM79.size
        refine index (j := 2) (by decide) ?_
        refine store_mod (((hH7.ext hE78).mod hM9 (by show ¬ w5.heap.size = w4.heap.size; omega))) (by simp) (fun w10 hM10 hH10 => ?_)
        have hM710 : Mod (fun i => i = w4.heap.size ∨ i = w5.heap.size) w7 w10 := hM79.trans hM10 (fun i hi => .inl (.inr hi))
        refine ⟨hM710, ?_⟩
        have hL10 := hL9.mod hM10 (by show ¬ w4.heap.size = w5.heap.size; omega)
        refine norm_i64_to ((3 : Nat) : Int) (by decide) (by decide) ?_
        rw [h0] at hL10 hH10
        exact ⟨3, rfl, ⟨hM7.trans hM710 (fun i hi => .inl hi), by decide, hL10, hH10⟩, by show 3 - 3 < 3 - 2; decide⟩
    · have : s = 3 := by omega
      subst this
      refine wif_df (show ¬ ((3 : Nat) : Int) < 3 by decide) ?_
      replace hL7 : Blk w7 w4.heap.size 199 (i3C ((sideD p.D.a x v).1, (sideD p.D.b y v).1, 0)) := hL7
      replace hH7 : Blk w7 w5.heap.size 199 (i3C ((sideD p.D.a x v).2, (sideD p.D.b y v).2, 0)) := hH7
      have hvx : lvlD p.D.a x = v ∨ lvlD p.D.b y = v := by rw [← hveq, Int.min_def]; split <;> simp
      have dec : (sideD p.D.a x v).1 + (sideD p.D.b y v).1 < x + y ∧ (sideD p.D.a x v).2 + (sideD p.D.b y v).2 < x + y := by
        rcases hvx with e | e
        · have := s5 e; omega
        · have := t5 e; omega
      have sm1 := at2_sum ha hb p.D.op m (sideD p.D.a x v).1 (sideD p.D.b y v).1 st s1 t1 (by omega) (by omega)
      have sm2 := at2_sum ha hb p.D.op m (sideD p.D.a x v).2 (sideD p.D.b y v).2 (at2 p.D.a p.D.b p.D.op m (sideD p.D.a x v).1 (sideD p.D.b y v).1 st).2 s3 t3 (by omega) (by omega)
      have mo2 := at2_mono p.D.a p.D.b p.D.op m (sideD p.D.a x v).2 (sideD p.D.b y v).2 (at2 p.D.a p.D.b p.D.op m (sideD p.D.a x v).1 (sideD p.D.b y v).1 st).2
      have c1 := ih (sideD p.D.a x v).1 (sideD p.D.b y v).1 st NA nc w7 hK7 hS7 s1 t1 (by omega) (by omega) (by omega)
      have c2 := fun N1 n1 w' h1 h2 => ih (sideD p.D.a x v).2 (sideD p.D.b y v).2 (at2 p.D.a p.D.b p.D.op m (sideD p.D.a x v).1 (sideD p.D.b y v).1 st).2 N1 n1 w' h1 h2 s3 t3 (by omega) (by omega) (by omega)
      generalize (at2 p.D.a p.D.b p.D.op m (sideD p.D.a x v).1 (sideD p.D.b y v).1 st) = r0 at *
      generalize (at2 p.D.a p.D.b p.D.op m (sideD p.D.a x v).2 (sideD p.D.b y v).2 r0.2) = r1 at *
      have ul := uniqD_len ⟨v, r0.1, r1.1⟩ r1.2.1
      have ul2 : (uniqD ⟨v, r0.1, r1.1⟩ r1.2.1).1.length ≤ r1.2.1.length + 1 := by
        unfold uniqD
        split
        · exact Nat.le_succ _
        · split
          · exact Nat.le_succ _
          · simp
      simp only at hl1
      refine load_blk0 hK7.axb rfl ?_
      refine loadN_blk0 hL7 rfl ?_
      refine call (c1 (by omega)) ?_
      rintro _ w11 ⟨rfl, N1, n1, hS11, hM11, hV11⟩
      have hlt5 := hH7.lt
      have hr0 := hS.bd.own.rows
      obtain ⟨l1, l2, l3⟩ := hS.lt
      obtain ⟨b1, b2, b3⟩ := hS.bd.lt
      have new : ∀ k, w.heap.size ≤ k → ¬ CS p NA k := fun k hk e => by
        rcases e with e | e | e | e
        · omega
        · omega
        · omega
        · have := (hr0 k e).2; omega
      have hK11 := hK7.mod hrw hM11
      have hH11 := hH7.mod hM11 (new _ (by omega))
      have hB11 := hB7.mod hM11 (new _ (Nat.le_refl _))
      have hr1 : ∀ i, rowS N1 i → base ≤ i := fun i hi => (hS11.bd.own.rows i hi).1
      have nw1 : ∀ k, w.heap.size ≤ k → k < w7.heap.size → ¬ CS p N1 k := fun k hk h7 e => by
        rcases CS.moved hV11 k e with e | e
        · exact new k hk e
        · omega
      have hz11 := hM11.size
      have hB7lt := hB7.lt
      refine draw_plan gx_ok (Mod (CS p N1) w11) 8 [(true, 0), (true, 1), (true, 2), (true, 3), (true, 4), (false, 5), (false, 6), (true, 7)] (by kernel_rfl) (Mod.of_ext _ (Ext.drew w11)) ?_
      have nof := fun k hk => CS.no (p := p) hr1 (hK11.off k hk)
      refine qload (v := VP.ptr p.pb) (fun w' hw' => by rw [(hK11.bxb.mod hw' (nof _ (by simp))).cell0]; rfl) ?_
      refine qload (v := p.clo) (fun w' hw' => by rw [(hK11.axb.mod hw' (nof _ (by simp))).cell0]; rfl) ?_
      refine qloadN (vs := i3C ((sideD p.D.a x v).2, (sideD p.D.b y v).2, 0)) rfl (fun w' hw' j v hj => by rw [(hH11.mod hw' (nw1 _ (by omega) hlt5)).cell]; exact hj) ?_
      refine call (c2 N1 n1 _ (hK11.ext (Ext.drew w11)) (hS11.ext (Ext.drew w11)) (by omega)) ?_
      rintro _ w12 ⟨rfl, N2, n2, hS12, hM12, hV12⟩
      have hM112 : Mod (CS p N1) w11 w12 := (Mod.of_ext _ (Ext.drew w11)).trans hM12 (fun i hi => .inl hi)
      have hV112 : Moved w11 N1 N2 := hV12.back (Ext.drew w11).size
      refine ⟨hM112, ?_⟩
      have hr2 : ∀ i, rowS N2 i → base ≤ i := fun i hi => (hS12.bd.own.rows i hi).1
      refine call (dbranch_fn base p.pb p.km N2 n2 r1.2.1 ⟨v, r0.1, r1.1⟩ w12 hS12.bd (by omega)) ?_
      rintro _ w13 ⟨rfl, N3, n3, hD13, hM13, hV13⟩
      have hM213 : Mod (CS p N2) w12 w13 := hM13.mono (fun i hi => .inl (.inr hi))
      have hM113 : Mod (CS p N1) w11 w13 := CS.trans hM112 hV112 hM213
      refine ⟨hM113, ?_⟩
      have hK12 := hK11.mod hr1 hM112
      have hK13 := hK11.mod hr1 hM113
      have hB13 := hB11.mod hM113 (nw1 _ (Nat.le_refl _) hB7lt)
      obtain ⟨mq2, hq2, hmem2⟩ := hS12.memo
      have hq13 : MapQ i3K w13 p.mm mq2 := hq2.mod hM13 (fun e => by
        rcases e with e | e | e
        · exact l2 e
        · exact l3 e
        · have := hr2 _ e; omega)
      refine load_blk0 hK13.mxb rfl ?_
      refine loadN_blk0 hB13 rfl ?_
      refine at_mapUpdateQ (kv := i3K) (a := ((x, y, 0) : I3)) gx_ok rfl rfl rfl rfl i3Key rfl rfl rfl hq13 (fun w14 hM14 hz14' hq14 => ?_)
      have hmm : ∀ k, k ≠ p.mm → ¬ (k = p.mm) := fun k h => h
      obtain ⟨d1, d2, d3⟩ := hD13.lt
      have hr3 : ∀ i, rowS N3 i → base ≤ i := fun i hi => (hD13.own.rows i hi).1
      obtain ⟨kq, hkq, hkm⟩ := hD13.known
      have hD14 : Bd w14 base p.pb p.km N3 n3 (uniqD ⟨v, r0.1, r1.1⟩ r1.2.1).1 := ⟨hD13.blk.mod hM14 (fun e => l2 e.symm), hD13.own.mod hM14 (fun i hi e => by have := hr3 i hi; have e' : i = p.mm := e; omega), ⟨kq, hkq.mod hM14 (fun e => l3 e.symm), hkm⟩, hD13.lt, Nat.le_trans hD13.top hM14.size⟩
      have hMw7 : Mod (CS p NA) w w7 := Mod.of_ext _ hE7
      have hVw7 : Moved w NA NA := Moved.refl _ _
      have hM011 : Mod (CS p NA) w w11 := hMw7.trans hM11 (fun i hi => .inl hi)
      have hV011 : Moved w NA N1 := hV11.back hE7.size
      have hM013 : Mod (CS p NA) w w13 := CS.trans hM011 hV011 hM113
      have hM014 : Mod (CS p NA) w w14 := hM013.trans hM14 (fun i hi => .inl (.inl hi))
      have hV013 : Moved w NA N3 := hV011.trans (hV112.trans hV13 hM112.size) hM011.size
      refine ⟨rfl, N3, n3, ⟨hD14, ⟨_, hq14, fun x' y' => ?_⟩, hS.lt⟩, hM014, hV013⟩
      have hno : r1.2.2.find? (fun t => decide (t.1 = x ∧ t.2.1 = y)) = none := by
        rw [List.find?_eq_none]
        intro t ht hh
        simp only [decide_eq_true_eq] at hh
        rcases sm2 t ht with h1 | h1
        · rcases sm1 t h1 with h2 | h2
          · have := List.find?_eq_none.1 k t h2
            simp only [decide_eq_true_eq] at this
            exact this hh
          · omega
        · omega
      rw [assoc_set, hmem2, memV, memV, List.find?_append]
      by_cases hxx : (x', y') = (x, y)
      · cases hxx
        rw [if_pos rfl, hno]
        simp
      · rw [if_neg (fun e => hxx (by cases e; rfl))]
        have : [(x, y, (uniqD ⟨v, r0.1, r1.1⟩ r1.2.1).2)].find? (fun t : Tr3 => decide (t.1 = x' ∧ t.2.1 = y')) = none := by
          rw [List.find?_cons_of_neg]
          · rfl
          · simp only [decide_eq_true_eq]
            exact fun e => hxx (by rw [e.1, e.2])
        rw [this]
        simp
end
end Go.Proofs.YtedopgkbajhanaaGreatDoor

namespace Go.Proofs.YtedopgkbajhanaaGreatDoor
section
open Go Go.RowKit

theorem newbuilder_fn (w : World) : Fn Tryz.prog 134 [] w (fun v w' => v = VP.ptr (w.heap.size + 1) ∧ Ext w w' ∧ w'.heap.size = w.heap.size + 2 ∧ Blk w' (w.heap.size + 1) 159 [.slice none 0 0, .map (some w.heap.size)] ∧ MapQ brK w' w.heap.size []) := by
  refine fn_of_exec (c := { c134 with cuts := [] }) gx_ok Tryz.func134 rfl rfl rfl ?_
  refine at_makeMapQ gx_ok brK rfl ?_
  intro w1 hE1 hz1 hm1
  refine new (fun w2 hE2 hz2 hB2 => ?_)
  rw [hz1] at hB2
  exact ⟨by rw [hz1]; rfl, hE1.trans hE2, by omega, hB2, hm1.ext hE2⟩

theorem dcombine_fn (A : Option Addr) (n c : Nat) (a : List Br) (ra : Int) (B : Option Addr) (m d : Nat) (b : List Br) (rb op : Int) (F ob : Nat) (w : World) (hF : CloOp F op) (h : SB w A n c a) (h' : SB w B m d b) (hob : Blk w ob 113 [.func (.func F) #[] #[]]) (ha : DOk a) (hb : DOk b) (r0 : 0 ≤ ra) (r1 : ra < n + 2) (s0 : 0 ≤ rb) (s1 : rb < m + 2) (hn : n ≤ 1000000000000) (hm : m ≤ 1000000000000)
    (hl1 : (at2D a ra b rb op).2.1.length ≤ 100000000000) :
    Fn Tryz.prog 104 [.agg #[.slice A n c, .int .i64 ra, .slice B m d, .int .i64 rb, .slice none 0 0, .int .i64 0], .func (.func 105) #[] #[VP.ptr ob]] w (DgRes w (combD a ra b rb op)) := by
  have hal := h.2
  have hbl := h'.2
  have hobl := hob.lt
  refine fn_of_exec (c := { c104 with cuts := [] }) gx_ok Tryz.func104 rfl rfl rfl ?_
  refine new (fun w1 hE1 hz1 hB1 => ?_)
  refine new (fun w2 hE2 hz2 hB2 => ?_)
  refine new (fun w3 hE3 hz3 hB3 => ?_)
  refine call (newbuilder_fn w3) ?_
  rintro _ w4 ⟨rfl, hE4, hz4, hB4, hk4⟩
  refine new (fun w5 hE5 hz5 hB5 => ?_)
  refine store_mod (j := 0) hB5 (by decide) (fun w6 hM6 hB6 => ?_)
  have hE46 : Ext w4 w6 := hM6.ext hE5 (fun i hi => by omega)
  refine at_makeMapQ gx_ok i3K rfl ?_
  intro w7 hE7 hz7 hq7
  refine new (fun w8 hE8 hz8 hB8 => ?_)
  refine store_mod (j := 0) hB8 (by decide) (fun w9 hM9 hB9 => ?_)
  have hE79 : Ext w7 w9 := hM9.ext hE8 (fun i hi => by omega)
  refine new (fun w10 hE10 hz10 hB10 => ?_)
  refine store_mod (j := 0) hB10 (by decide) (fun w11 hM11 hB11 => ?_)
  have z6 := hM6.size
  have z9 := hM9.size
  have z11 := hM11.size
  have hE911 : Ext w9 w11 := hM11.ext hE10 (fun i hi => by omega)
  have hE611 : Ext w6 w11 := (hE7.trans hE79).trans hE911
  have hE411 : Ext w4 w11 := hE46.trans hE611
  have hE34 := hE4
  have hE311 : Ext w3 w11 := hE4.trans hE411
  have hE011 : Ext w w11 := ((hE1.trans hE2).trans hE3).trans hE311
  let D : AD := ⟨A, n, c, a, ra, B, m, d, b, rb, op⟩
  let p : CP := ⟨w1.heap.size, ob, w7.heap.size, w.heap.size, w9.heap.size, w4.heap.size, w3.heap.size + 1, w3.heap.size, w6.heap.size, F, D⟩
  have g11 := hB11.lt
  have hK : CK w11 w11.heap.size p := by
    refine ⟨hF, hB2.ext (hE3.trans hE311), hob.ext hE011, hB9.ext hE911, hB1.ext ((hE2.trans hE3).trans hE311), hB11, hB6.ext hE611, h.ext hE011, h'.ext hE011, fun k hk => ?_, fun ad e h0 => ?_, fun ad e h0 => ?_⟩
    · simp only [p] at hk ⊢
      rcases hk with rfl | rfl | rfl | rfl | rfl | rfl <;> omega
    · have := SB.lt h ad e h0
      simp only [p]; omega
    · have := SB.lt h' ad e h0
      simp only [p]; omega
  have hS : CSt w11 w11.heap.size p none 0 ([], []) := by
    refine ⟨⟨hB4.ext hE411, Own.nil _ _ _ _, ⟨[], hk4.ext hE411, fun _ => rfl⟩, ?_, Nat.le_refl _⟩, ⟨[], hq7.ext (hE79.trans hE911), fun _ _ => rfl⟩, ?_⟩
    · simp only [p]; omega
    · simp only [p]; omega
  have hno : ∀ i, rowS none i → w11.heap.size ≤ i := fun i hi => by obtain ⟨_, e, _⟩ := hi; cases e
  have nof := fun k hk => CS.no (p := p) hno (hK.off k hk)
  refine draw_plan gx_ok (Mod (CS p none) w11) 14 [(true, 0), (true, 1), (true, 2), (true, 3), (true, 4), (true, 5), (true, 6), (true, 7), (true, 8), (true, 9), (true, 10), (true, 11), (false, 12), (false, 13)] (by kernel_rfl) (Mod.of_ext _ (Ext.drew w11)) ?_
  refine qload (v := VP.ptr p.pb) (fun w' hw' => by rw [(hK.bxb.mod hw' (nof _ (by simp))).cell0]; rfl) ?_
  refine qload (v := p.clo) (fun w' hw' => by rw [(hK.axb.mod hw' (nof _ (by simp))).cell0]; rfl) ?_
  refine index_n (j := 0) (by decide) ?_
  refine qload (v := .int .i64 ra) (fun w' hw' => by rw [add_add, (hK.lxb.mod hw' (nof _ (by simp))).cell]; rfl) ?_
  refine index_n (j := 1) (by decide) ?_
  refine qload (v := .int .i64 rb) (fun w' hw' => by rw [add_add, (hK.lxb.mod hw' (nof _ (by simp))).cell]; rfl) ?_
  refine index_n (j := 2) (by decide) ?_
  refine qload (v := .int .i64 0) (fun w' hw' => by rw [add_add, (hK.lxb.mod hw' (nof _ (by simp))).cell]; rfl) ?_
  have inv := at2_inv ha hb op (ra.toNat + rb.toNat + 1) ra rb ([], []) ⟨fun j x hx => by simp at hx, fun t ht => by simp at ht⟩ r0 s0 (by omega) (by omega)
  refine call (at3_fn w11.heap.size p ha hb ⟨hn, hm⟩ (ra.toNat + rb.toNat + 1) ra rb ([], []) none 0 _ (hK.ext (Ext.drew w11)) (hS.ext (Ext.drew w11)) r0 s0 (by omega) r1 s1 hl1) ?_
  rintro _ w12 ⟨rfl, NA, nc, hS12, hM12', hV12⟩
  have hM12 : Mod (CS p none) w11 w12 := (Mod.of_ext _ (Ext.drew w11)).trans hM12' (fun i hi => .inl hi)
  refine ⟨hM12, ?_⟩
  have hl1' : (at2 a b op (ra.toNat + rb.toNat + 1) ra rb ([], [])).2.1.length ≤ 100000000000 := hl1
  have hN12 : SB w12 NA _ nc _ := ⟨hS12.bd.own.sl, rfl⟩
  refine call (diagram_fn p.pb (.map (some p.km)) NA _ nc _ _ w12 hS12.bd.blk hN12 inv.1.1 (by show (at2 a b op (ra.toNat + rb.toNat + 1) ra rb ([], [])).2.1.length ≤ _; omega) inv.2.1 inv.2.2 (SB.lt hN12)) ?_
  rintro _ w13 ⟨OA, k, oc, rfl, hE13, hO13, hR13⟩
  have hM13 : Mod (CS p none) w11 w13 := hM12.trans (Mod.of_ext (CS p none) hE13) (fun i hi => .inl hi)
  refine ⟨hM13, ?_⟩
  have nres : ¬ CS p none w2.heap.size := CS.no (p := p) hno (by simp only [p]; omega)
  have hB13 := (hB3.ext hE311).mod hM13 nres
  refine storeN_blk0 hB13 rfl (sc rfl) (fun w14 hg14 _ hB14 => ?_)
  have hM14 : Mod (· = w2.heap.size) w13 w14 := Mod.of_grown hg14 rfl
  refine loadN_blk0 hB14 rfl ?_
  have hE013 : Ext w w13 := hM13.ext hE011 (fun i hi => by
    rcases hi with e | e | e | ⟨_, e, _⟩
    · simp only [p] at e; omega
    · simp only [p] at e; omega
    · simp only [p] at e; omega
    · cases e)
  have z12 := hM12.size
  have nr : ∀ i, rowS OA i → ¬ i = w2.heap.size := fun i hi e => by have := hR13 i hi; omega
  refine ⟨OA, k, oc, rfl, hM14.ext hE013 (fun i hi => by omega), ⟨hO13.1.modS hM14 (fun _ i hi => nr i hi), hO13.2⟩, fun i hi => by have := hR13 i hi; have := hE011.size; omega⟩

theorem dbinary_fn (A : Option Addr) (n c : Nat) (a : List Br) (ra : Int) (B : Option Addr) (m d : Nat) (b : List Br) (rb op : Int) (F : Nat) (w : World) (hF : CloOp F op) (h : SB w A n c a) (h' : SB w B m d b) :
    Fn Tryz.prog 64 [dgV A n c ra, dgV B m d rb, .func (.func F) #[] #[]] w (DgE w (opD a ra b rb op)) := by
  have hal := h.2
  have hbl := h'.2
  refine fn_of_exec (c := { c64 with cuts := [] }) gx_ok Tryz.func64 rfl rfl rfl ?_
  refine new (fun w1 hE1 hz1 hB1 => ?_)
  refine new (fun w2 hE2 hz2 hB2 => ?_)
  refine new (fun w3 hE3 hz3 hB3 => ?_)
  refine new (fun w4 hE4 hz4 hB4 => ?_)
  have hE24 := hE3.trans hE4
  have hE04 := (hE1.trans hE2).trans hE24
  have hB14 := (hB1.ext hE2).ext hE24
  have hB24 := hB2.ext hE24
  have hB34 := hB3.ext hE4
  refine loadN_blk0 hB14 rfl ?_
  refine loadN_blk0 hB24 rfl ?_
  refine at_buildN gx_ok [(⟨A, n, c, a, ra⟩ : DV).cells, (⟨B, m, d, b, rb⟩ : DV).cells] rfl rfl rfl rfl rfl ⟨rfl, rfl, rfl, rfl, ⟨⟩⟩ rfl (fun cs h => by simp only [List.mem_cons, List.not_mem_nil, or_false] at h; rcases h with rfl | rfl <;> rfl) rfl (by decide) (by decide) ?_
  intro w5 hE5 hz5 hB5
  have hE05 := hE04.trans hE5
  have hL : SlS DV.cells 2 w5 (some ⟨w4.heap.size, 0, none⟩) 2 2 [⟨A, n, c, a, ra⟩, ⟨B, m, d, b, rb⟩] := ⟨Sl.own (sz := 2) (n := 2) hB5 (Nat.le_refl _) (by decide) (by simp [DV.cells]), rfl⟩
  refine call (dcheck_fn _ 2 2 _ w5 hL (fun x hx => by
    simp only [List.mem_cons, List.not_mem_nil, or_false] at hx
    rcases hx with rfl | rfl
    · exact h.ext hE05
    · exact h'.ext hE05)) ?_
  rintro v w6 ⟨rfl, hE6⟩
  have hE46 := hE5.trans hE6
  have hE06 := hE04.trans hE46
  have hB46 := hB4.ext hE46
  have hz4' := hE46.size
  have ef : firstD [(⟨A, n, c, a, ra⟩ : DV), ⟨B, m, d, b, rb⟩] = if chkD a ra ≠ 0 then chkD a ra else if chkD b rb ≠ 0 then chkD b rb else 0 := rfl
  refine wif_ne (fun c1 => ?_) (fun c1 => ?_)
  · have e : opD a ra b rb op = (([], 0), firstD [(⟨A, n, c, a, ra⟩ : DV), ⟨B, m, d, b, rb⟩]) := by
      rw [ef] at c1 ⊢
      unfold opD
      split
      · rfl
      · rename_i hh
        rw [if_neg hh] at c1
        split
        · rfl
        · rename_i hh2; rw [if_neg hh2] at c1; exact absurd rfl c1
    rw [e]
    refine storeN_blk0 hB46 rfl (sc rfl) (fun w7 hg7 _ hB7 => ?_)
    have hM7 : Mod (· = w3.heap.size) w6 w7 := Mod.of_grown hg7 rfl
    refine loadN_blk0 hB7 rfl ?_
    exact ⟨none, 0, 0, rfl, hM7.ext hE06 (fun i hi => by omega), SlS.nil _, fun i ⟨_, e, _⟩ => by cases e⟩
  · rw [ef] at c1
    have ca : chkD a ra = 0 := by
      by_cases hh : chkD a ra = 0
      · exact hh
      · rw [if_pos hh] at c1; exact c1
    have cb : chkD b rb = 0 := by
      rw [if_neg (fun hh => hh ca)] at c1
      by_cases hh : chkD b rb = 0
      · exact hh
      · rw [if_pos hh] at c1; exact c1
    obtain ⟨sa, va⟩ := chkD_zero.1 ca
    obtain ⟨sb, vb⟩ := chkD_zero.1 cb
    have e : opD a ra b rb op = limD (combD a ra b rb op) := by unfold opD; rw [if_neg (fun hh => hh ca), if_neg (fun hh => hh cb)]
    rw [e]
    have hb2 := at2D_bnd va vb op
    have hmul : (a.length + 2) * (b.length + 2) ≤ 4098 * 4098 := Nat.mul_le_mul (by omega) (by omega)
    refine loadN_blk0 (hB14.ext hE46) rfl ?_
    refine loadN_blk0 (hB24.ext hE46) rfl ?_
    have hob : Blk w6 w2.heap.size 113 [.func (.func F) #[] #[]] := hB34.ext hE46
    refine call (dcombine_fn A n c a ra B m d b rb op F w2.heap.size w6 hF (h.ext hE06) (h'.ext hE06) hob va.dok vb.dok va.2.1 (by have := va.2.2.1; omega) vb.2.1 (by have := vb.2.2.1; omega) (by omega) (by omega) (by omega)) ?_
    rintro v w7 ⟨OA, k, oc, rfl, hE7, hO7, hR7⟩
    have hE47 := hE46.trans hE7
    have hE07 := hE04.trans hE47
    have z67 := hE06.size
    refine call (dlimited_fn OA k oc _ _ w4 w7 hO7 (fun i hi => by have := hR7 i hi; omega) hE47) ?_
    rintro v w8 ⟨PA, q, pc, rfl, hE8, hP8, hR8⟩
    refine storeN_blk0 (hB4.ext hE8) rfl (sc rfl) (fun w9 hg9 _ hB9 => ?_)
    have hM9 : Mod (· = w3.heap.size) w8 w9 := Mod.of_grown hg9 rfl
    refine loadN_blk0 hB9 rfl ?_
    refine ⟨PA, q, pc, rfl, hM9.ext (hE04.trans hE8) (fun i hi => by omega), ⟨hP8.1.modS hM9 (fun _ i hi e => by have := hR8 i hi; omega), hP8.2⟩, fun i hi => by have := hR8 i hi; omega⟩

theorem dand_fn (A : Option Addr) (n c : Nat) (a : List Br) (ra : Int) (B : Option Addr) (m d : Nat) (b : List Br) (rb : Int) (w : World) (h : SB w A n c a) (h' : SB w B m d b) :
    Fn Tryz.prog 117 [dgV A n c ra, dgV B m d rb] w (DgE w (opD a ra b rb 0)) := by
  refine fn_of_exec (c := { c117 with cuts := [] }) gx_ok Tryz.func117 rfl rfl rfl ?_
  refine new (fun w1 hE1 hz1 hB1 => ?_)
  refine new (fun w2 hE2 hz2 hB2 => ?_)
  refine new (fun w3 hE3 hz3 hB3 => ?_)
  have hE03 := (hE1.trans hE2).trans hE3
  refine loadN_blk0 ((hB1.ext hE2).ext hE3) rfl ?_
  refine loadN_blk0 (hB2.ext hE3) rfl ?_
  refine call (dbinary_fn A n c a ra B m d b rb 0 149 w3 (.inl ⟨rfl, rfl⟩) (h.ext hE03) (h'.ext hE03)) ?_
  rintro v w4 ⟨PA, q, pc, rfl, hE4, hP4, hR4⟩
  refine storeN_blk0 (hB3.ext hE4) rfl (sc rfl) (fun w5 hg5 _ hB5 => ?_)
  have hM5 : Mod (· = w2.heap.size) w4 w5 := Mod.of_grown hg5 rfl
  refine loadN_blk0 hB5 rfl ?_
  obtain ⟨g1, g2, g3⟩ := dg_wrap (r := opD a ra b rb 0) (hE03.trans hE4) hM5 (by omega) hP4 (fun i hi => by have := hR4 i hi; omega)
  exact ⟨PA, q, pc, rfl, g1, g2, g3⟩
theorem dor_fn (A : Option Addr) (n c : Nat) (a : List Br) (ra : Int) (B : Option Addr) (m d : Nat) (b : List Br) (rb : Int) (w : World) (h : SB w A n c a) (h' : SB w B m d b) :
    Fn Tryz.prog 36 [dgV A n c ra, dgV B m d rb] w (DgE w (opD a ra b rb 1)) := by
  refine fn_of_exec (c := { c36 with cuts := [] }) gx_ok Tryz.func36 rfl rfl rfl ?_
  refine new (fun w1 hE1 hz1 hB1 => ?_)
  refine new (fun w2 hE2 hz2 hB2 => ?_)
  refine new (fun w3 hE3 hz3 hB3 => ?_)
  have hE03 := (hE1.trans hE2).trans hE3
  refine loadN_blk0 ((hB1.ext hE2).ext hE3) rfl ?_
  refine loadN_blk0 (hB2.ext hE3) rfl ?_
  refine call (dbinary_fn A n c a ra B m d b rb 1 65 w3 (.inr (.inl ⟨rfl, rfl⟩)) (h.ext hE03) (h'.ext hE03)) ?_
  rintro v w4 ⟨PA, q, pc, rfl, hE4, hP4, hR4⟩
  refine storeN_blk0 (hB3.ext hE4) rfl (sc rfl) (fun w5 hg5 _ hB5 => ?_)
  have hM5 : Mod (· = w2.heap.size) w4 w5 := Mod.of_grown hg5 rfl
  refine loadN_blk0 hB5 rfl ?_
  obtain ⟨g1, g2, g3⟩ := dg_wrap (r := opD a ra b rb 1) (hE03.trans hE4) hM5 (by omega) hP4 (fun i hi => by have := hR4 i hi; omega)
  exact ⟨PA, q, pc, rfl, g1, g2, g3⟩
theorem dnot_fn (A : Option Addr) (n c : Nat) (a : List Br) (ra : Int) (w : World) (h : SB w A n c a) :
    Fn Tryz.prog 118 [dgV A n c ra] w (DgE w (opD a ra [] 0 3)) := by
  refine fn_of_exec (c := { c118 with cuts := [] }) gx_ok Tryz.func118 rfl rfl rfl ?_
  refine new (fun w1 hE1 hz1 hB1 => ?_)
  refine new (fun w2 hE2 hz2 hB2 => ?_)
  have hE02 := hE1.trans hE2
  refine loadN_blk0 (hB1.ext hE2) rfl ?_
  refine call (dbinary_fn A n c a ra none 0 0 [] 0 3 150 w2 (.inr (.inr ⟨rfl, rfl⟩)) (h.ext hE02) (SlS.nil _)) ?_
  rintro v w4 ⟨PA, q, pc, rfl, hE4, hP4, hR4⟩
  refine storeN_blk0 (hB2.ext hE4) rfl (sc rfl) (fun w5 hg5 _ hB5 => ?_)
  have hM5 : Mod (· = w1.heap.size) w4 w5 := Mod.of_grown hg5 rfl
  refine loadN_blk0 hB5 rfl ?_
  obtain ⟨g1, g2, g3⟩ := dg_wrap (r := opD a ra [] 0 3) (hE02.trans hE4) hM5 (by omega) hP4 (fun i hi => by have := hR4 i hi; omega)
  exact ⟨PA, q, pc, rfl, g1, g2, g3⟩
end
end Go.Proofs.YtedopgkbajhanaaGreatDoor

namespace Go.Proofs.YtedopgkbajhanaaGreatDoor
section
open Go Go.RowKit

section
variable {α : Type} {f : α → List Value} {sz : Nat}
theorem take_flat (hf : ∀ x, (f x).length = sz) : ∀ (l : List α) (j : Nat), (l.flatMap f).take (j * sz) = (l.take j).flatMap f
  | [], j => by simp
  | x :: l, 0 => by simp
  | x :: l, j + 1 => by
    rw [List.flatMap_cons, List.take_succ_cons, List.flatMap_cons, ← take_flat hf l j, List.take_append]
    rw [List.take_of_length_le (by rw [hf, Nat.succ_mul]; omega), hf, show (j + 1) * sz - sz = j * sz by rw [Nat.succ_mul]; omega]
theorem drop_flat (hf : ∀ x, (f x).length = sz) : ∀ (l : List α) (j : Nat), (l.flatMap f).drop (j * sz) = (l.drop j).flatMap f
  | [], j => by simp
  | x :: l, 0 => by simp
  | x :: l, j + 1 => by
    rw [List.flatMap_cons, List.drop_succ_cons, ← drop_flat hf l j, List.drop_append]
    rw [List.drop_of_length_le (by rw [hf, Nat.succ_mul]; omega), hf, show (j + 1) * sz - sz = j * sz by rw [Nat.succ_mul]; omega]
    rfl
theorem putL_flat (hf : ∀ x, (f x).length = sz) (l : List α) {j : Nat} (x : α) (hj : j < l.length) : putL (j * sz) (f x) (l.flatMap f) = (l.set j x).flatMap f := by
  have hle : (j + 1) * sz ≤ l.length * sz := Nat.mul_le_mul_right _ hj
  rw [Nat.succ_mul] at hle
  rw [putL_spec _ _ _ (by rw [hf, flat_length hf]; exact hle), hf, take_flat hf, ← Nat.succ_mul, drop_flat hf, List.set_eq_take_append_cons_drop, if_pos hj]
  simp
theorem madeCells_flat (hf : ∀ x, (f x).length = sz) (h0 : 0 < sz) {z : α} {zc : Array Value} (hz : zc.toList = f z) (n : Nat) : (madeCells zc (n * sz)).toList = (List.replicate n z).flatMap f := by
  have hzs : zc.size = sz := by rw [← Array.length_toList, hz, hf]
  apply List.ext_getElem?
  intro i
  by_cases hi : i < n * sz
  · have hd : i / sz < n := Nat.div_lt_of_lt_mul (by rw [Nat.mul_comm]; exact hi)
    have hr : i % sz < sz := Nat.mod_lt _ h0
    have hdm : i / sz * sz + i % sz = i := by rw [Nat.mul_comm]; exact Nat.div_add_mod i sz
    have g1 : (List.replicate n z)[i / sz]? = some z := by rw [List.getElem?_replicate, if_pos hd]
    have g2 := List.getElem?_eq_getElem (l := f z) (i := i % sz) (by rw [hf]; exact hr)
    have g3 := flat_get hf _ _ _ _ _ g1 g2
    rw [hdm] at g3
    rw [g3]
    have e : zc[i % zc.size]! = (f z)[i % sz]'(by rw [hf]; exact hr) := by
      have h1 : zc[i % sz]? = some ((f z)[i % sz]'(by rw [hf]; exact hr)) := by rw [← Array.getElem?_toList, hz]; exact g2
      rw [hzs, Array.getElem!_eq_getD, Array.getD_eq_getD_getElem?, h1]; rfl
    simp [madeCells, hi, e]
  · rw [List.getElem?_eq_none (by simp [madeCells]; omega), List.getElem?_eq_none (by rw [flat_length hf]; simp; omega)]

theorem at_makeN (hf : ∀ x, (f x).length = sz) (h0 : 0 < sz) (z : α) {c : Cx} (hg : c.g.Ok) {o : Oper} {S : Env} {w : World} {K : Env → World → Prop} {Q : Post} {t e : Nat} {x y : Operand} {n : Nat} {r re : TyRow} (ho : o.op = .makeSlice t x y) (hr : rowOf c.g.tys t = some r) (hd : r.d = .slice e) (hre : rowOf c.g.tys e = some re) (hz : re.z.cells.toList = f z)
    (hs : re.sz = sz) (hx : S.ev x = some (.int .i64 n)) (hy : S.ev y = some (.int .i64 n)) (hb : re.by_ * n ≤ 281474976710656) (hn : n ≤ maxLen)
    (k : ∀ w1, Ext w w1 → w1.heap.size = w.heap.size + 1 → Blk w1 w.heap.size e ((List.replicate n z).flatMap f) → putK c S o.dst (.v (.slice (some ⟨w.heap.size, 0, none⟩) n n)) (fun S => K S w1)) : AtOp c o S w K Q := by
  obtain ⟨_, i, hi, hsz, hby, hiz⟩ := hg.row hre
  have hr' := (hg.row hr).1
  rw [hd] at hr'
  have hr1 := run_make (P := c.g.P) w t e i re.z hr' hi hiz .i64 .i64 n n (by omega) (by omega) (by rw [hby]; omega) (by unfold maxLen at hn; omega)
  have hm := madeCells_flat hf h0 hz n
  rw [hsz, hs] at hr1
  simp only [Int.toNat_natCast] at hr1
  refine at_run (w' := w.alloc (.cells (madeCells re.z.cells (n * sz)) e)) (v := .slice (some ⟨w.heap.size, 0, none⟩) n n) (fun a hf => ?_) (k _ (Ext.alloc w _) (by simp) ?_)
  · have e1 := hf.ev hx
    have e2 := hf.ev hy
    simp only [execOp, ho, e1, e2]
    simp at hr1 ⊢
    rw [hr1]; rfl
  · rw [← hm]
    simpa using Blk.new w e (madeCells re.z.cells (n * sz)).toList
end
end
end Go.Proofs.YtedopgkbajhanaaGreatDoor
