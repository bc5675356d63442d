/-
  Diagrams over few conditions: how many branches, how large their formulas; operations on them succeed.
  Conditions: none.
-/
import Derived.Test.YtedopgkbajhanaaGreatDoorCf1
namespace Go.Proofs.YtedopgkbajhanaaGreatDoor
open Go Go.RowKit

/-- The conditions of a diagram lie below a bound. -/
def VIn (k : Nat) (nd : List Br) : Prop := ∀ b ∈ nd, b.v < k
theorem VIn.nil (k : Nat) : VIn k [] := fun b hb => by simp at hb
theorem VIn.lvl {k : Nat} {nd : List Br} (h : VIn k nd) {n : Int} (h2 : ¬ n < 2) (hn : n < nd.length + 2) : lvlD nd n < k := by
  obtain ⟨b, hb⟩ := getE h2 hn
  rw [lvl_some h2 hb]; exact h b (List.mem_of_getElem? hb)
theorem Rd0.lvl0 {nd : List Br} (h : Rd0 nd) {n : Int} (hn : n < nd.length + 2) : 0 ≤ lvlD nd n := by
  by_cases h2 : n < 2
  · rw [lvl_one h2]; omega
  · obtain ⟨z, hz⟩ := getE h2 hn
    rw [lvl_some h2 hz]; exact (h _ _ hz).1
theorem pow_half {a b c : Nat} (ha : a < c) (hb : b < c) : 2 ^ a + 2 ^ b ≤ 2 ^ c := by
  obtain ⟨d, rfl⟩ : ∃ d, c = d + 1 := ⟨c - 1, by omega⟩
  have h1 : 2 ^ a ≤ 2 ^ d := Nat.pow_le_pow_right (by decide) (by omega)
  have h2 : 2 ^ b ≤ 2 ^ d := Nat.pow_le_pow_right (by decide) (by omega)
  rw [Nat.pow_succ]; omega
theorem pow_pos2 (a : Nat) : 1 ≤ 2 ^ a := Nat.one_le_two_pow

theorem vis_bnd {nd : List Br} (h : Rd0 nd) {k : Nat} (hk : VIn k nd) : ∀ (m : Nat) (n : Int) (st : List Br × List Nat), 0 ≤ n → n < m → n < nd.length + 2 → (vis nd m n st).2.1.length + 1 ≤ st.1.length + 2 ^ ((k : Int) - lvlD nd n).toNat
  | 0, n, st, h0, hm, _ => by omega
  | m + 1, n, st, h0, hm, hn => by
    have p := pow_pos2 ((k : Int) - lvlD nd n).toNat
    by_cases h2 : n < 2
    · rw [vis_lt h2]; simp only; omega
    by_cases h3 : 0 < st.2[(n - 2).toNat]?.getD 0
    · rw [vis_old h2 h3]; simp only; omega
    obtain ⟨b, hb⟩ := getE h2 hn
    obtain ⟨b1, b2, b3, b4, b5, b6, b7, b8, b9, b10⟩ := h _ _ hb
    have hbk := hk b (List.mem_of_getElem? hb)
    have hlv := lvl_some h2 hb
    rw [vis_new h2 h3 hb]
    have i1 := vis_bnd h hk m b.l st b3 (by omega) (by omega)
    generalize (vis nd m b.l st) = p1 at *
    have i2 := vis_bnd h hk m b.h p1.2 b5 (by omega) (by omega)
    generalize (vis nd m b.h p1.2) = p2 at *
    have := pow_half (a := ((k : Int) - lvlD nd b.l).toNat) (b := ((k : Int) - lvlD nd b.h).toNat) (c := ((k : Int) - lvlD nd n).toNat) (by omega) (by omega)
    simp only [List.length_append, List.length_cons, List.length_nil]
    omega
theorem vis_vars {nd : List Br} {k : Nat} (hk : VIn k nd) : ∀ (m : Nat) (n : Int) (st : List Br × List Nat), VIn k st.1 → VIn k (vis nd m n st).2.1
  | 0, n, st, h => h
  | m + 1, n, st, h => by
    by_cases h2 : n < 2
    · rw [vis_lt h2]; exact h
    by_cases h3 : 0 < st.2[(n - 2).toNat]?.getD 0
    · rw [vis_old h2 h3]; exact h
    cases hb : nd[(n - 2).toNat]? with
    | none => rw [vis, if_neg h2, if_neg h3, hb]; exact h
    | some b =>
      rw [vis_new h2 h3 hb]
      have i1 := vis_vars hk m b.l st h
      generalize (vis nd m b.l st) = p1 at *
      have i2 := vis_vars hk m b.h p1.2 i1
      generalize (vis nd m b.h p1.2) = p2 at *
      intro x hx
      simp only [List.mem_append, List.mem_singleton] at hx
      rcases hx with hx | rfl
      · exact i2 x hx
      · exact hk b (List.mem_of_getElem? hb)
theorem numbered_vars {nd : List Br} {k : Nat} (hk : VIn k nd) (r : Int) : VIn k (numberedD nd r).1 := vis_vars hk _ _ _ (VIn.nil k)
theorem VD.len {nd : List Br} {r : Int} (h : VD nd r) {k : Nat} (hk : VIn k nd) : nd.length + 1 ≤ 2 ^ k := by
  have i := vis_bnd h.rd0 hk (r.toNat + 1) r ([], List.replicate nd.length 0) h.2.1 (by have := h.2.1; omega) h.2.2.1
  have e : (vis nd (r.toNat + 1) r ([], List.replicate nd.length 0)).2.1 = nd := congrArg Prod.fst h.2.2.2
  rw [e] at i
  have := h.rd0.lvl0 h.2.2.1
  have p : 2 ^ ((k : Int) - lvlD nd r).toNat ≤ 2 ^ k := Nat.pow_le_pow_right (by decide) (by omega)
  simp only [List.length_nil] at i
  omega
theorem uniq_vars {k : Nat} {l : List Br} (h : VIn k l) {b : Br} (hb : b.v < k) : VIn k (uniqD b l).1 := by
  unfold uniqD
  split
  · exact h
  · split
    · exact h
    · intro x hx
      simp only [List.mem_append, List.mem_singleton] at hx
      rcases hx with hx | rfl
      · exact h x hx
      · exact hb
theorem at2_vars {a b : List Br} (ha : DOk a) (hb : DOk b) {k : Nat} (ka : VIn k a) (kb : VIn k b) (op : Int) : ∀ (m : Nat) (x y : Int) (st : List Br × List Tr3), 0 ≤ x → 0 ≤ y → x < a.length + 2 → y < b.length + 2 → VIn k st.1 → VIn k (at2 a b op m x y st).2.1
  | 0, _, _, st, _, _, _, _, h => h
  | m + 1, x, y, st, x0, y0, hx, hy, h => by
    by_cases hxy : x < 2 ∧ y < 2
    · rw [at2_c hxy]; exact h
    cases k3 : st.2.find? (fun t => decide (t.1 = x ∧ t.2.1 = y)) with
    | some t => rw [at2_s hxy k3]; exact h
    | none =>
      have hvk : min (lvlD a x) (lvlD b y) < k := by
        by_cases c : x < 2
        · have := kb.lvl (n := y) (fun c2 => hxy ⟨c, c2⟩) hy
          rw [Int.min_def]; split <;> omega
        · have := ka.lvl (n := x) c hx
          rw [Int.min_def]; split <;> omega
      have hv64 : min (lvlD a x) (lvlD b y) < 64 := by
        by_cases c : x < 2
        · have := lvl_lt hb (n := y) (fun c2 => hxy ⟨c, c2⟩) (by omega)
          rw [Int.min_def]; split <;> omega
        · have := lvl_lt ha (n := x) c (by omega)
          rw [Int.min_def]; split <;> omega
      rw [at2_n hxy k3 _ rfl]
      generalize min (lvlD a x) (lvlD b y) = v at *
      obtain ⟨s1, s2, s3, s4, s5⟩ := sideD_le ha (n := x) x0 hv64
      obtain ⟨t1, t2, t3, t4, t5⟩ := sideD_le hb (n := y) y0 hv64
      have i1 := at2_vars ha hb ka kb op m (sideD a x v).1 (sideD b y v).1 st s1 t1 (by omega) (by omega) h
      generalize (at2 a b op m (sideD a x v).1 (sideD b y v).1 st) = r0 at *
      have i2 := at2_vars ha hb ka kb op m (sideD a x v).2 (sideD b y v).2 r0.2 s3 t3 (by omega) (by omega) i1
      exact uniq_vars i2 hvk

/-- A valid diagram over some conditions that means a set. -/
structure Set1 (k : Nat) (nd : List Br) (r : Int) (o : (Nat → Bool) → Bool) : Prop where
  vd : VD nd r
  vin : VIn k nd
  mean : ∀ e, ev nd r e = o e
theorem Set1.len {k : Nat} {nd : List Br} {r : Int} {o : (Nat → Bool) → Bool} (h : Set1 k nd r o) (hk : k ≤ 12) : nd.length ≤ 4095 := by
  have := h.vd.len h.vin
  have p : 2 ^ k ≤ 2 ^ 12 := Nat.pow_le_pow_right (by decide) hk
  omega
theorem Set1.chk {k : Nat} {nd : List Br} {r : Int} {o : (Nat → Bool) → Bool} (h : Set1 k nd r o) (hk : k ≤ 12) : chkD nd r = 0 := chkD_ok (by have := h.len hk; omega) h.vd
theorem Set1.unique {k k' : Nat} {nd nd' : List Br} {r r' : Int} {o o' : (Nat → Bool) → Bool} (h : Set1 k nd r o) (h' : Set1 k' nd' r' o') (e : ∀ x, o x = o' x) : (nd, r) = (nd', r') :=
  h.vd.eqv h'.vd (fun x => by rw [h.mean, h'.mean, e])
theorem Set1.congr {k : Nat} {nd : List Br} {r : Int} {o o' : (Nat → Bool) → Bool} (h : Set1 k nd r o) (e : ∀ x, o x = o' x) : Set1 k nd r o' := ⟨h.vd, h.vin, fun x => (h.mean x).trans (e x)⟩
theorem comb_set {k : Nat} {a b : List Br} {ra rb : Int} {o o' : (Nat → Bool) → Bool} (h : Set1 k a ra o) (h' : Set1 k b rb o') (op : Int) : Set1 k (combD a ra b rb op).1 (combD a ra b rb op).2 (fun e => opB op (o e) (o' e)) := by
  obtain ⟨v, m⟩ := comb_vd h.vd h'.vd op
  refine ⟨v, numbered_vars (at2_vars h.vd.dok h'.vd.dok h.vin h'.vin op _ _ _ _ h.vd.2.1 h'.vd.2.1 h.vd.2.2.1 h'.vd.2.2.1 (VIn.nil k)) _, fun e => ?_⟩
  rw [m e, h.mean, h'.mean]
theorem op_set {k : Nat} (hk : k ≤ 12) {a b : List Br} {ra rb : Int} {o o' : (Nat → Bool) → Bool} (h : Set1 k a ra o) (h' : Set1 k b rb o') (op : Int) : opD a ra b rb op = (combD a ra b rb op, 0) := by
  have l := (comb_set h h' op).len hk
  unfold opD
  rw [if_neg (fun hh => hh (h.chk hk)), if_neg (fun hh => hh (h'.chk hk))]
  unfold limD
  rw [if_neg (by omega)]
theorem const_set (k : Nat) (b : Bool) : Set1 k [] (if b then 1 else 0) (fun _ => b) := by
  refine ⟨⟨fun j x hx => by simp at hx, by cases b <;> decide, by cases b <;> decide, by cases b <;> rfl⟩, VIn.nil k, fun e => ?_⟩
  rw [ev_lt (by cases b <;> decide)]; cases b <;> rfl

/-- How large a canonical formula is. -/
theorem cfT_sz {nd : List Br} (h : Rd0 nd) {k : Nat} (hk : VIn k nd) : ∀ (m : Nat) (n : Int), 0 ≤ n → n < m → n < nd.length + 2 → szF (cfT nd m n) + 6 ≤ 7 * 2 ^ ((k : Int) - lvlD nd n).toNat
  | 0, n, h0, hm, _ => by omega
  | m + 1, n, h0, hm, hn => by
    have p := pow_pos2 ((k : Int) - lvlD nd n).toNat
    by_cases h2 : n < 2
    · rw [cfT_lt h2]; show 1 + 6 ≤ _; omega
    obtain ⟨b, hb⟩ := getE h2 hn
    obtain ⟨b1, b2, b3, b4, b5, b6, b7, b8, b9, b10⟩ := h _ _ hb
    have hbk := hk b (List.mem_of_getElem? hb)
    have hlv := lvl_some h2 hb
    have il := cfT_sz h hk m b.l b3 (by omega) (by omega)
    have ih := cfT_sz h hk m b.h b5 (by omega) (by omega)
    have pl := pow_pos2 ((k : Int) - lvlD nd b.l).toNat
    have ph := pow_pos2 ((k : Int) - lvlD nd b.h).toNat
    have pp := pow_half (a := ((k : Int) - lvlD nd b.l).toNat) (b := ((k : Int) - lvlD nd b.h).toNat) (c := ((k : Int) - lvlD nd n).toNat) (by omega) (by omega)
    have lt : szF (litF b.v.toNat true) = 1 := rfl
    have lf : szF (litF b.v.toNat false) = 2 := rfl
    have la : ∀ pos, szF (litF b.v.toNat pos) ≤ 2 := fun pos => match pos with
      | true => Nat.le_succ 1
      | false => Nat.le_refl 2
    rw [cfT_ge h2 hb]
    have sa : ∀ a b, szF (.and a b) = szF a + szF b + 1 := fun _ _ => rfl
    have so : ∀ a b, szF (.or a b) = szF a + szF b + 1 := fun _ _ => rfl
    repeat' split
    · have := la (decide (b.h = 1)); omega
    · rw [sa]; omega
    · rw [sa]; omega
    · rw [so]; omega
    · rw [so]; omega
    · rw [so, sa, sa]; omega
theorem Set1.cf_sz {k : Nat} {nd : List Br} {r : Int} {o : (Nat → Bool) → Bool} (h : Set1 k nd r o) (hk : k ≤ 6) : szF (cf nd r) ≤ 442 := by
  have i := cfT_sz h.vd.rd0 h.vin (r.toNat + 1) r h.vd.2.1 (by have := h.vd.2.1; omega) h.vd.2.2.1
  have := h.vd.rd0.lvl0 h.vd.2.2.1
  have p : 2 ^ ((k : Int) - lvlD nd r).toNat ≤ 2 ^ 6 := Nat.pow_le_pow_right (by decide) (by omega)
  unfold cf
  omega
theorem Set1.of {k : Nat} {nd : List Br} {r : Int} {o : (Nat → Bool) → Bool} (h : Set1 k nd r o) (hk : k ≤ 6) : ofP nd r = (postF (cf nd r) 0, 0) := by
  rw [ofP_eq (h.chk (by omega)), if_neg (by have := h.cf_sz hk; omega)]
theorem Set1.cf_ev {k : Nat} {nd : List Br} {r : Int} {o : (Nat → Bool) → Bool} (h : Set1 k nd r o) (e : Nat → Bool) : evF (cf nd r) e = o e := by
  unfold cf
  rw [cfT_ev h.vd.rd0 e _ _ h.vd.2.1 (by have := h.vd.2.1; omega) h.vd.2.2.1, h.mean]

/-! ### Canonical formulas, branch by branch -/
theorem cf_lt {nd : List Br} {n : Int} (h : n < 2) : cf nd n = .c (decide (n = 1)) := cfT_lt h
theorem cf_ge {nd : List Br} (hw : WfB nd) {k : Nat} {b : Br} (hb : nd[k]? = some b) : cf nd ((k : Int) + 2) = if b.h < 2 ∧ b.l < 2 then litF b.v.toNat (decide (b.h = 1))
      else if b.l = 0 then .and (litF b.v.toNat true) (cf nd b.h)
      else if b.h = 0 then .and (litF b.v.toNat false) (cf nd b.l)
      else if b.h = 1 then .or (litF b.v.toNat true) (cf nd b.l)
      else if b.l = 1 then .or (litF b.v.toNat false) (cf nd b.h)
      else .or (.and (litF b.v.toNat true) (cf nd b.h)) (.and (litF b.v.toNat false) (cf nd b.l)) := by
  obtain ⟨h1, h2, h3, h4⟩ := hw _ _ hb
  have e : cf nd ((k : Int) + 2) = cfT nd ((k + 2) + 1) ((k : Int) + 2) := by unfold cf; rw [show ((k : Int) + 2).toNat = k + 2 by omega]
  rw [e, cfT_ge (by omega) (by rw [show ((k : Int) + 2 - 2).toNat = k by omega]; exact hb), cf_eq hw h1 (by omega), cf_eq hw h3 (by omega)]
/-- The sizes that the reference keeps. -/
def szN (nd : List Br) (n : Nat) : Nat := min (szF (cf nd (n : Int))) 10000
theorem szN_one (nd : List Br) {n : Nat} (h : n < 2) : szN nd n = 1 := by unfold szN; rw [cf_lt (by omega)]; rfl
end Go.Proofs.YtedopgkbajhanaaGreatDoor
