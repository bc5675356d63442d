/-
  The canonical formula of a diagram, as a tree: what it means, how large it is, that the program builds it.
  Conditions: none.
-/
import Derived.Test.YtedopgkbajhanaaGreatDoorPo
namespace Go.Proofs.YtedopgkbajhanaaGreatDoor
open Go Go.RowKit

def litF (v : Nat) (pos : Bool) : Fm := if pos then .v v else .not (.v v)
def cfT (nd : List Br) : Nat → Int → Fm
  | 0, _ => .c false
  | m + 1, n => if n < 2 then .c (decide (n = 1)) else match nd[(n - 2).toNat]? with
    | none => .c false
    | some b => if b.h < 2 ∧ b.l < 2 then litF b.v.toNat (decide (b.h = 1))
      else if b.l = 0 then .and (litF b.v.toNat true) (cfT nd m b.h)
      else if b.h = 0 then .and (litF b.v.toNat false) (cfT nd m b.l)
      else if b.h = 1 then .or (litF b.v.toNat true) (cfT nd m b.l)
      else if b.l = 1 then .or (litF b.v.toNat false) (cfT nd m b.h)
      else .or (.and (litF b.v.toNat true) (cfT nd m b.h)) (.and (litF b.v.toNat false) (cfT nd m b.l))
/-- The canonical formula of a number. -/
def cf (nd : List Br) (n : Int) : Fm := cfT nd (n.toNat + 1) n
theorem cfT_lt {nd : List Br} {m : Nat} {n : Int} (h : n < 2) : cfT nd (m + 1) n = .c (decide (n = 1)) := by rw [cfT, if_pos h]
theorem cfT_ge {nd : List Br} {m : Nat} {n : Int} {b : Br} (h : ¬ n < 2) (hb : nd[(n - 2).toNat]? = some b) : cfT nd (m + 1) n = if b.h < 2 ∧ b.l < 2 then litF b.v.toNat (decide (b.h = 1))
      else if b.l = 0 then .and (litF b.v.toNat true) (cfT nd m b.h)
      else if b.h = 0 then .and (litF b.v.toNat false) (cfT nd m b.l)
      else if b.h = 1 then .or (litF b.v.toNat true) (cfT nd m b.l)
      else if b.l = 1 then .or (litF b.v.toNat false) (cfT nd m b.h)
      else .or (.and (litF b.v.toNat true) (cfT nd m b.h)) (.and (litF b.v.toNat false) (cfT nd m b.l)) := by rw [cfT, if_neg h, hb]
theorem cfT_fuel {nd : List Br} (hw : WfB nd) : ∀ (m m' : Nat) (n : Int), n < m → n < m' → 0 < m → 0 < m' → cfT nd m n = cfT nd m' n
  | 0, _, n, _, _, h, _ => by omega
  | _ + 1, 0, n, _, _, _, h => by omega
  | m + 1, m' + 1, n, h, h', _, _ => by
    by_cases h2 : n < 2
    · rw [cfT_lt h2, cfT_lt h2]
    · rw [cfT, cfT, if_neg h2, if_neg h2]
      cases hb : nd[(n - 2).toNat]? with
      | none => rfl
      | some b =>
        obtain ⟨h1, h3, h4, h5⟩ := hw _ _ hb
        simp only
        rw [cfT_fuel hw m m' b.h (by omega) (by omega) (by omega) (by omega), cfT_fuel hw m m' b.l (by omega) (by omega) (by omega) (by omega)]
theorem cf_eq {nd : List Br} (hw : WfB nd) {m : Nat} {n : Int} (h0 : 0 ≤ n) (h : n < m) : cfT nd m n = cf nd n := cfT_fuel hw m (n.toNat + 1) n h (by omega) (by omega) (by omega)

/-- The value of a formula. -/
def evF : Fm → (Nat → Bool) → Bool
  | .c b, _ => b
  | .v n, e => e n
  | .not a, e => !evF a e
  | .and a b, e => evF a e && evF b e
  | .or a b, e => evF a e || evF b e
theorem litF_ev (v : Nat) (pos : Bool) (e : Nat → Bool) : evF (litF v pos) e = (e v == pos) := by
  cases pos <;> cases h : e v <;> simp [litF, evF, h]
theorem cfT_ev {nd : List Br} (h : Rd0 nd) (e : Nat → Bool) : ∀ (m : Nat) (n : Int), 0 ≤ n → n < m → n < nd.length + 2 → evF (cfT nd m n) e = ev nd n e
  | 0, n, h0, hm, _ => by omega
  | m + 1, n, h0, hm, hn => by
    by_cases h2 : n < 2
    · rw [cfT_lt h2, ev_lt h2]; rfl
    obtain ⟨b, hb⟩ := getE h2 hn
    obtain ⟨b1, b2, b3, b4, b5, b6, b7, b8, b9, b10⟩ := h _ _ hb
    have ihl := cfT_ev h e m b.l b3 (by omega) (by omega)
    have ihh := cfT_ev h e m b.h b5 (by omega) (by omega)
    rw [cfT_ge h2 hb, ev_ge h.wf h2 hb]
    split
    · rename_i hc
      rw [litF_ev, ev_lt hc.1, ev_lt hc.2]
      have : b.l = 1 ↔ ¬ b.h = 1 := by omega
      by_cases hh : b.h = 1
      · rw [decide_eq_true hh, decide_eq_false (fun hl => (this.1 hl) hh)]; cases e b.v.toNat <;> rfl
      · rw [decide_eq_false hh, decide_eq_true (this.2 hh)]; cases e b.v.toNat <;> rfl
    · split
      · rename_i hl
        simp only [evF]
        rw [litF_ev, ihh, ev_lt (n := b.l) (by omega), hl]
        cases e b.v.toNat <;> simp
      · split
        · rename_i hh
          simp only [evF]
          rw [litF_ev, ihl, ev_lt (n := b.h) (by omega), hh]
          cases e b.v.toNat <;> simp
        · split
          · rename_i hh
            simp only [evF]
            rw [litF_ev, ihl, ev_lt (n := b.h) (by omega), hh]
            cases e b.v.toNat <;> simp
          · split
            · rename_i hl
              simp only [evF]
              rw [litF_ev, ihh, ev_lt (n := b.l) (by omega), hl]
              cases e b.v.toNat <;> simp
            · simp only [evF]
              rw [litF_ev, litF_ev, ihh, ihl]
              cases e b.v.toNat <;> simp
theorem litF_vars {v k : Nat} (h : v < k) (pos : Bool) : VarsIn k (litF v pos) := by cases pos <;> exact h
theorem cfT_vars {nd : List Br} {k : Nat} (h : ∀ b ∈ nd, b.v.toNat < k) : ∀ (m : Nat) (n : Int), VarsIn k (cfT nd m n)
  | 0, n => trivial
  | m + 1, n => by
    by_cases h2 : n < 2
    · rw [cfT_lt h2]; exact trivial
    cases hb : nd[(n - 2).toNat]? with
    | none => rw [cfT, if_neg h2, hb]; exact trivial
    | some b =>
      have hv := h b (List.mem_of_getElem? hb)
      have i1 := cfT_vars h m b.h
      have i2 := cfT_vars h m b.l
      rw [cfT_ge h2 hb]
      repeat' split
      · exact litF_vars hv _
      · exact ⟨litF_vars hv _, i1⟩
      · exact ⟨litF_vars hv _, i2⟩
      · exact ⟨litF_vars hv _, i2⟩
      · exact ⟨litF_vars hv _, i1⟩
      · exact ⟨⟨litF_vars hv _, i1⟩, litF_vars hv _, i2⟩

/-! ### The program's road -/
theorem putC_len (x : Fz) {f : List Fz} (h : f.length ≤ 513) : (putC x f).2.length = min 513 (f.length + 1) := by
  unfold putC
  split
  · simp; omega
  · simp only; omega
theorem putC_eq (x : Fz) {f : List Fz} (h : f.length + 1 ≤ 513) : putC x f = (f.length, f ++ [x]) := by unfold putC; rw [if_pos (by omega)]
/-- What a builder of a tree does. -/
structure BldOk (bld : List Fz → Nat × List Fz) (t : Fm) : Prop where
  len : ∀ f, f.length ≤ 513 → (bld f).2.length = min 513 (f.length + szF t)
  eq : ∀ f, f.length + szF t ≤ 513 → bld f = (f.length + szF t - 1, f ++ postF t f.length)
def litC (v : Int) (pos : Bool) (f : List Fz) : Nat × List Fz := let p := putC ⟨2, v, 0, 0⟩ f; if pos then p else putC ⟨3, 0, (p.1 : Nat), 0⟩ p.2
theorem lit_ok {v : Int} (hv : 0 ≤ v) (pos : Bool) : BldOk (litC v pos) (litF v.toNat pos) := by
  have e : (⟨2, v, 0, 0⟩ : Fz) = ⟨2, (v.toNat : Nat), 0, 0⟩ := by rw [Int.toNat_of_nonneg hv]
  cases pos with
  | true => exact ⟨fun f hf => by show (putC _ f).2.length = _; rw [putC_len _ hf]; rfl, fun f hf => by show putC _ f = _; rw [putC_eq _ hf, e]; rfl⟩
  | false =>
    refine ⟨fun f hf => ?_, fun f hf => ?_⟩
    · show (putC _ (putC _ f).2).2.length = min 513 (f.length + 2)
      rw [putC_len _ (by rw [putC_len _ hf]; omega), putC_len _ hf]; omega
    · have hf' : f.length + 2 ≤ 513 := hf
      show putC _ (putC _ f).2 = _
      rw [putC_eq _ (f := f) (by omega)]
      simp only
      rw [putC_eq _ (by simp; omega), e]
      simp [litF, szF, postF]
theorem join_ok {b1 b2 : List Fz → Nat × List Fz} {t1 t2 : Fm} (h1 : BldOk b1 t1) (h2 : BldOk b2 t2) (op : Int) (mk : Fm → Fm → Fm) (hs : ∀ a b, szF (mk a b) = szF a + szF b + 1)
    (hp : ∀ a b k, postF (mk a b) k = postF a k ++ postF b (k + szF a) ++ [⟨op, 0, ((k + szF a - 1 : Nat) : Int), ((k + szF a + szF b - 1 : Nat) : Int)⟩]) :
    BldOk (fun f => let a := b1 f; let c := b2 a.2; putC ⟨op, 0, (a.1 : Nat), (c.1 : Nat)⟩ c.2) (mk t1 t2) := by
  refine ⟨fun f hf => ?_, fun f hf => ?_⟩
  · have e1 := h1.len f hf
    have e2 := h2.len (b1 f).2 (by omega)
    simp only
    rw [putC_len _ (by omega), e2, e1, hs]; omega
  · rw [hs] at hf
    have p1 := szF_pos t1
    have p2 := szF_pos t2
    simp only
    rw [h1.eq f (by omega)]
    simp only
    have l1 : (f ++ postF t1 f.length).length = f.length + szF t1 := by rw [List.length_append, postF_len]
    rw [h2.eq _ (by rw [l1]; omega)]
    simp only
    have l2 : (f ++ postF t1 f.length ++ postF t2 (f ++ postF t1 f.length).length).length = f.length + szF t1 + szF t2 := by rw [List.length_append, l1, postF_len]
    rw [putC_eq _ (by rw [l2]; omega), l2, hs, hp, l1]
    simp
    omega
theorem side_eq (bld : Int → List Fz → Nat × List Fz) (op v : Int) (pos : Bool) (num : Int) (f : List Fz) : sideC bld op v pos num f = if op = 4 ∧ num = 1 then litC v pos f else let a := litC v pos f; let c := bld num a.2; putC ⟨op, 0, (a.1 : Nat), (c.1 : Nat)⟩ c.2 := rfl
theorem bld_ok {nd : List Br} (h : Rd0 nd) : ∀ (m : Nat) (n : Int), 0 ≤ n → n < m → n < nd.length + 2 → BldOk (bldC nd m n) (cfT nd m n)
  | 0, n, h0, hm, _ => by omega
  | m + 1, n, h0, hm, hn => by
    by_cases h2 : n < 2
    · have e : (⟨min n 1, 0, 0, 0⟩ : Fz) = ⟨if decide (n = 1) then 1 else 0, 0, 0, 0⟩ := by
        rcases (by omega : n = 0 ∨ n = 1) with rfl | rfl <;> rfl
      rw [cfT_lt h2]
      refine ⟨fun f hf => ?_, fun f hf => ?_⟩
      · rw [bldC, if_pos (.inl h2), putC_len _ hf]; rfl
      · rw [bldC, if_pos (.inl h2), putC_eq _ hf, e]; rfl
    obtain ⟨b, hb⟩ := getE h2 hn
    obtain ⟨b1, b2, b3, b4, b5, b6, b7, b8, b9, b10⟩ := h _ _ hb
    have ihl := bld_ok h m b.l b3 (by omega) (by omega)
    have ihh := bld_ok h m b.h b5 (by omega) (by omega)
    have lit := fun p => lit_ok (v := b.v) b1 p
    have sd : ∀ (op : Int) (pos : Bool) (num : Int) (t : Fm), ¬ (op = 4 ∧ num = 1) → BldOk (bldC nd m num) t → (op = 4 → BldOk (sideC (bldC nd m) op b.v pos num) (.and (litF b.v.toNat pos) t)) ∧ (op = 5 → BldOk (sideC (bldC nd m) op b.v pos num) (.or (litF b.v.toNat pos) t)) := fun op pos num t hno ht => by
      have e : sideC (bldC nd m) op b.v pos num = fun f => let a := litC b.v pos f; let c := bldC nd m num a.2; putC ⟨op, 0, (a.1 : Nat), (c.1 : Nat)⟩ c.2 := by
        funext f; rw [side_eq, if_neg hno]
      rw [e]
      refine ⟨fun h4 => ?_, fun h5 => ?_⟩
      · subst h4; exact join_ok (lit pos) ht 4 .and (fun _ _ => rfl) (fun _ _ _ => rfl)
      · subst h5; exact join_ok (lit pos) ht 5 .or (fun _ _ => rfl) (fun _ _ _ => rfl)
    have short : ∀ (pos : Bool), sideC (bldC nd m) 4 b.v pos 1 = litC b.v pos := fun pos => by funext f; rw [side_eq, if_pos ⟨rfl, rfl⟩]
    -- the branch's own builder
    have main : ∃ B, BldOk B (cfT nd (m + 1) n) ∧ ∀ f, ¬ 512 < f.length → bldC nd (m + 1) n f = B f := by
      rw [cfT_ge h2 hb]
      have unf : ∀ f, ¬ 512 < f.length → bldC nd (m + 1) n f = if b.l = 0 then sideC (bldC nd m) 4 b.v true b.h f else
          if b.h = 0 then sideC (bldC nd m) 4 b.v false b.l f else
          if b.h = 1 then sideC (bldC nd m) 5 b.v true b.l f else
          if b.l = 1 then sideC (bldC nd m) 5 b.v false b.h f else
            let hi := sideC (bldC nd m) 4 b.v true b.h f
            let lo := sideC (bldC nd m) 4 b.v false b.l hi.2
            putC ⟨5, 0, (hi.1 : Nat), (lo.1 : Nat)⟩ lo.2 := fun f hf => by
        rw [bldC, if_neg (fun hh => hh.elim h2 hf), hb]
      split
      · rename_i hc
        by_cases hl : b.l = 0
        · have hh : b.h = 1 := by omega
          rw [decide_eq_true hh]
          exact ⟨_, lit true, fun f hf => by rw [unf f hf, if_pos hl, hh, short]⟩
        · have hh : b.h = 0 := by omega
          have hl1 : b.l = 1 := by omega
          rw [decide_eq_false (by omega)]
          exact ⟨_, lit false, fun f hf => by rw [unf f hf, if_neg hl, if_pos hh, hl1, short]⟩
      · rename_i hc
        split
        · rename_i hl
          exact ⟨_, (sd 4 true b.h _ (by omega) ihh).1 rfl, fun f hf => by rw [unf f hf, if_pos hl]⟩
        · rename_i hl
          split
          · rename_i hh
            exact ⟨_, (sd 4 false b.l _ (by omega) ihl).1 rfl, fun f hf => by rw [unf f hf, if_neg hl, if_pos hh]⟩
          · rename_i hh
            split
            · rename_i hh1
              exact ⟨_, (sd 5 true b.l _ (by omega) ihl).2 rfl, fun f hf => by rw [unf f hf, if_neg hl, if_neg hh, if_pos hh1]⟩
            · rename_i hh1
              split
              · rename_i hl1
                exact ⟨_, (sd 5 false b.h _ (by omega) ihh).2 rfl, fun f hf => by rw [unf f hf, if_neg hl, if_neg hh, if_neg hh1, if_pos hl1]⟩
              · rename_i hl1
                exact ⟨_, join_ok ((sd 4 true b.h _ (by omega) ihh).1 rfl) ((sd 4 false b.l _ (by omega) ihl).1 rfl) 5 .or (fun _ _ => rfl) (fun _ _ _ => rfl), fun f hf => by rw [unf f hf, if_neg hl, if_neg hh, if_neg hh1, if_neg hl1]⟩
    obtain ⟨B, hB, hBe⟩ := main
    refine ⟨fun f hf => ?_, fun f hf => ?_⟩
    · by_cases h5 : 512 < f.length
      · rw [bldC, if_pos (.inr h5), putC_len _ hf]
        have := szF_pos (cfT nd (m + 1) n); omega
      · rw [hBe f h5, hB.len f hf]
    · have := szF_pos (cfT nd (m + 1) n)
      rw [hBe f (by omega), hB.eq f hf]
/-- What Of yields for a valid diagram. -/
theorem ofP_eq {nd : List Br} {root : Int} (hv : chkD nd root = 0) : ofP nd root = if 512 < szF (cf nd root) then ([], 2) else (postF (cf nd root) 0, 0) := by
  obtain ⟨_, vd⟩ := chkD_zero.1 hv
  have B := bld_ok vd.rd0 (root.toNat + 1) root vd.2.1 (by have := vd.2.1; omega) vd.2.2.1
  have e1 := B.len [] (by simp)
  unfold ofP
  rw [if_pos hv]
  simp only [List.length_nil, Nat.zero_add] at e1
  have : cfT nd (root.toNat + 1) root = cf nd root := rfl
  rw [this] at e1
  by_cases h : 512 < szF (cf nd root)
  · rw [if_pos h, if_pos (by rw [e1]; omega)]
  · rw [if_neg h, if_neg (by rw [e1]; omega)]
    have e2 := B.eq [] (by simp only [List.length_nil]; rw [this]; omega)
    rw [e2, this]; rfl
end Go.Proofs.YtedopgkbajhanaaGreatDoor
