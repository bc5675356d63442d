/-
  Plain laws of least choices.
  Conditions: none.
-/
import Derived.Test.YtbkadgdhmfolaaaLs2
namespace Go.Proofs.Ytbkadgdhmfolaaa
open Go Go.RowKit

/-- The cost of a text. -/
def costT (W : Nat) (s : List Nat) : Nat × Nat := ((costL W s 0).1, (costL W s 0).2)

/-- A possible choice writes what some normal one writes. -/
theorem nrm_of : ∀ (t : Dt) (l : List Bool), l.length = ng t → Poss (hards t) l → ∃ l' ∈ nrm t, ∀ ind st, wrT t l ind false st = wrT t l' ind false st
  | .text s, l, h, _ => ⟨[], by simp [nrm], fun _ _ => rfl⟩
  | .line s, l, h, _ => ⟨[], by simp [nrm], fun _ _ => rfl⟩
  | .hard, l, h, _ => ⟨[], by simp [nrm], fun _ _ => rfl⟩
  | .seq a b, l, h, hp => by
    simp only [ng] at h
    have h1 : Poss (hards a) (l.take (ng a)) := by rw [← hards_len a]; exact Poss.take hp
    have h2 : Poss (hards b) (l.drop (ng a)) := by rw [← hards_len a]; exact Poss.drop hp
    obtain ⟨x, hx, ex⟩ := nrm_of a (l.take (ng a)) (by rw [List.length_take]; omega) h1
    obtain ⟨y, hy, ey⟩ := nrm_of b (l.drop (ng a)) (by rw [List.length_drop]; omega) h2
    have hl := nrm_len a x hx
    refine ⟨x ++ y, List.mem_flatMap.2 ⟨x, hx, List.mem_map.2 ⟨y, hy, rfl⟩⟩, fun ind st => ?_⟩
    simp only [wrT]
    rw [← hl, List.take_left, List.drop_left, hl, ex, ey]
  | .nest n a, l, h, hp => by
    obtain ⟨x, hx, ex⟩ := nrm_of a l h hp
    exact ⟨x, hx, fun ind st => ex _ st⟩
  | .align a, l, h, hp => by
    obtain ⟨x, hx, ex⟩ := nrm_of a l h hp
    exact ⟨x, hx, fun ind st => ex _ st⟩
  | .group a, l, h, hp => by
    simp only [ng] at h
    cases l with
    | nil => simp at h
    | cons b l =>
      cases b with
      | true =>
        have hh : hasHard a = false := Poss.head (hp : Poss (hasHard a :: hards a) _) rfl
        refine ⟨List.replicate (ng a + 1) true, by simp [nrm, hh], fun ind st => ?_⟩
        simp only [wrT, List.replicate_succ, List.headD_cons, List.tail_cons, Bool.or_true]
        exact wrT_flat a _ _ _ _ st hh
      | false =>
        obtain ⟨x, hx, ex⟩ := nrm_of a l (by simpa using h) (Poss.tail (hp : Poss (hasHard a :: hards a) _))
        refine ⟨false :: x, by simp [nrm, hx], fun ind st => ?_⟩
        simp only [wrT, List.headD_cons, List.tail_cons, Bool.or_false]
        exact ex ind st

theorem least_cost {W : Nat} {t : Dt} {l l' : List Bool} (ho : noT t) (h : Least W t l) (h' : l' ∈ nrm t) : ltC (costT W (txtN t l')) (costT W (txtN t l)) = false := by
  have h1 := (leR_iff _ _).1 (h.2 l' h')
  unfold costT ltC
  rw [cost_nrm W ho h.1, cost_nrm W ho h']
  simp only [resR] at h1
  dsimp only
  rcases h1 with h1 | ⟨h1, h2 | ⟨h2, _⟩⟩
  · rw [decide_eq_false (by omega), decide_eq_false (by omega)]; rfl
  · rw [decide_eq_false (by omega), decide_eq_false (show ¬ (runT W t l' 0 (0, false)).2.2 < (runT W t l 0 (0, false)).2.2 by omega), Bool.and_false]; rfl
  · rw [decide_eq_false (by omega), decide_eq_false (show ¬ (runT W t l' 0 (0, false)).2.2 < (runT W t l 0 (0, false)).2.2 by omega), Bool.and_false]; rfl
theorem least_choose {W : Nat} {t : Dt} {l : List Bool} (flags : List Bool) (ho : noT t) (h : Least W t l) : ltC (costT W (txt t flags)) (costT W (txtN t l)) = false := by
  obtain ⟨l', hl', e⟩ := nrm_of t (choose flags t) (choose_len flags t) (choose_poss flags t)
  have e2 : txt t flags = txtN t l' := by
    unfold txt txtN
    rw [e]
  rw [e2]
  exact least_cost ho h hl'
theorem costT_run {W : Nat} {t : Dt} {l : List Bool} (ho : noT t) (h : l ∈ nrm t) : costT W (txtN t l) = (runT W t l 0 (0, false)).2 := by
  unfold costT
  rw [cost_nrm W ho h]

/-! ### A greater width -/
theorem costL_more (W : Nat) (s : List Nat) (n : Nat) : ∀ (m : Nat), (costL (W + m) s n).1 ≤ (costL W s n).1 ∧ (costL (W + m) s n).2 = (costL W s n).2
  | 0 => ⟨Nat.le_refl _, rfl⟩
  | m + 1 => by
    have h1 := costL_more W s n m
    have h2 := costL_wide (W + m) s n
    rw [show W + (m + 1) = W + m + 1 by omega]
    omega
theorem least_more {W m : Nat} {t : Dt} {l l' : List Bool} (ho : noT t) (h : Least W t l) (h' : Least (W + m) t l') :
    (runT (W + m) t l' 0 (0, false)).2.1 ≤ (runT W t l 0 (0, false)).2.1 ∧ (0 < (runT W t l 0 (0, false)).2.1 ∨ (runT (W + m) t l' 0 (0, false)).2.2 ≤ (runT W t l 0 (0, false)).2.2) := by
  have h1 := (leR_iff _ _).1 (h'.2 l h.1)
  have h2 := costL_more W (txtN t l) 0 m
  have h3 := cost_nrm W ho h.1
  have h4 := cost_nrm (W + m) ho h.1
  rw [h3, h4] at h2
  simp only [resR] at h1
  dsimp only at h2
  omega

/-! ### Documents that mean the same -/
theorem least_congr {W : Nat} {s t : Dt} (hn : ∀ l, l ∈ nrm s ↔ l ∈ nrm t) (hr : ∀ l ∈ nrm s, runT W s l 0 (0, false) = runT W t l 0 (0, false)) {l : List Bool} (h : Least W s l) : Least W t l := by
  refine ⟨(hn l).1 h.1, fun l' hl' => ?_⟩
  have := h.2 l' ((hn l').2 hl')
  unfold resR at *
  rw [hr l h.1, hr l' ((hn l').2 hl')] at this
  exact this
theorem nrm_assoc (a b c : Dt) (l : List Bool) : l ∈ nrm (.seq (.seq a b) c) ↔ l ∈ nrm (.seq a (.seq b c)) := by
  simp only [nrm, List.mem_flatMap, List.mem_map]
  constructor
  · rintro ⟨z, ⟨x, hx, y, hy, rfl⟩, u, hu, rfl⟩
    exact ⟨x, hx, y ++ u, ⟨y, hy, u, hu, rfl⟩, by rw [List.append_assoc]⟩
  · rintro ⟨x, hx, z, ⟨y, hy, u, hu, rfl⟩, rfl⟩
    exact ⟨x ++ y, ⟨x, hx, y, hy, rfl⟩, u, hu, by rw [List.append_assoc]⟩
theorem runT_assoc (W : Nat) (a b c : Dt) (l : List Bool) (ind : Nat) (p : Pl) : runT W (.seq (.seq a b) c) l ind p = runT W (.seq a (.seq b c)) l ind p := by
  simp only [runT, ng, List.take_take, List.drop_take, List.drop_drop]
  rw [Nat.min_eq_left (by omega : ng a ≤ ng a + ng b), show ng a + ng b - ng a = ng b by omega]
  simp only [Nat.add_assoc]
def padT (t : Dt) : Dt := .seq (.text []) (.nest 0 (.seq t (.text [])))
theorem nrm_pad (t : Dt) (l : List Bool) : l ∈ nrm (padT t) ↔ l ∈ nrm t := by
  simp [padT, nrm]
theorem runT_pad (W : Nat) (t : Dt) (l : List Bool) (hl : l.length = ng t) (ind : Nat) (p : Pl) : runT W (padT t) l ind p = runT W t l ind p := by
  have h0 : ∀ q : Pl, plW W q 0 = (q, 0) := fun q => by simp [plW]
  simp only [padT, runT, ng, List.length_nil, h0, List.drop_zero, Nat.add_zero]
  rw [← hl, List.take_length]
  simp
theorem wrT_pad (t : Dt) (l : List Bool) (hl : l.length = ng t) (ind : Nat) (st : Ws) : wrT (padT t) l ind false st = wrT t l ind false st := by
  have h0 : ∀ s, wadd [] s = s := fun s => rfl
  simp only [padT, wrT, ng, h0, List.drop_zero, Nat.add_zero]
  rw [← hl, List.take_length]
theorem txtN_pad {t : Dt} {l : List Bool} (h : l ∈ nrm t) : txtN (padT t) l = txtN t l := by
  unfold txtN; rw [wrT_pad t l (nrm_len t l h)]
theorem txtN_assoc (a b c : Dt) (l : List Bool) : txtN (.seq a (.seq b c)) l = txtN (.seq (.seq a b) c) l := by
  unfold txtN; rw [wrT_assoc]
theorem least_assoc {W : Nat} {a b c : Dt} {l : List Bool} (h : Least W (.seq (.seq a b) c) l) : Least W (.seq a (.seq b c)) l :=
  least_congr (nrm_assoc a b c) (fun l _ => runT_assoc W a b c l 0 (0, false)) h
theorem least_pad {W : Nat} {t : Dt} {l : List Bool} (h : Least W t l) : Least W (padT t) l :=
  least_congr (fun l => (nrm_pad t l).symm) (fun l hl => (runT_pad W t l (nrm_len t l hl) 0 (0, false)).symm) h

/-! ### A hard line break between two documents -/
def brkT (a b : Dt) : Dt := .seq a (.seq .hard b)
theorem nrm_brk (a b : Dt) (l : List Bool) : l ∈ nrm (brkT a b) ↔ ∃ x ∈ nrm a, ∃ y ∈ nrm b, l = x ++ y := by
  simp only [brkT, nrm, List.mem_flatMap, List.mem_map, List.mem_singleton]
  constructor
  · rintro ⟨x, hx, z, ⟨e, rfl, y, hy, rfl⟩, rfl⟩
    exact ⟨x, hx, y, hy, rfl⟩
  · rintro ⟨x, hx, y, hy, rfl⟩
    exact ⟨x, hx, y, ⟨[], rfl, y, hy, rfl⟩, rfl⟩
theorem runT_brk (W : Nat) {a b : Dt} {x : List Bool} (hx : x ∈ nrm a) (y : List Bool) : (runT W (brkT a b) (x ++ y) 0 (0, false)).2 = ((runT W a x 0 (0, false)).2.1 + (runT W b y 0 (0, false)).2.1, (runT W a x 0 (0, false)).2.2 + (runT W b y 0 (0, false)).2.2 + 1) := by
  have hl := nrm_len a x hx
  simp only [brkT, runT, ng, List.drop_zero]
  rw [← hl, List.take_left, List.drop_left]
  simp only [Nat.zero_add]
  rw [Nat.add_comm 1, Nat.add_assoc]
theorem least_brk {W : Nat} {a b : Dt} {x y : List Bool} (hx : Least W a x) (hy : Least W b y) : Least W (brkT a b) (x ++ y) := by
  refine ⟨(nrm_brk a b _).2 ⟨x, hx.1, y, hy.1, rfl⟩, fun l' hl' => ?_⟩
  obtain ⟨x', hx', y', hy', rfl⟩ := (nrm_brk a b _).1 hl'
  have h1 := addR_le (r := resR W a x 0 (0, false)) (r' := resR W a x' 0 (0, false)) (by show x.length = x'.length; rw [nrm_len a x hx.1, nrm_len a x' hx']) (hx.2 x' hx') (hy.2 y' hy')
  rw [leR_iff] at h1 ⊢
  simp only [resR, addR] at h1 ⊢
  rw [runT_brk W hx.1, runT_brk W hx']
  dsimp only
  rcases h1 with h1 | ⟨h1, h2 | ⟨h2, h3⟩⟩
  · exact .inl h1
  · exact .inr ⟨h1, .inl (by omega)⟩
  · exact .inr ⟨h1, .inr ⟨by omega, h3⟩⟩

/-- The same state with more written before it. -/
def addO (o : List Nat) (st : Ws) : Ws := { st with out := o ++ st.out }
theorem wadd_addO (o s : List Nat) (st : Ws) : wadd s (addO o st) = addO o (wadd s st) := by
  unfold wadd wput wind addO
  split
  · rfl
  · dsimp only
    split <;> simp
theorem wfeed_addO (o : List Nat) (i : Nat) (st : Ws) : wfeed i (addO o st) = addO o (wfeed i st) := by simp [wfeed, addO]
theorem wrT_addO (o : List Nat) : ∀ (t : Dt) (l : List Bool) (ind : Nat) (flat : Bool) (st : Ws), wrT t l ind flat (addO o st) = addO o (wrT t l ind flat st)
  | .text s, _, _, _, st => wadd_addO o s st
  | .line s, _, ind, flat, st => by
    simp only [wrT]
    split
    · exact wadd_addO o s st
    · exact wfeed_addO o ind st
  | .hard, _, ind, flat, st => by simp [wrT, wfeed, addO]
  | .seq a b, l, ind, flat, st => by simp only [wrT]; rw [wrT_addO o a, wrT_addO o b]
  | .nest n a, l, ind, flat, st => wrT_addO o a l _ flat st
  | .align a, l, ind, flat, st => wrT_addO o a l _ flat st
  | .group a, l, ind, flat, st => wrT_addO o a l.tail _ _ st
theorem txtN_brk {a b : Dt} {x y : List Bool} (hx : x ∈ nrm a) : txtN (brkT a b) (x ++ y) = txtN a x ++ 10 :: txtN b y := by
  have hl := nrm_len a x hx
  have hw := nrm_wrong a x 0 Ws.init hx
  unfold txtN
  simp only [brkT, wrT, ng, List.drop_zero]
  rw [← hl, List.take_left, List.drop_left]
  have e : wfeed 0 { wrT a x 0 false Ws.init with wrong := (wrT a x 0 false Ws.init).wrong || false } = addO ((wrT a x 0 false Ws.init).out ++ [10]) Ws.init := by
    simp only [wfeed, addO, hw]
    simp [Ws.init]
  rw [e, wrT_addO]
  simp [addO]

/-! ### All flat -/
theorem all_nrm : ∀ (t : Dt) (ind : Nat) (st : Ws), (wrT t (List.replicate (ng t) true) ind false st).wrong = false → List.replicate (ng t) true ∈ nrm t
  | .text _, _, _, _ => by simp [nrm, ng]
  | .line _, _, _, _ => by simp [nrm, ng]
  | .hard, _, _, _ => by simp [nrm, ng]
  | .seq a b, ind, st, h => by
    simp only [wrT, ng, List.take_replicate, List.drop_replicate] at h
    rw [Nat.min_eq_left (by omega), show ng a + ng b - ng a = ng b by omega] at h
    have hb := all_nrm b ind _ h
    have ha : (wrT a (List.replicate (ng a) true) ind false st).wrong = false := by
      cases e : (wrT a (List.replicate (ng a) true) ind false st).wrong with
      | false => rfl
      | true => rw [wrT_wrong_up b _ _ _ _ e] at h; cases h
    have ha := all_nrm a ind st ha
    refine List.mem_flatMap.2 ⟨_, ha, List.mem_map.2 ⟨_, hb, ?_⟩⟩
    rw [List.replicate_append_replicate]; rfl
  | .nest n a, ind, st, h => all_nrm a _ st h
  | .align a, ind, st, h => all_nrm a _ st h
  | .group a, ind, st, h => by
    cases hh : hasHard a with
    | false => simp [nrm, ng, hh]
    | true =>
      simp only [wrT, ng, List.replicate_succ, List.headD_cons, Bool.or_true] at h
      rw [wrT_wrong_hard a _ _ _ hh] at h
      cases h
theorem leC_all : ∀ (l : List Bool), leC (List.replicate l.length true) l
  | [] => leC_refl _
  | b :: l => by
    rw [List.length_cons, List.replicate_succ, leC_cons]
    cases b with
    | true => exact .inl ⟨rfl, leC_all l⟩
    | false => exact .inr ⟨rfl, rfl⟩
theorem costL_none (W : Nat) : ∀ (s : List Nat) (n : Nat), (costL W s n).2 = 0 → 10 ∉ s
  | [], _, _ => by simp
  | x :: s, n, h => by
    simp only [costL] at h
    split at h
    · simp at h
    · rename_i hx
      have := costL_none W s (n + 1) h
      intro hm
      rcases List.mem_cons.1 hm with e | hm
      · exact hx e.symm
      · exact this hm
theorem flat_least {W : Nat} {t : Dt} (ho : noT t) (hW : W ≤ 1000) (h0 : (rndT t (List.replicate (ng t) true)).2 = 0) (hl : (rndT t (List.replicate (ng t) true)).1.length ≤ W) (hc : (costL 1000 (rndT t (List.replicate (ng t) true)).1 0).2 = 0) :
    Least W t (List.replicate (ng t) true) ∧ (runT W t (List.replicate (ng t) true) 0 (0, false)).2 = (0, 0) := by
  have hm : List.replicate (ng t) true ∈ nrm t := by
    unfold rndT at h0
    rw [if_neg (by simp)] at h0
    split at h0
    · simp at h0
    · rename_i hw
      exact all_nrm t 0 Ws.init (by simpa using hw)
  rw [rndT_nrm hm] at hl hc
  dsimp only at hl hc
  have h10 := costL_none _ _ _ hc
  have hz : (runT W t (List.replicate (ng t) true) 0 (0, false)).2 = (0, 0) := by
    rw [← costT_run ho hm]
    unfold costT
    rw [costL_line W h10]
    exact Prod.ext (show (txtN t (List.replicate (ng t) true)).length - W = 0 by omega) rfl
  refine ⟨⟨hm, fun l' hl' => ?_⟩, hz⟩
  rw [leR_iff]
  simp only [resR, hz]
  have hc := leC_all l'
  rw [nrm_len t l' hl'] at hc
  rcases Nat.eq_zero_or_pos (runT W t l' 0 (0, false)).2.1 with h1 | h1
  · rcases Nat.eq_zero_or_pos (runT W t l' 0 (0, false)).2.2 with h2 | h2
    · exact .inr ⟨h1.symm, .inr ⟨h2.symm, hc⟩⟩
    · exact .inr ⟨h1.symm, .inl h2⟩
  · exact .inl h1
end Go.Proofs.Ytbkadgdhmfolaaa
