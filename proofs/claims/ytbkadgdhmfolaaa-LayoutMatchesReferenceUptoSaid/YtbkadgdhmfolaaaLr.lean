/-
  layout: bounds of the places and costs; lists of results as a map has them.
  Conditions: none.
-/
import Derived.Test.YtbkadgdhmfolaaaLy6
namespace Go.Proofs.Ytbkadgdhmfolaaa
open Go Go.RowKit

/-- The nodes of a tree. -/
def nnT : Dt → Nat
  | .text _ => 1
  | .line _ => 1
  | .hard => 1
  | .seq a b => nnT a + nnT b + 1
  | .nest _ a => nnT a + 1
  | .align a => nnT a + 1
  | .group a => nnT a + 1
theorem ng_nn : ∀ t, ng t ≤ nnT t
  | .text _ => Nat.zero_le _
  | .line _ => Nat.zero_le _
  | .hard => Nat.zero_le _
  | .seq a b => by have := ng_nn a; have := ng_nn b; simp only [ng, nnT]; omega
  | .nest _ a => by have := ng_nn a; simp only [ng, nnT]; omega
  | .align a => by have := ng_nn a; simp only [ng, nnT]; omega
  | .group a => by have := ng_nn a; simp only [ng, nnT]; omega
theorem nnT_N {d : List Nd} (hd : NodesOk d) : ∀ i, i < d.length → (N d i).length = nnT (T d i) := by
  intro i
  induction i using Nat.strongRecOn with
  | _ i ih =>
    intro hi
    have hx : d[i]? = some d[i] := List.getElem?_eq_getElem hi
    generalize d[i] = x at hx
    have hn := hd i x hx
    have har := arI_of (k := x.k)
    have hk := arI_kind hn.1
    rw [N_eq hd hx, T_eq hd hx]
    by_cases k0 : x.k = 0
    · have := har.1 k0
      rw [if_pos k0, if_neg (by omega), if_neg (by omega)]; rfl
    rw [if_neg k0]
    by_cases k1 : x.k = 1
    · have := har.2.1 k1
      rw [if_pos k1, if_neg (by omega), if_neg (by omega)]; rfl
    rw [if_neg k1]
    by_cases k3 : x.k = 3
    · have := har.2.2.2.1 k3
      have ha := (hn.a_lt (by omega)).2
      have hb := (hn.b_lt (by omega)).2
      rw [if_pos k3, if_pos (by omega), if_pos (by omega)]
      simp only [nnT, List.length_cons, List.length_append, ih _ ha (by omega), ih _ hb (by omega)]
    rw [if_neg k3]
    by_cases k4 : x.k = 4
    · have := har.2.2.2.2.1 k4
      have ha := (hn.a_lt (by omega)).2
      rw [if_pos k4, if_pos (by omega), if_neg (by omega)]
      simp only [nnT, List.append_nil, List.length_cons, ih _ ha (by omega)]
    rw [if_neg k4]
    by_cases k5 : x.k = 5
    · have := har.2.2.2.2.2.1 k5
      have ha := (hn.a_lt (by omega)).2
      rw [if_pos k5, if_pos (by omega), if_neg (by omega)]
      simp only [nnT, List.append_nil, List.length_cons, ih _ ha (by omega)]
    rw [if_neg k5]
    by_cases k6 : x.k = 6
    · have := har.2.2.2.2.2.2 k6
      have ha := (hn.a_lt (by omega)).2
      rw [if_pos k6, if_pos (by omega), if_neg (by omega)]
      simp only [nnT, List.append_nil, List.length_cons, ih _ ha (by omega)]
    · have k2 : x.k = 2 := by omega
      have := har.2.2.1 k2
      rw [if_neg k6, if_neg (by omega), if_neg (by omega)]; rfl

theorem runT_lim (W : Nat) : ∀ (t : Dt) (l : List Bool) (ind : Nat) (p : Pl) (M : Nat), ind ≤ M → p.1 ≤ M → M + wtT t ≤ 1000000000000 →
    (runT W t l ind p).1.1 ≤ M + wtT t ∧ cw p + (runT W t l ind p).2.1 ≤ cw (runT W t l ind p).1 + (runT W t l ind p).2.2 * 1000000000000 ∧ (runT W t l ind p).2.2 ≤ nnT t
  | .text s, _, _, p, M, hi, hp, hM => by
    have := plW_lim W p s.length
    simp only [runT, wtT, nnT]
    omega
  | .line s, _, ind, p, M, hi, hp, hM => by
    have := cw_le p
    simp only [runT, wtT, nnT]
    omega
  | .hard, _, ind, p, M, hi, hp, hM => by
    have := cw_le p
    simp only [runT, wtT, nnT]
    omega
  | .seq a b, l, ind, p, M, hi, hp, hM => by
    simp only [wtT] at hM
    have h1 := runT_lim W a (l.take (ng a)) ind p M hi hp (by omega)
    have h2 := runT_lim W b (l.drop (ng a)) ind (runT W a (l.take (ng a)) ind p).1 (M + wtT a) (by omega) h1.1 (by omega)
    simp only [runT, wtT, nnT]
    omega
  | .nest n a, l, ind, p, M, hi, hp, hM => by
    simp only [wtT] at hM
    have := runT_lim W a l (ind + n) p (M + n) (by omega) (by omega) (by omega)
    simp only [runT, wtT, nnT]
    omega
  | .align a, l, ind, p, M, hi, hp, hM => by
    simp only [wtT] at hM
    have := runT_lim W a l p.1 p M (by omega) (by omega) (by omega)
    simp only [runT, wtT, nnT]
    omega
  | .group a, l, ind, p, M, hi, hp, hM => by
    simp only [wtT] at hM
    simp only [runT, wtT, nnT]
    split
    · have := flatP_lim W a p
      dsimp only
      omega
    · have := runT_lim W a l.tail ind p M hi hp (by omega)
      omega

/-- What is known of a best result's numbers. -/
theorem IsBest.lim {W : Nat} {t : Dt} {ind : Nat} {p : Pl} {m : List (Pl × Rs)} (h : IsBest W t ind p m) (hb : ind + wtT t ≤ 1000000000000 ∧ p.1 + wtT t ≤ 1000000000000) {q : Pl} {r : Rs} (hm : (q, r) ∈ m) :
    q.1 ≤ (if ind ≤ p.1 then p.1 else ind) + wtT t ∧ r.b ≤ (nnT t + 1) * 1000000000000 ∧ r.l ≤ nnT t ∧ r.c.length = ng t := by
  obtain ⟨l, hl, rfl, rfl⟩ := h.snd _ _ hm
  have := runT_lim W t l ind p (if ind ≤ p.1 then p.1 else ind) (by split <;> omega) (by split <;> omega) (by split <;> omega)
  have h2 := cw_le (runT W t l ind p).1
  refine ⟨this.1, ?_, this.2.2, nrm_len t l hl⟩
  simp only [resR]
  have h3 : (if ind ≤ p.1 then p.1 else ind) + wtT t ≤ 1000000000000 := by split <;> omega
  omega
theorem IsBest.ne {W : Nat} {t : Dt} {ind : Nat} {p : Pl} {m : List (Pl × Rs)} (h : IsBest W t ind p m) : m ≠ [] := by
  obtain ⟨l, hl⟩ := List.exists_mem_of_ne_nil _ (nrm_ne t)
  obtain ⟨r, hr, _⟩ := h.cpl l hl
  intro e
  rw [e] at hr
  cases hr

theorem toV_split {α : Type} {L : List (α × Rs)} {L1 L2 : List (α × Value)} {p : α × Value} (h : toV L = L1 ++ p :: L2) : ∃ M1 x M2, L = M1 ++ x :: M2 ∧ L1 = toV M1 ∧ p = (x.1, rsV x.2) ∧ L2 = toV M2 := by
  unfold toV at h
  obtain ⟨M1, M', rfl, h1, h2⟩ := List.map_eq_append_iff.1 h
  obtain ⟨x, M2, rfl, h3, h4⟩ := List.map_eq_cons_iff.1 h2
  exact ⟨M1, x, M2, rfl, h1.symm, h3.symm, h4.symm⟩
theorem toV_nil {α : Type} {L : List (α × Rs)} (h : toV L = []) : L = [] := List.map_eq_nil_iff.1 h
theorem toV_app {α : Type} (L M : List (α × Rs)) : toV L ++ toV M = toV (L ++ M) := by simp [toV]

theorem MapQ.ne {α : Type} {kv : α → Value} {w : World} {q r : Nat} {m m' : List (α × Value)} (h : MapQ kv w q m) (h' : MapQ kv w r m') (hl : m.length ≠ m'.length) : q ≠ r := by
  intro e
  subst e
  obtain ⟨bs, ck, h1, _, _, h2⟩ := h.ex
  obtain ⟨bs', ck', h3, _, _, h4⟩ := h'.ex
  rw [h2] at h4
  simp only [Option.some.injEq, Obj.map.injEq] at h4
  have := congrArg Array.size h4.1
  simp [entsOf, h1, h3] at this
  omega

theorem repeat_zero (n : Nat) (w : World) (hn : n ≤ 140737488355328) : Fn Try.prog 63 [.string ⟨#[0]⟩, .int .i64 n] w (fun v w' => v = .string (strOf (List.replicate n 0)) ∧ Ext w w') := by
  refine (fn_of_calls (Try.strings_Repeat ⟨#[0]⟩ n w (by omega) (by show 1 * n ≤ _; omega))).mono ?_
  rintro v w' ⟨rfl, hb⟩
  refine ⟨?_, Ext.of_below hb⟩
  congr 1
  apply ByteArray.ext
  apply Array.ext'
  have : ∀ n, Lib.repeatL ([0] : List UInt8) n = (List.replicate n 0).map UInt8.ofNat := by
    intro n
    induction n with
    | zero => rfl
    | succ n ih => simp [Lib.repeatL, List.replicate_succ] at ih ⊢; exact ih
  simpa [strOf] using this n
theorem chB_rep (n : Nat) : chB (List.replicate n true) = List.replicate n 0 := by simp [chB]
theorem chB_app (a b : List Bool) : chB (a ++ b) = chB a ++ chB b := by simp [chB]
theorem chB_len (a : List Bool) : (chB a).length = a.length := by simp [chB]
theorem Sl.row_lt {w : World} {sz n c : Nat} {A : Option Addr} {cs : List Value} (h : Sl w sz A n c cs) (hn : 0 < n) (h0 : 0 < cs.length) : ∀ k, rowS A k → k < w.heap.size := by
  rintro k ⟨ad, rfl, rfl⟩
  obtain ⟨ad', e, hc⟩ := h.at_ hn
  cases e
  have := World.block_lt_of_cell? w _ (hc 0 cs[0] (List.getElem?_eq_getElem h0))
  unfold Addr.add at this
  split at this <;> exact this
theorem preR_v (r : Rs) : Value.agg #[.int .i64 r.b, .int .i64 r.l, .string (⟨#[1]⟩ ++ strOf (chB r.c))] = rsV (preR r) := by
  unfold rsV preR
  have e : (⟨#[1]⟩ : ByteArray) = strOf [1] := rfl
  rw [e, strOf_append]; rfl
theorem addR_v (r s : Rs) : Value.agg #[.int .i64 ((r.b + s.b : Nat) : Int), .int .i64 ((r.l + s.l : Nat) : Int), .string (strOf (chB r.c) ++ strOf (chB s.c))] = rsV (addR r s) := by
  unfold rsV addR
  rw [strOf_append, ← chB_app]
theorem flat_v (b k : Nat) : Value.agg #[.int .i64 (b : Int), .int .i64 0, .string (strOf (List.replicate k 0))] = rsV ⟨b, 0, List.replicate k true⟩ := by
  unfold rsV
  rw [chB_rep]; rfl
theorem keys_apart {dn L m : List (Pl × Rs)} {x : Pl × Rs} (h : (dn ++ x :: L).Perm m) (hn : (m.map (·.1)).Nodup) : ∀ r, (x.1, r) ∉ dn := fun r hr => by
  have h1 := (h.map (·.1)).nodup_iff.2 hn
  rw [List.map_append, List.nodup_append] at h1
  exact h1.2.2 x.1 (List.mem_map.2 ⟨_, hr, rfl⟩) x.1 (by simp) rfl
theorem perm_shift {α : Type} {dn M1 M2 m : List α} {x : α} (h : (dn ++ (M1 ++ x :: M2)).Perm m) : (dn ++ x :: (M1 ++ M2)).Perm m ∧ ((x :: dn) ++ (M1 ++ M2)).Perm m := by
  have h1 : (dn ++ x :: (M1 ++ M2)).Perm m := ((List.Perm.append_left dn List.perm_middle).symm).trans h
  exact ⟨h1, (List.perm_middle.symm).trans h1⟩
end Go.Proofs.Ytbkadgdhmfolaaa
