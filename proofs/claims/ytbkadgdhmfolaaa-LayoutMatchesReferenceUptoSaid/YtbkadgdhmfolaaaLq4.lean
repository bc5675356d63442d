/-
  Normal choices and texts.
  Conditions: none.
-/
import Derived.Test.YtbkadgdhmfolaaaLy9
namespace Go.Proofs.Ytbkadgdhmfolaaa
open Go Go.RowKit

theorem nrm_wrong : ∀ (t : Dt) (l : List Bool) (ind : Nat) (st : Ws), l ∈ nrm t → (wrT t l ind false st).wrong = st.wrong
  | .text s, _, _, st, _ => wadd_wrong s st
  | .line s, _, ind, st, _ => rfl
  | .hard, _, ind, st, _ => by simp [wrT, wfeed]
  | .seq a b, l, ind, st, h => by
    simp only [nrm, List.mem_flatMap, List.mem_map] at h
    obtain ⟨x, hx, y, hy, rfl⟩ := h
    have hl := nrm_len a x hx
    simp only [wrT]
    rw [← hl, List.take_left, List.drop_left, nrm_wrong b y ind _ hy, nrm_wrong a x ind _ hx]
  | .nest n a, l, ind, st, h => nrm_wrong a l _ st h
  | .align a, l, ind, st, h => nrm_wrong a l _ st h
  | .group a, l, ind, st, h => by
    simp only [nrm, List.mem_append, List.mem_map] at h
    rcases h with h | ⟨x, hx, rfl⟩
    · split at h
      · simp at h
      · rename_i hh
        simp at h
        subst h
        exact wrT_flat_wrong a _ ind st (by simpa using hh)
    · exact nrm_wrong a x ind st hx

/-- The text of a normal choice. -/
def txtN (t : Dt) (l : List Bool) : List Nat := (wrT t l 0 false Ws.init).out
theorem rndT_nrm {t : Dt} {l : List Bool} (h : l ∈ nrm t) : rndT t l = (txtN t l, 0) := by
  unfold rndT
  rw [if_neg (by rw [nrm_len t l h]; simp), nrm_wrong t l 0 _ h]
  rfl
theorem AtP.init : AtP Ws.init (0, false) := ⟨rfl, rfl, rfl⟩
theorem cost_nrm (W : Nat) {t : Dt} {l : List Bool} (ho : noT t) (h : l ∈ nrm t) : costL W (txtN t l) 0 = ((runT W t l 0 (0, false)).2.1, (runT W t l 0 (0, false)).2.2) := by
  have := (AtP.run (W := W) t l 0 Ws.init (0, false) AtP.init ho h).2
  unfold costW at this
  unfold txtN
  rw [this]
  simp [Ws.init, costL]

theorem rnd_T {d : List Nd} (hv : Valid d) (flat : List Bool) : rnd d flat = rndT (T d (d.length - 1)) flat := by
  have hg : (grp d).length = ng (T d (d.length - 1)) := by rw [grp_ok hv, G_ng hv.ok]
  unfold Go.Proofs.Ytbkadgdhmfolaaa.rnd rndT
  rw [if_neg (by rw [chk_ok hv]; decide), hg]
  by_cases hl : flat.length = ng (T d (d.length - 1))
  · rw [if_neg (show ¬ (flat.length ≠ ng (T d (d.length - 1))) from fun hh => hh hl)]
    have hst : rst d flat = wrT (T d (d.length - 1)) flat 0 false Ws.init := by
      unfold rst
      rw [wr_wrT hv.ok]
      congr 1
      rw [← grp_ok hv]
      exact chF_zip _ _ (by rw [grp_ok hv]; exact G_nodup hv _) (by omega)
    rw [hst, if_neg (show ¬ (flat.length ≠ ng (T d (d.length - 1))) from fun hh => hh hl)]
  · rw [if_pos hl, if_pos hl]

theorem noT_T {d : List Nd} (hd : NodesOk d) : ∀ i, noT (T d i) := by
  intro i
  induction i using Nat.strongRecOn with
  | _ i ih =>
    cases hx : d[i]? with
    | none =>
      have h2 : T d i = .hard := by unfold T tre; simp [hx]
      rw [h2]; trivial
    | some x =>
      have hn := hd i x hx
      have har := arI_of (k := x.k)
      have h10 := hn.2.1.2.1
      rw [T_eq hd hx]
      split
      · exact h10
      split
      · exact h10
      split
      · rename_i k3
        have := har.2.2.2.1 k3
        exact ⟨ih _ (hn.a_lt (by omega)).2, ih _ (hn.b_lt (by omega)).2⟩
      split
      · rename_i k4
        have := har.2.2.2.2.1 k4
        exact ih _ (hn.a_lt (by omega)).2
      split
      · rename_i k5
        have := har.2.2.2.2.2.1 k5
        exact ih _ (hn.a_lt (by omega)).2
      split
      · rename_i k6
        have := har.2.2.2.2.2.2 k6
        exact ih _ (hn.a_lt (by omega)).2
      · trivial
theorem nnT_pos : ∀ t, 1 ≤ nnT t
  | .text _ => Nat.le_refl _
  | .line _ => Nat.le_refl _
  | .hard => Nat.le_refl _
  | .seq a b => by simp only [nnT]; omega
  | .nest _ a => by simp only [nnT]; omega
  | .align a => by simp only [nnT]; omega
  | .group a => by simp only [nnT]; omega
theorem wtT_T {d : List Nd} (hd : NodesOk d) (ht : TxtOk d) : ∀ i, wtT (T d i) ≤ 10000 * nnT (T d i) := by
  intro i
  induction i using Nat.strongRecOn with
  | _ i ih =>
    cases hx : d[i]? with
    | none =>
      have h2 : T d i = .hard := by unfold T tre; simp [hx]
      rw [h2]; exact Nat.zero_le _
    | some x =>
      have hn := hd i x hx
      have har := arI_of (k := x.k)
      have hs := ht x (List.mem_of_getElem? hx)
      have hn2 := hn.2.1.2.2.2
      rw [T_eq hd hx]
      split
      · simp only [wtT, nnT, bytesOf_length]; omega
      split
      · simp only [wtT, nnT, bytesOf_length]; omega
      split
      · rename_i k3
        have := har.2.2.2.1 k3
        have h1 := ih _ (hn.a_lt (by omega)).2
        have h2 := ih _ (hn.b_lt (by omega)).2
        simp only [wtT, nnT]; omega
      split
      · rename_i k4
        have := har.2.2.2.2.1 k4
        have h1 := ih _ (hn.a_lt (by omega)).2
        simp only [wtT, nnT]; omega
      split
      · rename_i k5
        have := har.2.2.2.2.2.1 k5
        have h1 := ih _ (hn.a_lt (by omega)).2
        simp only [wtT, nnT]; omega
      split
      · rename_i k6
        have := har.2.2.2.2.2.2 k6
        have h1 := ih _ (hn.a_lt (by omega)).2
        simp only [wtT, nnT]; omega
      · exact Nat.zero_le _
theorem wtT_lim {d : List Nd} (ht : TxtOk d) (hv : Valid d) : wtT (T d (d.length - 1)) ≤ 1000000000000 := by
  have h1 := wtT_T hv.ok ht (d.length - 1)
  have h2 := nnT_N hv.ok (d.length - 1) (by have := hv.2.1; omega)
  have h3 := N_len hv (d.length - 1)
  have := hv.1
  have := hv.2.1
  omega
end Go.Proofs.Ytbkadgdhmfolaaa
