/-
  Documents that stand for trees; rendering as a function of the tree and the list of flags in preorder.
  Conditions: none.
-/
import Derived.Test.YtbkadgdhmfolaaaCost
namespace Go.Proofs.Ytbkadgdhmfolaaa
open Go Go.RowKit

/-! ### Trees -/
def ng : Dt → Nat
  | .text _ => 0
  | .line _ => 0
  | .hard => 0
  | .seq a b => ng a + ng b
  | .nest _ a => ng a
  | .align a => ng a
  | .group a => ng a + 1
def hasHard : Dt → Bool
  | .text _ => false
  | .line _ => false
  | .hard => true
  | .seq a b => hasHard a || hasHard b
  | .nest _ a => hasHard a
  | .align a => hasHard a
  | .group a => hasHard a
def hasAlign : Dt → Bool
  | .text _ => false
  | .line _ => false
  | .hard => false
  | .seq a b => hasAlign a || hasAlign b
  | .nest _ a => hasAlign a
  | .align _ => true
  | .group a => hasAlign a
def hards : Dt → List Bool
  | .text _ => []
  | .line _ => []
  | .hard => []
  | .seq a b => hards a ++ hards b
  | .nest _ a => hards a
  | .align a => hards a
  | .group a => hasHard a :: hards a
theorem hards_len : ∀ t, (hards t).length = ng t
  | .text _ => rfl
  | .line _ => rfl
  | .hard => rfl
  | .seq a b => by simp [hards, ng, hards_len a, hards_len b]
  | .nest _ a => hards_len a
  | .align a => hards_len a
  | .group a => by simp [hards, ng, hards_len a]

def wrT : Dt → List Bool → Nat → Bool → Ws → Ws
  | .text s, _, _, _, st => wadd s st
  | .line s, _, ind, flat, st => if flat = true then wadd s st else wfeed ind st
  | .hard, _, ind, flat, st => wfeed ind { st with wrong := st.wrong || flat }
  | .seq a b, l, ind, flat, st => wrT b (l.drop (ng a)) ind flat (wrT a (l.take (ng a)) ind flat st)
  | .nest n a, l, ind, flat, st => wrT a l (ind + n) flat st
  | .align a, l, _, flat, st => wrT a l (if st.col = 0 then st.pend else st.col) flat st
  | .group a, l, ind, flat, st => wrT a l.tail ind (flat || l.headD false) st

def rndT (t : Dt) (flat : List Bool) : List Nat × Int :=
  if flat.length ≠ ng t then ([], 1) else if (wrT t flat 0 false Ws.init).wrong = true then ([], 1) else ((wrT t flat 0 false Ws.init).out, 0)

/-- The choice that the reference makes of some flags: none for what holds a hard line break. -/
def chooseL (flags : List Bool) : List Bool → Nat → List Bool
  | [], _ => []
  | h :: l, k => (flags[k]?.getD false && !h) :: chooseL flags l (k + 1)
def choose (flags : List Bool) (t : Dt) : List Bool := chooseL flags (hards t) 0
theorem chooseL_len (flags : List Bool) : ∀ (l : List Bool) (k : Nat), (chooseL flags l k).length = l.length
  | [], _ => rfl
  | h :: l, k => by simp [chooseL, chooseL_len flags l (k + 1)]
theorem choose_len (flags : List Bool) (t : Dt) : (choose flags t).length = ng t := by rw [choose, chooseL_len, hards_len]

section
variable {d : List Nd} (hd : NodesOk d)
include hd

theorem G_ng : ∀ (i : Nat), (G d i).length = ng (T d i) := by
  intro i
  induction i using Nat.strongRecOn with
  | _ i ih =>
    cases hx : d[i]? with
    | none =>
      have h1 : G d i = [] := by unfold G ids; simp [hx]
      have h2 : T d i = .hard := by unfold T tre; simp [hx]
      rw [h1, h2]; rfl
    | some x =>
      have hn := hd i x hx
      have har := arI_of (k := x.k)
      have hk := arI_kind hn.1
      rw [G_eq hd hx, T_eq hd hx]
      by_cases k0 : x.k = 0
      · have := har.1 k0
        rw [if_pos k0, if_neg (by omega), if_neg (by omega), if_neg (by omega)]; rfl
      rw [if_neg k0]
      by_cases k1 : x.k = 1
      · have := har.2.1 k1
        rw [if_pos k1, if_neg (by omega), if_neg (by omega), if_neg (by omega)]; rfl
      rw [if_neg k1]
      by_cases k3 : x.k = 3
      · have := har.2.2.2.1 k3
        rw [if_pos k3, if_neg (by omega), if_pos (by omega), if_pos (by omega)]
        simp [ng, ih _ (hn.a_lt (by omega)).2, ih _ (hn.b_lt (by omega)).2]
      rw [if_neg k3]
      by_cases k4 : x.k = 4
      · have := har.2.2.2.2.1 k4
        rw [if_pos k4, if_neg (by omega), if_pos (by omega), if_neg (by omega)]
        simp [ng, ih _ (hn.a_lt (by omega)).2]
      rw [if_neg k4]
      by_cases k5 : x.k = 5
      · have := har.2.2.2.2.2.1 k5
        rw [if_pos k5, if_neg (by omega), if_pos (by omega), if_neg (by omega)]
        simp [ng, ih _ (hn.a_lt (by omega)).2]
      rw [if_neg k5]
      by_cases k6 : x.k = 6
      · have := har.2.2.2.2.2.2 k6
        rw [if_pos k6, if_pos k6, if_pos (by omega), if_neg (by omega)]
        simp [ng, ih _ (hn.a_lt (by omega)).2]
      · have k2 : x.k = 2 := by omega
        have := har.2.2.1 k2
        rw [if_neg k6, if_neg k6, if_neg (by omega), if_neg (by omega)]; rfl

theorem wr_wrT (f : Nat → Bool) : ∀ (i : Nat) (ind : Nat) (flat : Bool) (st : Ws), wr (FT d f i) ind flat st = wrT (T d i) ((G d i).map f) ind flat st := by
  intro i
  induction i using Nat.strongRecOn with
  | _ i ih =>
    intro ind flat st
    cases hx : d[i]? with
    | none =>
      have h1 : FT d f i = .hard := by unfold FT ftr; simp [hx]
      have h2 : T d i = .hard := by unfold T tre; simp [hx]
      rw [h1, h2]; rfl
    | some x =>
      have hn := hd i x hx
      have har := arI_of (k := x.k)
      have hk := arI_kind hn.1
      rw [G_eq hd hx, T_eq hd hx, FT_eq hd f hx]
      by_cases k0 : x.k = 0
      · rw [if_pos k0, if_pos k0]; rfl
      rw [if_neg k0, if_neg k0]
      by_cases k1 : x.k = 1
      · rw [if_pos k1, if_pos k1]; rfl
      rw [if_neg k1, if_neg k1]
      by_cases k3 : x.k = 3
      · have := har.2.2.2.1 k3
        rw [if_pos k3, if_pos k3, if_neg (by omega), if_pos (by omega), if_pos (by omega)]
        have hl : ((G d x.a.toNat).map f).length = ng (T d x.a.toNat) := by rw [List.length_map, G_ng hd]
        simp only [wr, wrT, List.nil_append, List.map_append]
        rw [← hl, List.take_left, List.drop_left, ih _ (hn.a_lt (by omega)).2, ih _ (hn.b_lt (by omega)).2]
      rw [if_neg k3, if_neg k3]
      by_cases k4 : x.k = 4
      · have := har.2.2.2.2.1 k4
        rw [if_pos k4, if_pos k4, if_neg (by omega), if_pos (by omega), if_neg (by omega)]
        simp only [wr, wrT, List.nil_append, List.append_nil, ih _ (hn.a_lt (by omega)).2]
      rw [if_neg k4, if_neg k4]
      by_cases k5 : x.k = 5
      · have := har.2.2.2.2.2.1 k5
        rw [if_pos k5, if_pos k5, if_neg (by omega), if_pos (by omega), if_neg (by omega)]
        simp only [wr, wrT, List.nil_append, List.append_nil, ih _ (hn.a_lt (by omega)).2]
      rw [if_neg k5, if_neg k5]
      by_cases k6 : x.k = 6
      · have := har.2.2.2.2.2.2 k6
        rw [if_pos k6, if_pos k6, if_pos k6, if_pos (by omega), if_neg (by omega)]
        simp only [wr, wrT, List.append_nil, List.map_cons, List.cons_append, List.nil_append, List.tail_cons, List.headD_cons, ih _ (hn.a_lt (by omega)).2]
      · rw [if_neg k6, if_neg k6]; rfl

theorem G_hards : ∀ (i : Nat), (G d i).map (fun j => hasHard (T d j)) = hards (T d i) := by
  intro i
  induction i using Nat.strongRecOn with
  | _ i ih =>
    cases hx : d[i]? with
    | none =>
      have h1 : G d i = [] := by unfold G ids; simp [hx]
      have h2 : T d i = .hard := by unfold T tre; simp [hx]
      rw [h1, h2]; rfl
    | some x =>
      have hn := hd i x hx
      have har := arI_of (k := x.k)
      have hk := arI_kind hn.1
      have hT := T_eq hd hx
      rw [G_eq hd hx]
      by_cases k0 : x.k = 0
      · have := har.1 k0
        rw [if_pos k0] at hT
        rw [hT, if_neg (by omega), if_neg (by omega), if_neg (by omega)]; rfl
      rw [if_neg k0] at hT
      by_cases k1 : x.k = 1
      · have := har.2.1 k1
        rw [if_pos k1] at hT
        rw [hT, if_neg (by omega), if_neg (by omega), if_neg (by omega)]; rfl
      rw [if_neg k1] at hT
      by_cases k3 : x.k = 3
      · have := har.2.2.2.1 k3
        rw [if_pos k3] at hT
        rw [hT, if_neg (by omega), if_pos (by omega), if_pos (by omega)]
        simp only [hards, List.nil_append, List.map_append, ih _ (hn.a_lt (by omega)).2, ih _ (hn.b_lt (by omega)).2]
      rw [if_neg k3] at hT
      by_cases k4 : x.k = 4
      · have := har.2.2.2.2.1 k4
        rw [if_pos k4] at hT
        rw [hT, if_neg (by omega), if_pos (by omega), if_neg (by omega)]
        simp only [hards, List.nil_append, List.append_nil, ih _ (hn.a_lt (by omega)).2]
      rw [if_neg k4] at hT
      by_cases k5 : x.k = 5
      · have := har.2.2.2.2.2.1 k5
        rw [if_pos k5] at hT
        rw [hT, if_neg (by omega), if_pos (by omega), if_neg (by omega)]
        simp only [hards, List.nil_append, List.append_nil, ih _ (hn.a_lt (by omega)).2]
      rw [if_neg k5] at hT
      by_cases k6 : x.k = 6
      · have := har.2.2.2.2.2.2 k6
        rw [if_pos k6] at hT
        rw [if_pos k6, if_pos (by omega), if_neg (by omega)]
        simp only [List.append_nil, List.map_cons, List.cons_append, List.nil_append, ih _ (hn.a_lt (by omega)).2]
        rw [hT]; rfl
      · have k2 : x.k = 2 := by omega
        have := har.2.2.1 k2
        rw [if_neg k6] at hT
        rw [hT, if_neg (by omega), if_neg (by omega), if_neg (by omega)]; rfl
end

theorem chF_zip : ∀ (G : List Nat) (flat : List Bool), G.Nodup → G.length = flat.length → G.map (chF (G.zip flat)) = flat
  | [], [], _, _ => rfl
  | [], _ :: _, _, h => by simp at h
  | _ :: _, [], _, h => by simp at h
  | g :: G, b :: flat, hn, hl => by
    rw [List.nodup_cons] at hn
    have ih := chF_zip G flat hn.2 (by simpa using hl)
    have h2 : G.map (chF ((g :: G).zip (b :: flat))) = G.map (chF (G.zip flat)) := List.map_congr_left (fun x hx => by
      simp only [List.zip_cons_cons, chF]
      rw [if_neg (fun (e : x = g) => hn.1 (e ▸ hx))])
    rw [List.map_cons, h2, ih]
    simp [chF]

/-- The document stands for the tree. -/
structure Rep (d : List Nd) (t : Dt) : Prop where
  valid : Valid d
  txt : TxtOk d
  tree : T d (d.length - 1) = t
  hard : (∃ x ∈ d, x.k = 2) ↔ hasHard t = true
  align : (∃ x ∈ d, x.k = 5) ↔ hasAlign t = true

theorem Rep.rnd {d : List Nd} {t : Dt} (h : Rep d t) (flat : List Bool) : rnd d flat = rndT t flat := by
  have hv := h.valid
  have hg : (grp d).length = ng t := by rw [grp_ok hv, G_ng hv.ok, h.tree]
  unfold Go.Proofs.Ytbkadgdhmfolaaa.rnd rndT
  rw [if_neg (by rw [chk_ok hv]; decide), hg]
  by_cases hl : flat.length = ng t
  · rw [if_neg (show ¬ (flat.length ≠ ng t) from fun hh => hh hl)]
    have hst : rst d flat = wrT t flat 0 false Ws.init := by
      unfold rst
      rw [wr_wrT hv.ok, h.tree]
      congr 1
      rw [← grp_ok hv]
      exact chF_zip _ _ (by rw [grp_ok hv]; exact G_nodup hv _) (by omega)
    rw [hst, if_neg (show ¬ (flat.length ≠ ng t) from fun hh => hh hl)]
  · rw [if_pos hl, if_pos hl]
end Go.Proofs.Ytbkadgdhmfolaaa
