/-
  Tables of sets; sets over few conditions depend on these alone; printing is injective.
  Conditions: none.
-/
import Derived.Test.YtedopgkbajhanaaGreatDoorLm
import Derived.Test.YtedopgkbajhanaaGreatDoorDg
namespace Go.Proofs.YtedopgkbajhanaaGreatDoor
open Go Go.RowKit

/-- Is this configuration in the table? -/
def bitT (l : List Nat) (k : Nat) : Bool := decide (k / 8 < l.length) && decide ((l[k / 8]?.getD 0) / 2 ^ (k % 8) % 2 = 1)
/-- The set of a table: the conditions from v on are still to come (d of them), those before say k. -/
def tabF (l : List Nat) : Nat → Nat → Nat → (Nat → Bool) → Bool
  | 0, _, k, _ => bitT l k
  | d + 1, v, k, e => if e v then tabF l d (v + 1) (k + 2 ^ v) e else tabF l d (v + 1) k e

/-- A number depends on the conditions below the bound alone. -/
theorem ev_ext {nd : List Br} (hw : WfB nd) {k : Nat} (hk : VIn k nd) (h0 : ∀ b ∈ nd, 0 ≤ b.v) {e e' : Nat → Bool} (h : ∀ i, i < k → e i = e' i) : ∀ (m : Nat) (n : Int), n.toNat < m → n < nd.length + 2 → ev nd n e = ev nd n e'
  | 0, n, hm, _ => by omega
  | m + 1, n, hm, hn => by
    by_cases h2 : n < 2
    · rw [ev_lt h2, ev_lt h2]
    obtain ⟨b, hb⟩ := getE h2 hn
    obtain ⟨b3, b4, b5, b6⟩ := hw _ _ hb
    have hbm := List.mem_of_getElem? hb
    have hv := hk b hbm
    have hv0 := h0 b hbm
    rw [ev_ge hw h2 hb, ev_ge hw h2 hb, ev_ext hw hk h0 h m b.h (by omega) (by omega), ev_ext hw hk h0 h m b.l (by omega) (by omega), h b.v.toNat (by omega)]
theorem Set1.ext {k : Nat} {nd : List Br} {r : Int} {o : (Nat → Bool) → Bool} (hS : Set1 k nd r o) {e e' : Nat → Bool} (h : ∀ i, i < k → e i = e' i) : o e = o e' := by
  rw [← hS.mean e, ← hS.mean e']
  refine ev_ext hS.vd.wf hS.vin (fun b hb => ?_) h (r.toNat + 1) r (by omega) hS.vd.2.2.1
  obtain ⟨j, hj, rfl⟩ := List.mem_iff_getElem.1 hb
  exact (hS.vd.1 j _ (List.getElem?_eq_getElem hj)).1

/-- A configuration with these first six conditions. -/
def cfg6 (e : Nat → Bool) : Nat := (if e 0 then 1 else 0) + (if e 1 then 2 else 0) + (if e 2 then 4 else 0) + (if e 3 then 8 else 0) + (if e 4 then 16 else 0) + (if e 5 then 32 else 0)
theorem cfg6_lt (e : Nat → Bool) : cfg6 e < 64 := by
  unfold cfg6
  repeat' split
  all_goals omega
theorem cfg6_bit (e : Nat → Bool) : ∀ i, i < 6 → bitE (cfg6 e) i = e i := by
  intro i hi
  have key : ∀ a b c d f g : Bool, ∀ i, i < 6 → decide (((if a then 1 else 0) + (if b then 2 else 0) + (if c then 4 else 0) + (if d then 8 else 0) + (if f then 16 else 0) + (if g then 32 else 0)) / 2 ^ i % 2 = 1) = (if i = 0 then a else if i = 1 then b else if i = 2 then c else if i = 3 then d else if i = 4 then f else g) := by decide
  have h := key (e 0) (e 1) (e 2) (e 3) (e 4) (e 5) i hi
  unfold bitE cfg6
  rw [h]
  rcases (show i = 0 ∨ i = 1 ∨ i = 2 ∨ i = 3 ∨ i = 4 ∨ i = 5 by omega) with rfl | rfl | rfl | rfl | rfl | rfl <;> rfl
/-- Sets over six conditions that hold in the same 64 configurations are the same. -/
theorem Set1.by64 {k k' : Nat} {nd nd' : List Br} {r r' : Int} {o o' : (Nat → Bool) → Bool} (h : Set1 k nd r o) (h' : Set1 k' nd' r' o') (hk : k ≤ 6) (hk' : k' ≤ 6) (hall : ∀ c, c < 64 → o (bitE c) = o' (bitE c)) : (nd, r) = (nd', r') :=
  h.unique h' (fun e => by
    rw [h.ext (e' := bitE (cfg6 e)) (fun i hi => (cfg6_bit e i (by omega)).symm), h'.ext (e' := bitE (cfg6 e)) (fun i hi => (cfg6_bit e i (by omega)).symm)]
    exact hall _ (cfg6_lt e))

theorem Set1.cf_in {k : Nat} {nd : List Br} {r : Int} {o : (Nat → Bool) → Bool} (h : Set1 k nd r o) : VarsIn k (cf nd r) :=
  cfT_vars (fun b hb => by have := h.vin b hb; obtain ⟨j, hj, e⟩ := List.mem_iff_getElem.1 hb; have h0 := (h.vd.1 j b (by rw [← e]; exact List.getElem?_eq_getElem hj)).1; omega) _ _
theorem print_inj {nm : List (List Nat)} (hn : numsOk nm = true) (hi : NmOk nm (ixN nm)) {t t' : Fm} (hv : VarsIn nm.length t) (hv' : VarsIn nm.length t') (hs : szF t ≤ 512) (hs' : szF t' ≤ 512) (h : prF nm 0 t = prF nm 0 t') : t = t' := by
  have h1 := parse_print hn hi t hv hs
  have h2 := parse_print hn hi t' hv' hs'
  rw [h, h2] at h1
  have h3 : postF t' 0 = postF t 0 := congrArg Prod.fst h1
  rw [← treeOf_post t, ← treeOf_post t', h3]
end Go.Proofs.YtedopgkbajhanaaGreatDoor
