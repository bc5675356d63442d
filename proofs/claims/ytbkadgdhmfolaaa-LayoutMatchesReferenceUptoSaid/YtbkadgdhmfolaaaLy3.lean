/-
  layout: keep.
  Conditions: none.
-/
import Derived.Test.YtbkadgdhmfolaaaLy2
namespace Go.Proofs.Ytbkadgdhmfolaaa
open Go Go.RowKit

section
variable {α : Type} [DecidableEq α]
def getM (a : α) : List (α × Rs) → Option Rs
  | [] => none
  | (b, r) :: m => if a = b then some r else getM a m
def putM (a : α) (r : Rs) : List (α × Rs) → List (α × Rs)
  | [] => [(a, r)]
  | (b, x) :: m => if a = b then (b, r) :: m else (b, x) :: putM a r m
def toV (m : List (α × Rs)) : List (α × Value) := m.map fun p => (p.1, rsV p.2)
theorem assoc_toV (a : α) : ∀ m, assoc a (toV m) = (getM a m).map rsV
  | [] => rfl
  | (b, r) :: m => by
    simp only [toV, List.map_cons, assoc, getM]
    split
    · rfl
    · exact assoc_toV a m
theorem assocSet_toV (a : α) (r : Rs) : ∀ m, assocSet a (rsV r) (toV m) = toV (putM a r m)
  | [] => rfl
  | (b, x) :: m => by
    simp only [toV, List.map_cons, assocSet, putM]
    split
    · rfl
    · have := assocSet_toV a r m
      simp only [toV] at this
      rw [List.map_cons, ← this]
def kpM (a : α) (r : Rs) (m : List (α × Rs)) : List (α × Rs) := match getM a m with
  | none => putM a r m
  | some o => if lessR r o then putM a r m else m
end

theorem keep_fn (q : Nat) (p : Pl) (r : Rs) (m : List (Pl × Rs)) (w : World) (hm : MapQ plV w q (toV m)) :
    Fn Try.prog 61 [.map (some q), plV p, rsV r, .func (.func 53) #[] #[]] w (fun _ w' => MapQ plV w' q (toV (kpM p r m)) ∧ Mod (· = q) w w') := by
  refine fn_of_exec (c := c61) gx_ok Try.func61 rfl rfl rfl ?_
  refine new (fun w1 hE1 hz1 hB1 => ?_)
  refine new (fun w2 hE2 hz2 hB2 => ?_)
  have hA := hB1.ext hE2
  have hE02 := hE1.trans hE2
  have hq := hm.lt
  refine loadN_blk0 hA rfl ?_
  refine at_lookupQ_ok (kv := plV) (a := p) gx_ok rfl rfl rfl rfl plKey rfl rfl (hm.ext hE02) ?_
  rw [assoc_toV]
  cases hg : getM p m with
  | none =>
    refine new (fun w3 hE3 hz3 hB3 => ?_)
    refine storeN_blk0 hB3 rfl (sc rfl) (fun w4 hg4 _ hB4 => ?_)
    have hE4 := hE02.trans (newBox hE3 hB3 hg4)
    have hE24 := newBox hE3 hB3 hg4
    refine wif_t rfl ?_
    refine loadN_blk0 (hA.ext hE24) rfl ?_
    refine loadN_blk0 (hB2.ext hE24) rfl ?_
    refine at_mapUpdateQ (kv := plV) (a := p) (v := rsV r) gx_ok rfl rfl rfl rfl plKey rfl rfl rfl (hm.ext hE4) (fun w5 hm5 _ hq5 => ?_)
    refine ⟨?_, (Mod.of_ext _ hE4).trans hm5 (fun i hi => .inl hi)⟩
    rw [assocSet_toV] at hq5
    unfold kpM
    rw [hg]
    exact hq5
  | some o =>
    refine new (fun w3 hE3 hz3 hB3 => ?_)
    refine storeN_blk0 hB3 rfl (by simp [scalar]) (fun w4 hg4 _ hB4 => ?_)
    have hE4 := hE02.trans (newBox hE3 hB3 hg4)
    have hE24 := newBox hE3 hB3 hg4
    refine wif_f rfl ?_
    refine loadN_blk0 (hB2.ext hE24) rfl ?_
    refine loadN_blk0 hB4 rfl ?_
    refine call (less_fn r o w4) ?_
    rintro v w5 ⟨rfl, hE5⟩
    have hE25 := hE24.trans hE5
    have hE05 := hE4.trans hE5
    refine wif (fun hl => ?_) (fun hl => ?_)
    · refine loadN_blk0 (hA.ext hE25) rfl ?_
      refine loadN_blk0 (hB2.ext hE25) rfl ?_
      refine at_mapUpdateQ (kv := plV) (a := p) (v := rsV r) gx_ok rfl rfl rfl rfl plKey rfl rfl rfl (hm.ext hE05) (fun w6 hm6 _ hq6 => ?_)
      refine ⟨?_, (Mod.of_ext _ hE05).trans hm6 (fun i hi => .inl hi)⟩
      rw [assocSet_toV] at hq6
      unfold kpM
      rw [hg]
      dsimp only
      rw [if_pos hl]
      exact hq6
    · refine ⟨?_, Mod.of_ext _ hE05⟩
      unfold kpM
      rw [hg]
      dsimp only
      rw [if_neg (by rw [hl]; decide)]
      exact hm.ext hE05
end Go.Proofs.Ytbkadgdhmfolaaa
