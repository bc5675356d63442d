/-
  layout: keep for the one key true; flat.
  Conditions: none.
-/
import Derived.Test.YtbkadgdhmfolaaaLy3
namespace Go.Proofs.Ytbkadgdhmfolaaa
open Go Go.RowKit

theorem KeyQ.plain {α : Type} [DecidableEq α] {P : Program} {ke : Nat} {d : TypeDesc} {kv : α → Value} (hu : P.underlying ke = some d) (hk : KeyV d kv) : KeyQ P ke kv := by
  refine ⟨fun a m bs w hl => ?_, fun b a w => run_checkKey_plain hu hk.plain b 9999 _ w, fun a => hk.bits a 10000⟩
  obtain ⟨r, h1, h2, h3, h4⟩ := findNow_ents hk a m bs 0 hl
  refine ⟨r, ?_, h2, fun j v hj v' => by simpa using (h3 j v hj).2.2 v', h4⟩
  simp [Instr.findKey, run_underlying hu, h1]

theorem boolKey : KeyQ Try.prog 4 (fun b : Bool => Value.bool b) := KeyQ.plain Try.underlying4 KeyV.bool

theorem keepB_fn (q : Nat) (p : Bool) (r : Rs) (m : List (Bool × Rs)) (w : World) (hm : MapQ (fun b : Bool => Value.bool b) w q (toV m)) :
    Fn Try.prog 52 [.map (some q), .bool p, rsV r, .func (.func 53) #[] #[]] w (fun _ w' => MapQ (fun b : Bool => Value.bool b) w' q (toV (kpM p r m)) ∧ Mod (· = q) w w') := by
  refine fn_of_exec (c := c52) gx_ok Try.func52 rfl rfl rfl ?_
  refine new (fun w2 hE2 hz2 hB2 => ?_)
  have hq := hm.lt
  refine at_lookupQ_ok (kv := fun b : Bool => Value.bool b) (a := p) gx_ok rfl rfl rfl rfl boolKey rfl rfl (hm.ext hE2) ?_
  rw [assoc_toV]
  cases hg : getM p m with
  | none =>
    refine new (fun w3 hE3 hz3 hB3 => ?_)
    refine storeN_blk0 hB3 rfl (sc rfl) (fun w4 hg4 _ hB4 => ?_)
    have hE24 := newBox hE3 hB3 hg4
    have hE4 := hE2.trans hE24
    refine wif_t rfl ?_
    refine loadN_blk0 (hB2.ext hE24) rfl ?_
    refine at_mapUpdateQ (kv := fun b : Bool => Value.bool b) (a := p) (v := rsV r) gx_ok rfl rfl rfl rfl boolKey rfl rfl rfl (hm.ext hE4) (fun w5 hm5 _ hq5 => ?_)
    refine ⟨?_, (Mod.of_ext _ hE4).trans hm5 (fun i hi => .inl hi)⟩
    rw [assocSet_toV] at hq5
    unfold kpM
    rw [hg]
    exact hq5
  | some o =>
    refine new (fun w3 hE3 hz3 hB3 => ?_)
    refine storeN_blk0 hB3 rfl (by simp [scalar]) (fun w4 hg4 _ hB4 => ?_)
    have hE24 := newBox hE3 hB3 hg4
    have hE4 := hE2.trans hE24
    refine wif_f rfl ?_
    refine loadN_blk0 (hB2.ext hE24) rfl ?_
    refine loadN_blk0 hB4 rfl ?_
    refine call (less_fn r o w4) ?_
    rintro v w5 ⟨rfl, hE5⟩
    have hE25 := hE24.trans hE5
    have hE05 := hE4.trans hE5
    refine wif (fun hl => ?_) (fun hl => ?_)
    · refine loadN_blk0 (hB2.ext hE25) rfl ?_
      refine at_mapUpdateQ (kv := fun b : Bool => Value.bool b) (a := p) (v := rsV r) gx_ok rfl rfl rfl rfl boolKey rfl rfl rfl (hm.ext hE05) (fun w6 hm6 _ hq6 => ?_)
      refine ⟨?_, (Mod.of_ext _ hE05).trans hm6 (fun i hi => .inl hi)⟩
      rw [assocSet_toV] at hq6
      unfold kpM
      rw [hg]
      dsimp only
      rw [if_pos hl]
      exact hq6
    · refine ⟨?_, Mod.of_ext _ hE05⟩
      unfold kpM
      rw [hg]
      dsimp only
      rw [if_neg (by rw [hl]; decide)]
      exact hm.ext hE05

/-- The place behind a flat node, and the bytes beyond the width that it adds. -/
def flatP (W : Nat) : Dt → Pl → Pl × Nat
  | .text s, p => plW W p s.length
  | .line s, p => plW W p s.length
  | .hard, p => (p, 0)
  | .seq a b, p => ((flatP W b (flatP W a p).1).1, (flatP W a p).2 + (flatP W b (flatP W a p).1).2)
  | .nest _ a, p => flatP W a p
  | .align a, p => flatP W a p
  | .group a, p => flatP W a p
end Go.Proofs.Ytbkadgdhmfolaaa
