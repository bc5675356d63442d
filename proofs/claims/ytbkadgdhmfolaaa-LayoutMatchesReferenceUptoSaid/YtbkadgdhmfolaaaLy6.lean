/-
  layout: what the memo holds; a look into a map in a region that draws.
  Conditions: none.
-/
import Derived.Test.YtbkadgdhmfolaaaLq3
namespace Go.Proofs.Ytbkadgdhmfolaaa
open Go Go.RowKit

theorem top_lookupQ_ok {α : Type} [DecidableEq α] {kv : α → Value} {c : Cx} {o : Oper} {S : Env} {C : World → Prop} {K : Env → Prop} {t ke e : Nat} {r re : TyRow} {x y : Operand} {q : Nat} {m : List (α × Value)} {a : α} {v : Value} (hg : c.g.Ok) (ho : o.op = .lookup t x y true) (hr : rowOf c.g.tys t = some r) (hd : r.d = .map ke e) (hre : rowOf c.g.tys e = some re) (hk : KeyQ c.g.P ke kv)
    (hx : S.ev x = some (.map (some q))) (hy : S.ev y = some (kv a)) (hm : ∀ w, C w → MapQ kv w q m) (hv : (assoc a m).getD re.z = v)
    (k : putK c S o.dst (.v (.tuple #[v, .bool (assoc a m).isSome])) K) : TOp c o S C K := by
  refine top_op (v := .tuple #[v, .bool (assoc a m).isSome]) (fun b w hf hw => ?_) k
  have e1 := hf.ev hx
  have e2 := hf.ev hy
  have := run_lookupQ (w := w) (a := a) hg hr hd hre hk (hm w hw) true
  rw [hv] at this
  simp only [execOp, ho, e1, e2]
  simp only [Sem.run_bind, this, Result.andThen_ok]
  simp

/-- What the memo holds: for each state a map of best results. -/
structure Memo (W n : Nat) (d : List Nd) (w : World) (mm : Nat) (L : List (Sta × Value)) : Prop where
  map : MapQ staV w mm L
  ent : ∀ s v, (s, v) ∈ L → s.1 < n ∧ ∃ q m, v = .map (some q) ∧ q ≠ mm ∧ MapQ plV w q (toV m) ∧ IsBest W (T d s.1) s.2.1 s.2.2 m
theorem Memo.ext {W n : Nat} {d : List Nd} {w w' : World} {mm : Nat} {L : List (Sta × Value)} (h : Memo W n d w mm L) (k : Ext w w') : Memo W n d w' mm L :=
  ⟨h.map.ext k, fun s v hs => by
    obtain ⟨h1, q, m, h2, h3, h4, h5⟩ := h.ent s v hs
    exact ⟨h1, q, m, h2, h3, h4.ext k, h5⟩⟩
theorem assoc_mem {α : Type} [DecidableEq α] {a : α} {v : Value} : ∀ {m : List (α × Value)}, assoc a m = some v → (a, v) ∈ m
  | [], h => by simp [assoc] at h
  | (b, x) :: m, h => by
    simp only [assoc] at h
    split at h
    · rename_i hab; subst hab; simp at h; subst h; simp
    · exact List.mem_cons_of_mem _ (assoc_mem h)
theorem mem_assocSet {α : Type} [DecidableEq α] {a b : α} {v x : Value} : ∀ {m : List (α × Value)}, (b, x) ∈ assocSet a v m → (b = a ∧ x = v) ∨ (b, x) ∈ m
  | [], h => by simp [assocSet] at h; exact .inl h
  | (c, y) :: m, h => by
    simp only [assocSet] at h
    split at h
    · rename_i hab
      subst hab
      rcases List.mem_cons.1 h with h | h
      · cases h; exact .inl ⟨rfl, rfl⟩
      · exact .inr (List.mem_cons_of_mem _ h)
    · rcases List.mem_cons.1 h with h | h
      · cases h; exact .inr (by simp)
      · rcases mem_assocSet h with h | h
        · exact .inl h
        · exact .inr (List.mem_cons_of_mem _ h)
/-- A new entry. -/
theorem Memo.put {W n : Nat} {d : List Nd} {w w' : World} {mm q : Nat} {L : List (Sta × Value)} {s : Sta} {m : List (Pl × Rs)} (h : Memo W n d w mm L) (hm : Mod (· = mm) w w') (hL : MapQ staV w' mm (assocSet s (.map (some q)) L)) (hs : s.1 < n) (hq : q ≠ mm) (hqm : MapQ plV w q (toV m)) (hb : IsBest W (T d s.1) s.2.1 s.2.2 m) : Memo W n d w' mm (assocSet s (.map (some q)) L) := by
  refine ⟨hL, fun s' v' hs' => ?_⟩
  rcases mem_assocSet hs' with ⟨rfl, rfl⟩ | hs'
  · exact ⟨hs, q, m, rfl, hq, hqm.mod hm hq, hb⟩
  · obtain ⟨h1, q', m', h2, h3, h4, h5⟩ := h.ent s' v' hs'
    exact ⟨h1, q', m', h2, h3, h4.mod hm h3, h5⟩
end Go.Proofs.Ytbkadgdhmfolaaa
