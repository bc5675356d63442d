/-
  strings.Builder inside a block of the call's own, at any place: the contracts of its methods.
  Entries of a map taken out; rows of different kinds lie apart; sets in memory that nothing writes.
  strings: IndexByte, Cut at a space, Count of a byte; directives, as the program tells them.
  A region that draws its order, by a plan, where a call may panic.
  Conditions: none.
-/
import Derived.Test.YtedopgkbajhanaaGreatDoorBld
import Derived.Test.YtedopgkbajhanaaGreatDoorKb
import Derived.Test.YtedopgkbajhanaaGreatDoorSp
import Derived.Test.YtedopgkbajhanaaGreatDoorDf
import Derived.Test.YtedopgkbajhanaaGreatDoorPlan
namespace Go.Proofs.YtedopgkbajhanaaGreatDoor
section
open Go Go.RowKit

abbrev adr (g o : Nat) : Addr := (⟨g, 0, none⟩ : Addr).add o
/-- A builder lies at this place of a variable of this type and size. -/
def LiesO (t m o : Nat) : Prop := liesAt Tryz.prog Tryz.prog.depth t (m / Tryz.prog.cellsOf t) o 86 1 = true
theorem adr_off (g o : Nat) : (adr g o).off = o ∧ (adr g o).block = g := by unfold adr; rw [add_own]; exact ⟨rfl, rfl⟩
theorem cell_at {w : World} {g t o j : Nat} {cs : List Value} (h : Blk w g t cs) : w.cell? ((adr g o).add j) = cs[o + j]? := by unfold adr; rw [add_add, h.cell]
theorem load_at {w : World} {g t o j : Nat} {cs : List Value} {v : Value} {K : Value → Prop} (h : Blk w g t cs) (hv : cs[o + j]? = some v) (k : K v) : Load w ((adr g o).add j) K := load (by rw [cell_at h]; exact hv) k
theorem store_at {w : World} {g t o j : Nat} {cs : List Value} {v : Value} {K : World → Prop} (h : Blk w g t cs) (hj : o + j < cs.length) (k : ∀ w1, Mod (· = g) w w1 → Blk w1 g t (cs.set (o + j) v) → K w1) : Store w ((adr g o).add j) v K := by
  unfold adr; rw [add_add]; exact store_mod h hj k

theorem copyCheckO_fn (g t o : Nat) (pa : Value) (cs : List Value) (w : World) (hl : LiesO t cs.length o) (ho : o < cs.length) (hp : pa = .pointer none ∨ pa = .pointer (some (adr g o))) (hB : Blk w g t cs) (hc : cs[o]? = some pa) :
    Fn Tryz.prog 98 [.pointer (some (adr g o))] w (fun _ w' => Mod (· = g) w w' ∧ Blk w' g t (cs.set o (.pointer (some (adr g o))))) := by
  obtain ⟨j, hj, hj0⟩ := builder_info
  refine fn_of_exec (c := c98) gx_ok Tryz.func98 rfl rfl rfl ?_
  have hsh : w.shape? (adr g o).block = some (t, cs.length) := by rw [(adr_off g o).2]; exact hB.shape
  have ucs := Tryz.underlying84
  have uus := Tryz.underlying192
  rcases hp with rfl | rfl
  · refine load_at hB (by simpa using hc) ?_
    refine wif_t rfl ?_
    refine at_run (w' := w) (v := .pointer (some (adr g o))) (fun a hf => ?_) ?_
    · have e1 := hf.ev (show Env.ev _ (.tmp 8) = some (.pointer (some (adr g o))) from rfl)
      have := Lib.run_to_unsafe (P := Tryz.prog) (src := 84) (dst := 192) w (adr g o) ucs uus hj hj0 hsh (by rw [(adr_off g o).1]; exact ho)
      simp only [execOp, e1]
      simp [gxP, this]
    refine at_run (w' := w) (v := .pointer (some (adr g o))) (fun a hf => ?_) ?_
    · have e1 := hf.ev (show Env.ev _ (.tmp 9) = some (.pointer (some (adr g o))) from rfl)
      have := run_callFunc_extern (P := Tryz.prog) (e := Extern.AbiNoEscape.same) Tryz.func131 (by kernel_rfl) (by kernel_rfl) (by kernel_rfl) (by kernel_rfl) #[.pointer (some (adr g o))] w
      rw [Lib.run_noEscape] at this
      simp only [execOp, resolve, invoke]
      simp [Deferred.ofValue, Act.eval] at e1 ⊢
      simp [e1, gxP, this]
    refine at_run (w' := w) (v := .pointer (some (adr g o))) (fun a hf => ?_) ?_
    · have e1 := hf.ev (show Env.ev _ (.tmp 10) = some (.pointer (some (adr g o))) from rfl)
      have := Lib.run_from_unsafe (P := Tryz.prog) (src := 192) (dst := 84) (u := 86) w (adr g o) uus ucs hj hsh (by rw [(adr_off g o).1]; exact hl)
      simp only [execOp, e1]
      simp [gxP, this]
    refine store_at hB (by simpa using ho) (fun w1 hm hB1 => ?_)
    exact ⟨hm, by simpa using hB1⟩
  · refine load_at hB (by simpa using hc) ?_
    refine wif_f rfl ?_
    refine load_at hB (by simpa using hc) ?_
    refine at_run (w' := w) (v := .bool false) (fun a hf => ?_) ?_
    · have e1 := hf.ev (show Env.ev _ (.tmp 17) = some (.pointer (some (adr g o))) from rfl)
      have e2 := hf.ev (show Env.ev _ (.tmp 18) = some (.pointer (some (adr g o))) from rfl)
      have := Lib.run_neq_ptr_same (P := Tryz.prog) (tp := 84) w (adr g o) ucs hj
      simp only [execOp, e1, e2, eqGuard]
      simp [gxP, this]
    refine wif_f rfl ?_
    refine ⟨Mod.refl _ _, ?_⟩
    have e : cs.set o (.pointer (some (adr g o))) = cs := by
      apply List.ext_getElem?
      intro i
      by_cases hi : i = o
      · subst hi; rw [List.getElem?_set_self ho, hc]
      · rw [List.getElem?_set_ne (fun e => hi e.symm)]
    rw [e]; exact hB

theorem writeStringO_fn (base g t o : Nat) (pa : Value) (cs : List Value) (A : Option Addr) (c : Nat) (out : List Nat) (s : ByteArray) (w : World) (hl : LiesO t cs.length o) (ho : o + 1 < cs.length) (hp : pa = .pointer none ∨ pa = .pointer (some (adr g o))) (hB : Blk w g t cs)
    (hc : cs[o]? = some pa) (hc2 : cs[o + 1]? = some (.slice A out.length c)) (how : Own w base 5 1 A out.length c (bytesV out)) (hg1 : g < base) (top : base ≤ w.heap.size) (hs : out.length + s.size ≤ 140737488355328) :
    Fn Tryz.prog 57 [.pointer (some (adr g o)), .string s] w (fun _ w' => ∃ A' c', Blk w' g t ((cs.set o (.pointer (some (adr g o)))).set (o + 1) (.slice A' (out.length + s.size) c')) ∧ Own w' base 5 1 A' (out.length + s.size) c' (bytesV (out ++ bytesOf s)) ∧ Mod (BldS g A) w w' ∧ Moved w A A') := by
  refine fn_of_exec (c := c57) gx_ok Tryz.func57 rfl rfl rfl ?_
  refine call (copyCheckO_fn g t o pa cs w hl (by omega) hp hB hc) ?_
  rintro v w1 ⟨hm1, hB1⟩
  have hrows := how.rows
  have hn : ¬ rowS A g := fun h => by have := (hrows g h).1; omega
  have hown1 := how.mod hm1 (fun k hk e => hn (e ▸ hk))
  refine load_at hB1 (v := .slice A out.length c) (show (cs.set o (.pointer (some (adr g o))))[o + 1]? = _ by rw [List.getElem?_set_ne (by omega)]; exact hc2) ?_
  refine at_app_str gx_ok rfl rfl rfl rfl rfl rfl rfl rfl rfl rfl rfl hown1 hs (by have := hm1.size; omega) ?_
  intro A' c' w2 hm2 hown2 hmv2
  refine store_at (hB1.mod hm2 hn) (by simpa using ho) (fun w3 hm3 hB3 => ?_)
  have hrows2 := hown2.rows
  refine ⟨A', c', hB3, ?_, ?_, hmv2.back hm1.size⟩
  · rw [bytesV_append, ← strCells_bytesV]
    exact hown2.mod hm3 (fun k hk e => by have := (hrows2 k hk).1; omega)
  · exact ((hm1.mono (S' := BldS g A) (fun i hi => .inl (.inl hi))).trans hm2 (fun i hi => .inl (.inr hi))).trans hm3 (fun i hi => .inl (.inl hi))

theorem lenO_fn (g t o : Nat) (cs : List Value) (A : Option Addr) (c n : Nat) (w : World) (hB : Blk w g t cs) (hc2 : cs[o + 1]? = some (.slice A n c)) :
    Fn Tryz.prog 120 [.pointer (some (adr g o))] w (fun v w' => v = .int .i64 n ∧ w = w') := by
  refine fn_of_exec (c := c120) gx_ok Tryz.func120 rfl rfl rfl ?_
  refine load_at hB hc2 ?_
  exact ⟨rfl, rfl⟩

theorem stringO_fn (base g t o : Nat) (cs : List Value) (A : Option Addr) (c : Nat) (out : List Nat) (w : World) (hB : Blk w g t cs) (hc2 : cs[o + 1]? = some (.slice A out.length c)) (how : Own w base 5 1 A out.length c (bytesV out)) (h8 : ∀ x ∈ out, x < 256) (hs : out.length ≤ 140737488355328) :
    Fn Tryz.prog 47 [.pointer (some (adr g o))] w (fun v w' => v = .string (strOf out) ∧ Mod (rowS A) w w') := by
  refine fn_of_exec (c := c47) gx_ok Tryz.func47 rfl rfl rfl ?_
  have hlen : (bytesV out).length = out.length := bytesV_length out
  refine draw_plan gx_ok (Ext w) 10 [(true, 0), (true, 1), (true, 2), (true, 3), (true, 5), (true, 6), (true, 7), (true, 8), (true, 9), (false, 4)] (by kernel_rfl) (Ext.drew w) ?_
  refine qload (v := .slice A out.length c) (fun w' hw' => by rw [cell_at (hB.ext hw')]; exact hc2) ?_
  refine qload (v := .slice A out.length c) (fun w' hw' => by rw [cell_at (hB.ext hw')]; exact hc2) ?_
  have fin0 : out.length = 0 → Value.string ByteArray.empty = Value.string (strOf out) := fun h0 => by
    have : out = [] := List.eq_nil_of_length_eq_zero h0
    subst this; rfl
  by_cases h0 : out.length = 0
  · have key : ∃ p w1, (Builtin.unsafeSliceData_ #[74] 140 #[.slice A out.length c]).run Tryz.prog w.drew = .ok (.pointer p) w1 ∧ Ext w w1 := by
      rcases how.row.2 with ⟨hv, _⟩ | ⟨g', cap, cur, hv, hb', hg', _⟩
      · simp only [Value.slice.injEq] at hv
        obtain ⟨rfl, _, rfl⟩ := hv
        exact ⟨none, w.drew, Lib.run_unsafeSliceData_nil _ _ _ _ _, Ext.drew w⟩
      · simp only [Value.slice.injEq] at hv
        obtain ⟨rfl, _, rfl⟩ := hv
        by_cases hc0 : c = 0
        · subst hc0
          have hsh : w.drew.shape? g' = some (5, cur.size) := by
            unfold World.shape?; rw [show w.drew.heap[g']? = _ from hg']
          exact ⟨_, _, Lib.run_unsafeSliceData_zero (P := Tryz.prog) w.drew _ _ 5 Tryz.underlying140 ⟨g', 0, none⟩ _ _ hsh, (Ext.drew w).trans (Ext.alloc _ _)⟩
        · exact ⟨_, w.drew, Lib.run_unsafeSliceData_row (P := Tryz.prog) w.drew _ _ ⟨g', 0, none⟩ _ _ hc0, Ext.drew w⟩
    obtain ⟨p, w1, hrun, hE1⟩ := key
    refine at_run (w' := w1) (v := .pointer p) (fun a hf => ?_) ⟨hE1, ?_⟩
    · have e1 := hf.ev (show Env.ev _ (.tmp 6) = some (.slice A out.length c) from rfl)
      simp only [execOp, resolve, invoke, builtin]
      simp [gxP, e1, hrun]
    refine at_run (w' := w1) (v := .string ByteArray.empty) (fun a hf => ?_) ?_
    · have e1 := hf.ev (show Env.ev _ (.tmp 7) = some (.pointer p) from rfl)
      have e2 := hf.ev (show Env.ev _ (.tmp 12) = some (.int .i64 out.length) from rfl)
      have := Lib.run_unsafeString_none (P := Tryz.prog) w1 140 3 9 p
      rw [h0] at e2
      simp only [execOp, resolve, invoke, builtin]
      simp [gxP, e1, e2]
      rw [this]; rfl
    exact ⟨fin0 h0, Mod.of_ext _ hE1⟩
  · obtain ⟨g', sp, rfl, hb', hB', hl'⟩ := how.blk (by omega)
    have hle := how.sl.le
    refine at_run (w' := w.drew) (v := .pointer (some ⟨g', 0, none⟩)) (fun a hf => ?_) ⟨Ext.drew w, ?_⟩
    · have e1 := hf.ev (show Env.ev _ (.tmp 6) = some (.slice (some ⟨g', 0, none⟩) out.length c) from rfl)
      have := Lib.run_unsafeSliceData_row (P := Tryz.prog) w.drew #[74] 140 ⟨g', 0, none⟩ out.length c (by omega)
      simp only [execOp, resolve, invoke, builtin]
      simp [gxP, e1, this]
    refine at_run (w' := w.drew.freeze ⟨g', 0, none⟩ out.length) (v := .string (strOf out)) (fun a hf => ?_) ?_
    · have e1 := hf.ev (show Env.ev _ (.tmp 7) = some (.pointer (some ⟨g', 0, none⟩)) from rfl)
      have e2 := hf.ev (show Env.ev _ (.tmp 12) = some (.int .i64 out.length) from rfl)
      have hsh : w.drew.shape? g' = some (5, (bytesV out ++ sp).length) := (hB'.ext (Ext.drew w)).shape
      have hl2 : (out.map UInt8.ofNat).length = out.length := by simp
      have := Lib.run_unsafeString_row (P := Tryz.prog) w.drew 140 3 9 5 Tryz.underlying140 (by kernel_rfl) g' _ hsh (out.map UInt8.ofNat) (by intro e; apply h0; rw [← hl2, e]; rfl) (by simp [bytesV_length]) (by rw [hl2]; omega) (fun j x hj => by
        rw [(hB'.ext (Ext.drew w)).cell]
        simp only [List.getElem?_map, Option.map_eq_some_iff] at hj
        obtain ⟨y, hy, rfl⟩ := hj
        have hjl : j < out.length := (List.getElem?_eq_some_iff.1 hy).1
        rw [List.getElem?_append_left (by rw [hlen]; exact hjl), bytesV_get' hy]
        have := h8 y (List.mem_of_getElem? hy)
        simp [Nat.mod_eq_of_lt this])
      rw [hl2] at this
      simp only [execOp, resolve, invoke, builtin]
      simp [gxP, e1, e2]
      rw [this]; rfl
    exact ⟨rfl, (Mod.of_ext (rowS _) (Ext.drew w)).trans (freeze_mod w.drew g' out.length (S := rowS (some ⟨g', 0, none⟩)) ⟨_, rfl, rfl⟩) (fun i hi => .inl hi)⟩
end

section
open Go Go.RowKit

/-! ### delete -/
def assocDel {α : Type} [DecidableEq α] (a : α) : List (α × Value) → List (α × Value)
  | [] => []
  | (b, v) :: l => if a = b then l else (b, v) :: assocDel a l
theorem assocDel_sub {α : Type} [DecidableEq α] (a : α) : ∀ l : List (α × Value), (assocDel a l).Sublist l
  | [] => List.Sublist.refl _
  | (b, v) :: l => by
    unfold assocDel
    split
    · exact List.sublist_cons_self _ _
    · exact (assocDel_sub a l).cons_cons _
theorem assoc_nomem {α : Type} [DecidableEq α] {a : α} : ∀ {l : List (α × Value)}, a ∉ l.map (·.1) → assoc a l = none
  | [], _ => rfl
  | (b, v) :: l, h => by
    simp only [List.map_cons, List.mem_cons, not_or] at h
    unfold assoc
    rw [if_neg h.1]; exact assoc_nomem h.2
theorem assoc_del {α : Type} [DecidableEq α] (a b : α) : ∀ l : List (α × Value), (l.map (·.1)).Nodup → assoc b (assocDel a l) = if b = a then none else assoc b l
  | [], _ => by simp [assocDel, assoc]
  | (d, u) :: l, hn => by
    simp only [List.map_cons, List.nodup_cons] at hn
    unfold assocDel
    split
    · rename_i h
      subst h
      by_cases hb : b = a
      · subst hb; rw [if_pos rfl]; exact assoc_nomem hn.1
      · rw [if_neg hb]; show _ = if b = a then _ else assoc b l; rw [if_neg hb]
    · rename_i h
      have ih := assoc_del a b l hn.2
      simp only [assoc]
      by_cases hb : b = d
      · rw [if_pos hb, if_pos hb, if_neg (fun e => h (by rw [← e]; exact hb))]
      · rw [if_neg hb, if_neg hb, ih]
theorem assocSet_keys {α : Type} [DecidableEq α] (a : α) (v : Value) : ∀ l : List (α × Value), (l.map (·.1)).Nodup → ((assocSet a v l).map (·.1)).Nodup ∧ ∀ x, x ∈ (assocSet a v l).map (·.1) → x = a ∨ x ∈ l.map (·.1)
  | [], _ => by simp [assocSet]
  | (b, u) :: l, h => by
    simp only [List.map_cons, List.nodup_cons] at h
    unfold assocSet
    split
    · rename_i hab
      exact ⟨by simpa using h, fun x hx => .inr (by simpa using hx)⟩
    · rename_i hab
      obtain ⟨h1, h2⟩ := assocSet_keys a v l h.2
      refine ⟨?_, fun x hx => ?_⟩
      · rw [List.map_cons, List.nodup_cons]
        exact ⟨fun hm => by rcases h2 b hm with e | e; exact hab e.symm; exact h.1 e, h1⟩
      · rw [List.map_cons, List.mem_cons] at hx
        rcases hx with rfl | hx
        · exact .inr (by simp)
        · rcases h2 x hx with e | e
          · exact .inl e
          · exact .inr (by rw [List.map_cons, List.mem_cons]; exact .inr e)

theorem findNow_del {α : Type} [DecidableEq α] {d : TypeDesc} {kv : α → Value} (hk : KeyV d kv) (a : α) : ∀ (m : List (α × Value)) (bs : List Nat) (i : Nat), bs.length = m.length →
    ∃ r, Instr.findNow d (kv a) (entsOf kv m bs) i = some r ∧ (∀ j v, r = some (j, v) → i ≤ j ∧ j - i < m.length ∧ (entsOf kv m bs).eraseIdx (j - i) = entsOf kv (assocDel a m) (bs.eraseIdx (j - i)) ∧ (assocDel a m).length + 1 = m.length) ∧ (r = none → assocDel a m = m)
  | [], bs, i, h => ⟨none, rfl, (fun j v h => nomatch h), fun _ => rfl⟩
  | (b, u) :: m, [], i, h => by simp at h
  | (b, u) :: m, s :: bs, i, h => by
    have e : entsOf kv ((b, u) :: m) (s :: bs) = { key := kv b, val := u, born := s } :: entsOf kv m bs := rfl
    rw [e]
    unfold Instr.findNow
    simp only [hk.same]
    by_cases hab : a = b
    · subst hab
      simp only [decide_true]
      refine ⟨some (i, u), rfl, fun j v hj => ?_, fun h => by cases h⟩
      cases hj
      refine ⟨Nat.le_refl _, by simp, ?_, ?_⟩
      · rw [Nat.sub_self]; simp [assocDel]
      · simp [assocDel]
    · simp only [hab, decide_false]
      obtain ⟨r, h1, h3, h4⟩ := findNow_del hk a m bs (i + 1) (by simpa using h)
      refine ⟨r, h1, fun j v hj => ?_, fun hn => by simp [assocDel, hab, h4 hn]⟩
      obtain ⟨h5, h6, h7, h8⟩ := h3 j v hj
      refine ⟨by omega, by simp; omega, ?_, by simp [assocDel, hab]; omega⟩
      rw [show j - i = (j - (i + 1)) + 1 by omega]
      simp only [List.eraseIdx_cons_succ, h7, assocDel, hab, if_false]
      rfl

theorem at_delete {α : Type} [DecidableEq α] {kv : α → Value} {c : Cx} {o : Oper} {S : Env} {w : World} {K : Env → World → Prop} {Q : Post} {t t2 ke e : Nat} {r rk : TyRow} {x y : Operand} {q : Nat} {m : List (α × Value)} {a : α} (hg : c.g.Ok)
    (ho : o.op = .call ⟨.builtin .delete, #[x, y], #[t, t2]⟩) (hdst : o.dst = none) (hr : rowOf c.g.tys t = some r) (hd : r.d = .map ke e) (hrk : rowOf c.g.tys ke = some rk) (hk : KeyV rk.d kv)
    (hx : S.ev x = some (.map (some q))) (hy : S.ev y = some (kv a)) (hm : MapAt kv w q m)
    (k : ∀ w1, Mod (· = q) w w1 → w1.heap.size = w.heap.size → MapAt kv w1 q (assocDel a m) → K S w1) : AtOp c o S w K Q := by
  have hr' := (hg.row hr).1
  rw [hd] at hr'
  have hrk' := (hg.row hrk).1
  obtain ⟨bs, ck, hl, hb⟩ := hm.ex
  have hlt : q < w.heap.size := (Array.getElem?_eq_some_iff.1 hb).1
  obtain ⟨res, h1, h3, h4⟩ := findNow_del hk a m bs 0 hl
  have hgo : (getObj q).run c.g.P w = .ok (.map (entsOf kv m bs).toArray ck) w := by simp [getObj, Sem.run, hb]
  have hset : ∀ ob, (setObj q ob).run c.g.P w = .ok () { w with heap := w.heap.setIfInBounds q ob } := fun ob => by simp [setObj, Sem.run, hb]
  have main : ∃ bs', bs'.length = (assocDel a m).length ∧ (Builtin.delete_ #[t, t2] o.type #[.map (some q), kv a]).run c.g.P w = .ok (.tuple #[]) { w with heap := w.heap.setIfInBounds q (.map (entsOf kv (assocDel a m) bs').toArray ck) } := by
    cases res with
    | none =>
      refine ⟨bs, by rw [h4 rfl]; exact hl, ?_⟩
      rw [h4 rfl]
      simp only [Builtin.delete_]
      simp [run_underlying hr', hgo, run_checkKey_plain hrk' hk.plain, Instr.findKey, run_underlying hrk', h1, hset]
    | some p =>
      obtain ⟨j, u⟩ := p
      obtain ⟨_, h6, h7, h8⟩ := h3 j u rfl
      simp only [Nat.sub_zero] at h6 h7
      refine ⟨bs.eraseIdx j, by rw [List.length_eraseIdx_of_lt (by omega)]; omega, ?_⟩
      simp only [Builtin.delete_]
      simp [run_underlying hr', hgo, run_checkKey_plain hrk' hk.plain, Instr.findKey, run_underlying hrk', h1, hset]
      rw [h7]
  obtain ⟨bs', hl', hrun⟩ := main
  unfold AtOp
  intro b hf
  have e1 := hf.ev hx
  have e2 := hf.ev hy
  refine wp_value (v := .tuple #[]) (w' := { w with heap := w.heap.setIfInBounds q (.map (entsOf kv (assocDel a m) bs').toArray ck) }) ?_ ⟨S, by rw [hdst]; simpa [Act.put] using hf, k _ ⟨rfl, rfl, rfl, by simp, fun i _ hi => ?_⟩ (by simp) ⟨bs', ck, hl', by simp [hlt]⟩⟩
  · simp only [execOp, ho, resolve, invoke, builtin]
    simp [e1, e2, hrun]
  · simp only [Array.getElem?_setIfInBounds]
    rw [if_neg (fun e => hi e.symm)]

/-! ### Rows of different kinds -/
theorem Own.kind {w : World} {base e sz n c i : Nat} {A : Option Addr} {cs : List Value} (h : Own w base e sz A n c cs) (hi : rowS A i) : ∃ cur, w.heap[i]? = some (.cells cur e (0, 0)) := by
  obtain ⟨ad, rfl, rfl⟩ := hi
  rcases h.row.2 with ⟨hv, _⟩ | ⟨g, cap, cur, hv, _, hg, _⟩
  · cases hv
  · cases hv; exact ⟨cur, hg⟩
theorem Own.apart {w : World} {b b' e e' sz sz' n n' c c' i : Nat} {A B : Option Addr} {cs cs' : List Value} (h : Own w b e sz A n c cs) (h' : Own w b' e' sz' B n' c' cs') (hne : e ≠ e') (hi : rowS A i) : ¬ rowS B i := fun hj => by
  obtain ⟨c1, h1⟩ := h.kind hi
  obtain ⟨c2, h2⟩ := h'.kind hj
  rw [h1] at h2
  simp only [Option.some.injEq, Obj.cells.injEq] at h2
  exact hne h2.2.1
theorem Blk.apart {w : World} {b e sz n c g t : Nat} {A : Option Addr} {cs cs' : List Value} (h : Blk w g t cs) (h' : Own w b e sz A n c cs') (hne : t ≠ e) : ¬ rowS A g := fun hj => by
  obtain ⟨c2, h2⟩ := h'.kind hj
  rw [show w.heap[g]? = _ from h] at h2
  simp only [Option.some.injEq, Obj.cells.injEq] at h2
  exact hne h2.2.1
theorem MapAt.apart {α : Type} {kv : α → Value} {w : World} {b e sz n c q : Nat} {A : Option Addr} {cs' : List Value} {m : List (α × Value)} (h : MapAt kv w q m) (h' : Own w b e sz A n c cs') : ¬ rowS A q := fun hj => by
  obtain ⟨c2, h2⟩ := h'.kind hj
  obtain ⟨bs, ck, _, h1⟩ := h.ex
  rw [h1] at h2; cases h2

/-! ### Sets in memory -/
/-- A set that lies apart from what is written. -/
structure DgO (w : World) (S : Nat → Prop) (k : Nat) (x : DV) (o : BF) : Prop where
  sb : SB w x.A x.n x.c x.nd
  st : Set1 k x.nd x.r o
  off : ∀ ad, x.A = some ad → 0 < x.n → ¬ S ad.block
theorem SB.modo {S : Nat → Prop} {w w' : World} {A : Option Addr} {n c : Nat} {nd : List Br} (h : SB w A n c nd) (hm : Mod S w w') (hr : ∀ ad, A = some ad → 0 < n → ¬ S ad.block) : SB w' A n c nd :=
  ⟨h.1.modS hm (fun h0 i hi => by obtain ⟨ad, e, rfl⟩ := hi; exact hr ad e h0), h.2⟩
theorem DgO.step {w w' : World} {S S' : Nat → Prop} {k : Nat} {x : DV} {o : BF} (h : DgO w S k x o) (hm : Mod S w w') (hs : ∀ i, S' i → S i ∨ w.heap.size ≤ i) : DgO w' S' k x o :=
  ⟨h.sb.modo hm h.off, h.st, fun ad e h0 hS => by
    rcases hs _ hS with h1 | h1
    · exact h.off ad e h0 h1
    · have := SB.lt h.sb ad e h0; omega⟩
theorem DgO.keep {w w' : World} {S T : Nat → Prop} {k : Nat} {x : DV} {o : BF} (h : DgO w S k x o) (hm : Mod T w w') (ht : ∀ i, T i → S i ∨ w.heap.size ≤ i) : DgO w' S k x o :=
  ⟨h.sb.modo (hm.mono ht) h.off, h.st, h.off⟩
theorem DgO.ext {w w' : World} {S : Nat → Prop} {k : Nat} {x : DV} {o : BF} (h : DgO w S k x o) (hE : Ext w w') : DgO w' S k x o := ⟨h.sb.ext hE, h.st, h.off⟩
theorem DgO.mono {w : World} {S S' : Nat → Prop} {k : Nat} {x : DV} {o : BF} (h : DgO w S k x o) (hs : ∀ i, S' i → S i ∨ w.heap.size ≤ i) : DgO w S' k x o := h.step (Mod.refl _ _) hs
theorem DgO.new {w w' : World} {S : Nat → Prop} {k : Nat} {A : Option Addr} {n c : Nat} {nd : List Br} {r : Int} {o : BF} (hb : SB w' A n c nd) (hs : Set1 k nd r o) (hr : ∀ i, rowS A i → w.heap.size ≤ i) (hS : ∀ i, S i → i < w.heap.size) : DgO w' S k ⟨A, n, c, nd, r⟩ o :=
  ⟨hb, hs, fun ad e _ h => by have := hr ad.block ⟨ad, e, rfl⟩; have := hS _ h; omega⟩
theorem DgO.congr {w : World} {S : Nat → Prop} {k : Nat} {x : DV} {o o' : BF} (h : DgO w S k x o) (e : ∀ y, o y = o' y) : DgO w S k x o' := ⟨h.sb, h.st.congr e, h.off⟩
end

section
open Go Go.RowKit

def ixB (c : Nat) (l : List Nat) : Int := if c ∈ l then ((l.takeWhile (fun b => b != c)).length : Nat) else -1
theorem u8_eq {b c : Nat} (hb : b < 256) (hc : c < 256) : (UInt8.ofNat b == UInt8.ofNat c) = (b == c) := by
  rw [Bool.eq_iff_iff]
  simp only [beq_iff_eq]
  constructor
  · intro h
    have := congrArg UInt8.toNat h
    simpa [Nat.mod_eq_of_lt hb, Nat.mod_eq_of_lt hc] using this
  · intro h; rw [h]
theorem indexByte_eq {c : Nat} (hc : c < 256) : ∀ {l : List Nat}, (∀ x ∈ l, x < 256) → Lib.indexByte (l.map UInt8.ofNat) (UInt8.ofNat c) = ixB c l
  | [], _ => rfl
  | b :: l, h => by
    have ih := indexByte_eq hc (l := l) (fun x hx => h x (by simp [hx]))
    have hb : b < 256 := h b (by simp)
    rw [List.map_cons, Lib.indexByte, u8_eq hb hc, ih]
    unfold ixB
    by_cases hbc : b = c
    · subst hbc; simp
    · have h1 : (b == c) = false := by simpa using hbc
      rw [h1]
      by_cases hm : c ∈ l
      · have h3 : ¬ c = b := fun e => hbc e.symm
        simp [hm, hbc, h3]
      · have h3 : ¬ c = b := fun e => hbc e.symm
        simp [hm, h3]
theorem strOf_list (l : List Nat) : (strOf l).data.toList = l.map UInt8.ofNat := by simp [strOf]
theorem fn_of_calls' {P : Program} {f : FuncId} {l : List Value} {w : World} {v : Value} (h : Calls P f l.toArray w fun e w' => e = .returned v ∧ w' = w) : Fn P f l w (fun u w' => u = v ∧ w = w') := by
  unfold Fn
  exact h.mono fun e w' he => by obtain ⟨rfl, rfl⟩ := he; exact ⟨rfl, rfl⟩

theorem indexbyte_fn (l : List Nat) (c : Nat) (w : World) (hl : ∀ x ∈ l, x < 256) (hc : c < 256) :
    Fn Tryz.prog 72 [.string (strOf l), .int .u8 c] w (fun v w' => v = .int .i64 (ixB c l) ∧ w = w') := by
  have h := Tryz.strings_IndexByte (strOf l) (c : Int) w
  have e : ((c : Int).toNat.toUInt8) = UInt8.ofNat c := rfl
  rw [strOf_list, e, indexByte_eq hc hl] at h
  exact fn_of_calls' h

theorem count_fn (l : List Nat) (c : Nat) (w : World) (hl : ∀ x ∈ l, x < 256) (hc : c < 256) :
    Fn Tryz.prog 119 [.string (strOf l), .string (strOf [c])] w (fun v w' => v = .int .i64 (l.count c) ∧ w = w') := by
  have h := Tryz.strings_Count_one (strOf l) (UInt8.ofNat c) w
  have e : Lib.countByte (strOf l).data.toList (UInt8.ofNat c) = l.count c := by
    rw [strOf_list]
    unfold Lib.countByte
    clear h
    induction l with
    | nil => rfl
    | cons b l ih =>
      rw [List.map_cons, List.count_cons, List.count_cons, ih (fun x hx => hl x (by simp [hx])), u8_eq (hl b (by simp)) hc]
  rw [e] at h
  exact fn_of_calls' h

def cutH (l : List Nat) : List Nat := l.takeWhile (fun b => b != 32)
def cutR (l : List Nat) : List Nat := l.drop ((cutH l).length + 1)
theorem cutH_take (l : List Nat) : l.take (cutH l).length = cutH l := (List.prefix_iff_eq_take.1 (List.takeWhile_prefix _)).symm
theorem cutH_len {l : List Nat} : (cutH l).length ≤ l.length := (List.takeWhile_sublist _).length_le
theorem cutH_lt {l : List Nat} : (cutH l).length < l.length ↔ 32 ∈ l := by
  unfold cutH
  induction l with
  | nil => simp
  | cons b l ih =>
    by_cases hb : b = 32
    · subst hb; simp
    · have : (b != 32) = true := by simpa using hb
      rw [List.takeWhile_cons, if_pos this]
      simp only [List.length_cons, Nat.add_lt_add_iff_right, ih, List.mem_cons]
      constructor
      · exact fun h => .inr h
      · rintro (h | h)
        · exact absurd h.symm hb
        · exact h
theorem cutH_split {l : List Nat} (h : 32 ∈ l) : l = cutH l ++ 32 :: cutR l := by
  unfold cutR cutH
  induction l with
  | nil => simp at h
  | cons b l ih =>
    by_cases hb : b = 32
    · subst hb; simp
    · have h1 : (b != 32) = true := by simpa using hb
      rw [List.takeWhile_cons, if_pos h1]
      simp only [List.length_cons, List.drop_succ_cons, List.cons_append]
      congr 1
      refine ih ?_
      simp only [List.mem_cons] at h
      rcases h with h | h
      · exact absurd h.symm hb
      · exact h
theorem cutH_no {l : List Nat} (h : 32 ∉ l) : cutH l = l := by
  unfold cutH
  induction l with
  | nil => rfl
  | cons b l ih =>
    simp only [List.mem_cons, not_or] at h
    have h1 : (b != 32) = true := by simpa using fun e => h.1 e.symm
    rw [List.takeWhile_cons, if_pos h1, ih h.2]
theorem cut_len {l : List Nat} (h : 32 ∈ l) : ((l.takeWhile (fun b => b != 32)).length : Nat) < l.length := cutH_lt.2 h

theorem cut1_fn (l : List Nat) (w : World) (hl : ∀ x ∈ l, x < 256) (hlen : l.length ≤ 1000000000000) :
    Fn Tryz.prog 114 [.string (strOf l), .string (strOf [32])] w (fun v w' => (v = if 32 ∈ l then .tuple #[.string (strOf (cutH l)), .string (strOf (cutR l)), .bool true] else .tuple #[.string (strOf l), .string (strOf []), .bool false]) ∧ Ext w w') := by
  refine fn_of_exec (c := c114) gx_ok Tryz.func114 rfl rfl rfl ?_
  have h := Tryz.stringslite_Index_one (strOf l) (UInt8.ofNat 32) w
  rw [strOf_list, indexByte_eq (by decide) hl] at h
  refine call (fn_of_calls' h) ?_
  rintro _ _ ⟨rfl, rfl⟩
  unfold ixB
  by_cases hm : 32 ∈ l
  · rw [if_pos hm, if_pos hm]
    have hlt := cut_len hm
    refine wif_dt (by show (0 : Int) ≤ _; omega) ?_
    refine draw gx_ok (by kernel_rfl) ?_
    refine need_to (v' := .string (strOf (cutH l))) ⟨Int.le_refl _, by omega, by rw [strOf_size]; omega⟩ ?_ ?_
    · rw [strOf_extract]
      exact congrArg (fun x => Value.string (strOf x)) (cutH_take l)
    refine norm_i64_to (((cutH l).length + 1 : Nat) : Int) (by rw [strOf_size]; show ((_ : Nat) : Int) + 1 = _; unfold cutH; omega) (by unfold cutH; omega) ?_
    refine need_to (v' := .string (strOf (cutR l))) ⟨by omega, by rw [strOf_size]; unfold cutH; omega, by rw [strOf_size]; omega⟩ ?_ ?_
    · rw [strOf_extract]
      unfold cutR
      rw [strOf_size]
      show Value.string (strOf ((l.take l.length).drop _)) = _
      rw [List.take_of_length_le (Nat.le_refl _)]
      rfl
    exact fun w' hE => ⟨rfl, hE⟩
  · rw [if_neg hm, if_neg hm]
    refine wif_df (by decide) ?_
    exact ⟨rfl, Ext.refl _⟩

theorem scut_fn (l : List Nat) (w : World) (hl : ∀ x ∈ l, x < 256) (hlen : l.length ≤ 1000000000000) :
    Fn Tryz.prog 73 [.string (strOf l), .string (strOf [32])] w (fun v w' => (v = if 32 ∈ l then .tuple #[.string (strOf (cutH l)), .string (strOf (cutR l)), .bool true] else .tuple #[.string (strOf l), .string (strOf []), .bool false]) ∧ Ext w w') := by
  refine fn_of_exec (c := c73) gx_ok Tryz.func73 rfl rfl rfl ?_
  refine call (cut1_fn l w hl hlen) ?_
  rintro v w1 ⟨rfl, hE1⟩
  by_cases hm : 32 ∈ l
  · rw [if_pos hm]; exact ⟨rfl, hE1⟩
  · rw [if_neg hm]; exact ⟨rfl, hE1⟩

/-! ### Directives -/
theorem kw_pre {kw s : List Nat} (hk : 32 ∉ kw) : (kw ++ [32]).isPrefixOf s = true ↔ cutH s = kw ∧ 32 ∈ s := by
  rw [List.isPrefixOf_iff_prefix]
  constructor
  · rintro ⟨r, rfl⟩
    refine ⟨?_, by simp⟩
    unfold cutH
    rw [List.append_assoc, List.takeWhile_append_of_pos (fun x hx => by simpa using fun e => hk (by rw [← e]; exact hx))]
    simp
  · rintro ⟨h1, h2⟩
    have := cutH_split h2
    rw [h1] at this
    exact ⟨cutR s, by rw [List.append_assoc]; exact this.symm⟩
theorem kw_rest {kw s : List Nat} (h : cutH s = kw) : s.drop (kw.length + 1) = cutR s := by unfold cutR; rw [h]
def kIf : List Nat := [35, 105, 102]
def kElif : List Nat := [35, 101, 108, 105, 102]
def kInc : List Nat := [35, 105, 110, 99, 108, 117, 100, 101]
theorem dir_if {s : List Nat} (h : cutH s = kIf) (hm : 32 ∈ s) : dirOf s = .ifd (cutR s) := by
  unfold dirOf
  rw [if_pos (show pIf.isPrefixOf s = true from (kw_pre (kw := kIf) (by decide)).2 ⟨h, hm⟩), ← kw_rest h]; rfl
theorem dir_inc {s : List Nat} (h : cutH s = kInc) (hm : 32 ∈ s) : dirOf s = .inc (cutR s) := by
  unfold dirOf
  rw [if_neg (fun hp => by have := ((kw_pre (kw := kIf) (by decide)).1 hp).1; rw [h] at this; cases this), if_pos (show pInc.isPrefixOf s = true from (kw_pre (kw := kInc) (by decide)).2 ⟨h, hm⟩), ← kw_rest h]; rfl
theorem dir_elif {s : List Nat} (h : cutH s = kElif) (hm : 32 ∈ s) : dirOf s = .elif (cutR s) := by
  unfold dirOf
  rw [if_neg (fun hp => by have := ((kw_pre (kw := kIf) (by decide)).1 hp).1; rw [h] at this; cases this), if_neg (fun hp => by have := ((kw_pre (kw := kInc) (by decide)).1 hp).1; rw [h] at this; cases this),
    if_pos (show pElif.isPrefixOf s = true from (kw_pre (kw := kElif) (by decide)).2 ⟨h, hm⟩), ← kw_rest h]; rfl
theorem dir_no {s : List Nat} (h1 : ¬ (cutH s = kIf ∧ 32 ∈ s)) (h2 : ¬ (cutH s = kInc ∧ 32 ∈ s)) (h3 : ¬ (cutH s = kElif ∧ 32 ∈ s)) : dirOf s = if s = lElse then .els else if s = lEnd then .en else .txt := by
  unfold dirOf
  rw [if_neg (fun (hp : pIf.isPrefixOf s = true) => h1 ((kw_pre (kw := kIf) (by decide)).1 hp)), if_neg (fun (hp : pInc.isPrefixOf s = true) => h2 ((kw_pre (kw := kInc) (by decide)).1 hp)), if_neg (fun (hp : pElif.isPrefixOf s = true) => h3 ((kw_pre (kw := kElif) (by decide)).1 hp))]
theorem dir_else : dirOf lElse = .els := rfl
theorem dir_end : dirOf lEnd = .en := rfl
end

section
open Go Go.RowKit

section
variable {P : Program} {ops : Array Oper} {md : Region.Mode} {C : World → Prop} {Q : Exit → Act → World → Prop}

/-- A panic is asked only what it leaves of the world. -/
def PanW (N : Slots) (pan : List PanicEntry → World → Prop) (Q : Exit → Act → World → Prop) : Exit → Act → World → Prop
  | .panic ch, a, w => a.tmps.size = N.n ∧ a.defers = N.ds ∧ pan ch w
  | e, a, w => Q e a w
theorem PanW.put {N : Slots} {pan : List PanicEntry → World → Prop} {Q : Exit → Act → World → Prop} {ch : List PanicEntry} {a : Act} {d : Option Tmp} {v : Value} {w : World} (h : PanW N pan Q (.panic ch) (a.put d v) w) : PanW N pan Q (.panic ch) a w := by
  obtain ⟨h1, h2, h3⟩ := h
  cases d with
  | none => exact ⟨h1, h2, h3⟩
  | some d => exact ⟨by simpa [Act.put] using h1, by simpa [Act.put] using h2, h3⟩
theorem PanW.imp {c : Cx} {pan : List PanicEntry → World → Prop} {Q : Post} (hp : ∀ ch S w, pan ch w → Q (.panic ch) S w) : ∀ (e : Exit) (a : Act) (w : World), PanW c.N pan (Up c Q) e a w → Up c Q e a w := fun e a w h => by
  cases e <;> first | exact h | (obtain ⟨h1, h2, h3⟩ := h; exact ⟨[], ⟨h1, h2, fun k x hk => by simp [Env.ent] at hk⟩, hp _ _ _ h3⟩)

theorem wpGP_first {N : Slots} {pan : List PanicEntry → World → Prop} {n i : Nat} {oi : Oper} {v : Value} {L : Array Bool → Act → World → Prop} (hi : ops[i]? = some oi) (hsel : ∀ (j : Nat) (o : Oper) cs b, ops[j]? = some o → o.op ≠ .select cs b)
    (hs : Sink md ops n) (hin : i < n) (hdone : ∀ listed a w, L listed a w → ∀ j ∈ Region.ready md ops listed, n ≤ j) :
    ∀ (f : Nat) (listed : Array Bool) (a : Act) (w : World), HeadInv md ops n listed →
      (∀ j oj, ops[j]? = some oj → j ≠ i → listed.getD j true = false → (∀ e ∈ oj.after, Region.binds md e = true → e.on ≠ i) → oi.apart ops oj = true) →
      i ∈ Region.ready md ops listed → YieldsIf P ops C oi v a → C w →
      wpG P md ops (PanW N pan Q) C n L f (listed.setIfInBounds i true) (a.put oi.dst v) w → wpG P md ops (PanW N pan Q) C n L (f + 1) listed a w := by
  intro f
  induction f with
  | zero =>
    intro listed a w inv _ hr hy hC H
    have hun := (mem_ready.1 hr).1
    refine ⟨fun h => (by rw [h] at hr; cases hr), fun j hj => ?_⟩
    have hjn := sink_lt hs inv hin hun j hj
    refine ⟨hjn, ?_⟩
    by_cases hji : j = i
    · subst hji; exact hy.wpOp hi hC ⟨hC, H⟩
    · have := hdone _ _ _ H j (ready_mono hj hji)
      omega
  | succ f ih =>
    intro listed a w inv hfree hr hy hC H
    have hun := (mem_ready.1 hr).1
    refine ⟨fun h => (by rw [h] at hr; cases hr), fun j hj => ?_⟩
    have hjn := sink_lt hs inv hin hun j hj
    refine ⟨hjn, ?_⟩
    by_cases hji : j = i
    · subst hji; exact hy.wpOp hi hC ⟨hC, H⟩
    · have h1 := (H.2 j (ready_mono hj hji)).2
      obtain ⟨hjun, oj, hoj, hall⟩ := mem_ready.1 hj
      have hnot : ∀ e ∈ oj.after, Region.binds md e = true → e.on ≠ i := fun e he hb heq => by
        have h1 := hall e he hb
        rw [heq, getD_both hun] at h1
        cases h1
      have h2 := wpOp_putIf hoj (hfree j oj hoj hji hjun hnot) (fun cs b => hsel i oi cs b hi) (fun cs b => hsel j oj cs b hoj) (fun _ _ _ h => PanW.put h) hy h1
      have hfree' : ∀ k ok, ops[k]? = some ok → k ≠ i → (listed.setIfInBounds j true).getD k true = false →
          (∀ e ∈ ok.after, Region.binds md e = true → e.on ≠ i) → oi.apart ops ok = true := fun k ok hk hki hun hno => by
        refine hfree k ok hk hki ?_ hno
        by_cases hjk : j = k
        · subst hjk; exact hjun
        · rw [getD_set_ne true hjk] at hun; exact hun
      refine wpOp_mono (fun a' w' h3 => ⟨h3.2.1, ih (listed.setIfInBounds j true) a' w' (inv.set hj hjn) hfree' (ready_mono hr (Ne.symm hji)) h3.1 h3.2.1 ?_⟩) h2
      rw [Array.setIfInBounds_comm _ _ hji]
      exact h3.2.2

end
section
variable {c : Cx} {S : Env} {a : Act}

def planLP (c : Cx) (pan : List PanicEntry → World → Prop) (all : List Oper) (C : World → Prop) : List (Bool × Nat) → Env → World → (Env → World → Prop) → Prop
  | [], S, w, K => K S w
  | (true, k) :: l, S, w, K => match nthO all k with
    | some o => guardK all o S (fun S => execT c o S C (fun S => planLP c pan all C l S w K)) (fun S => putK c S o.dst (.v undef) (fun S => planLP c pan all C l S w K))
    | none => False
  | (false, k) :: l, S, w, K => match nthO all k with
    | some o => guardK all o S (fun S => execO c o S w (fun S w => C w ∧ planLP c pan all C l S w K) (fun e _ w => match e with
      | .panic ch => pan ch w
      | _ => False)) (fun S => putK c S o.dst (.v undef) (fun S => planLP c pan all C l S w K))
    | none => False

theorem planLP_sound (hg : c.g.Ok) {md : Region.Mode} {ops : List Oper} {C : World → Prop} {Q : Exit → Act → World → Prop} {n : Nat} (hs : Region.noSelect ops.toArray = true) (hk : Sink md ops.toArray n) {K : Env → World → Prop} {pan : List PanicEntry → World → Prop} :
    ∀ (l : List (Bool × Nat)) (listed : Array Bool) (S : Env) (a : Act) (w : World), HeadInv md ops.toArray n listed → planB md ops.toArray n l listed = true → planLP c pan ops C l S w K → Fits c.N S a → C w →
    wpG c.g.P md ops.toArray (PanW c.N pan Q) C n (fun listed' a' w' => Region.seqB md ops.toArray (ops.toArray.size - n) n listed' = true ∧ ∃ S', Fits c.N S' a' ∧ K S' w') l.length listed a w
  | [], listed, S, a, w, inv, hB, h, hf, hC => ⟨hB, S, hf, h⟩
  | (true, k) :: l, listed, S, a, w, inv, hB, h, hf, hC => by
    simp only [planB, Bool.and_eq_true] at hB
    obtain ⟨⟨⟨hkn, hr⟩, hfr⟩, hB'⟩ := hB
    have hkn : k < n := by rw [Nat.blt_eq] at hkn; exact hkn
    have hr' : k ∈ Region.ready md ops.toArray listed := by simpa using hr
    obtain ⟨_, o, ho, _⟩ := mem_ready.1 hr'
    have hn : nthO ops k = some o := by rw [nthO_eq]; simpa using ho
    simp only [planLP, hn] at h
    have key : ∃ v, YieldsIf c.g.P ops.toArray C o v a ∧ ∃ S', Fits c.N S' (a.put o.dst v) ∧ planLP c pan ops C l S' w K := by
      rcases guardK_spec h hf with ⟨hw, S1, hf1, h1⟩ | ⟨hw, S1, hf1, h1⟩
      · obtain ⟨v, h2, h3⟩ := execT_sound hg h1 hf1
        exact ⟨v, .inl ⟨hw, h2⟩, h3⟩
      · exact ⟨undef, .inr ⟨hw, rfl⟩, putK_sound (e := .v undef) h1 hf1⟩
    obtain ⟨v, hy, S', hf', h'⟩ := key
    exact wpGP_first ho (Region.noSelect_spec hs) hk hkn (fun listed' a' w' hL => seqB_ready hL.1) l.length listed a w inv (Region.free_spec ho hfr) hr' hy hC
      (planLP_sound hg hs hk l _ S' _ w (inv.set hr' hkn) hB' h' hf' hC)
  | (false, k) :: l, listed, S, a, w, inv, hB, h, hf, hC => by
    simp only [planB, Bool.and_eq_true, decide_eq_true_eq] at hB
    obtain ⟨⟨hkn, hr⟩, hB'⟩ := hB
    have hkn : k < n := by rw [Nat.blt_eq] at hkn; exact hkn
    have hr' : k ∈ Region.ready md ops.toArray listed := by rw [hr]; simp
    obtain ⟨_, o, ho, _⟩ := mem_ready.1 hr'
    have hn : nthO ops k = some o := by rw [nthO_eq]; simpa using ho
    simp only [planLP, hn] at h
    have inv' := inv.set hr' hkn
    refine ⟨fun h0 => (by rw [hr] at h0; cases h0), fun i hi => ?_⟩
    rw [hr] at hi
    have hik : i = k := by simpa using hi
    subst hik
    refine ⟨hkn, ?_⟩
    unfold wpOp
    simp only [ho]
    rcases guardK_spec h hf with ⟨hw, S1, hf1, h1⟩ | ⟨hw, S1, hf1, h1⟩
    · rw [if_pos hw]
      refine .inl ?_
      have h2 := execO_sound hg h1 hf1
      have h3 := Oper.wp_mono (K' := fun a' w' => C w' ∧ wpG c.g.P md ops.toArray (PanW c.N pan Q) C n (fun listed' a' w' => Region.seqB md ops.toArray (ops.toArray.size - n) n listed' = true ∧ ∃ S', Fits c.N S' a' ∧ K S' w') l.length (listed.setIfInBounds i true) a' w')
        (fun a' w' ⟨S', hf', hc', hk'⟩ => ⟨hc', planLP_sound hg hs hk l _ S' a' w' inv' hB' hk' hf' hc'⟩) h2
      unfold Oper.wp at h3 ⊢
      generalize (execOp a.eval o).run c.g.P w = r at *
      cases r with
      | ok nx w' =>
        cases nx <;> simp only [Oper.upon] at h3 ⊢ <;> try exact h3
        exact h3.mono fun e w'' he => by
          cases e with
          | returned v => exact he
          | panicked ch => obtain ⟨_, hfz, he⟩ := he; exact ⟨hfz.size, hfz.defers, he⟩
          | outgrown => obtain ⟨_, _, _, _, he⟩ := he; exact he.elim
      | halt x w' => cases x <;> simp only [Oper.upon] at h3 ⊢ <;> first | exact h3 | (obtain ⟨_, hfz, h3⟩ := h3; exact ⟨hfz.size, hfz.defers, h3⟩) | (obtain ⟨_, _, h3⟩ := h3; exact h3.elim)
    · rw [if_neg (by rw [hw]; decide)]
      obtain ⟨S', hf', h'⟩ := putK_sound (e := .v undef) h1 hf1
      exact ⟨hC, planLP_sound hg hs hk l _ S' _ w inv' hB' h' hf' hC⟩

/-- A region that draws, by a plan for its first n operations; the rest in the text's order. -/
theorem draw_planP (hg : c.g.Ok) {id : Nat} {ops : List Oper} {w : World} {Q : Post} (pan : List PanicEntry → World → Prop) (hpan : ∀ ch S w, pan ch w → Q (.panic ch) S w) (C : World → Prop) (n : Nat) (plan : List (Bool × Nat))
    (hB : (Region.noSelect ops.toArray && Nat.beq plan.length n && sinkOk .any ops.toArray n && planB .any ops.toArray n plan (Array.replicate ops.toArray.size false)) = true) (hC : C w.drew)
    (h : planLP { c with named := 1000000 } pan ops C plan S w.drew (fun S w => execL c ops (ops.drop n) S w (fun S w => Q .normal S w) (fun e _ w => match e with
      | .panic ch => pan ch w
      | _ => False))) : AtDraw c id ops S w Q := by
  unfold AtDraw
  intro a hf
  simp only [Bool.and_eq_true] at hB
  obtain ⟨⟨⟨hs, hl⟩, hsk⟩, hpl⟩ := hB
  have hl := Nat.eq_of_beq_eq_true hl
  have hk := sinkOk_spec hsk
  have hnle : n ≤ ops.length := by
    rcases hk with hk | hk
    · rw [hk]; simp
    · have := hk.1; simp at this; omega
  refine Code.wp_mono (PanW.imp hpan) (wp_region_any hg.mixed ?_)
  have inv0 : HeadInv .any ops.toArray n (Array.replicate ops.toArray.size false) :=
    ⟨by simp, fun j oj _ hl => (by rw [getD_replicate_false] at hl; cases hl), fun t _ ht => getD_in (by simpa using ht) (getD_replicate_false _ _)⟩
  have H := planLP_sound (c := { c with named := 1000000 }) hg (Q := Up c Q) hs hk plan _ S a _ inv0 hpl h hf hC
  have hdl : (ops.drop n).length = ops.toArray.size - n := by simp
  have H2 := wpAny_of_G (Q := PanW c.N pan (Up c Q)) (g := ops.toArray.size - n) (fun listed' a' w' hL => by
    obtain ⟨hq, S', hf', hk'⟩ := hL
    have h2 := execL_sound (c := c) hg ops _ _ _ _ hk' hf'
    have := wpAny_of_seq (P := c.g.P) (md := .any) (ops := ops.toArray) (Q' := PanW c.N pan (Up c Q)) (ops.drop n) n listed' a' w' (fun j => by simp) (by rw [hdl]; exact hq) (wpList_mono' (fun e a w hq => by
      cases e with
      | normal => exact hq
      | panic ch => obtain ⟨_, hfz, h⟩ := hq; exact ⟨hfz.size, hfz.defers, h⟩
      | _ => exact absurd hq (by rintro ⟨_, _, h⟩; exact h)) h2)
    rwa [hdl] at this) _ _ _ _ H
  rw [hl, show n + (ops.toArray.size - n) = ops.toArray.size by simp; omega] at H2
  exact H2
end
end
end Go.Proofs.YtedopgkbajhanaaGreatDoor
