/-
  strings.Builder at the head of a block of the call's own: the contracts of its methods.
  Conditions: none.
-/
import Derived.Test.YtedopgkbajhanaaGreatDoorFacts
import Derived.Test.YtedopgkbajhanaaGreatDoorShelf
import Derived.Test.YtedopgkbajhanaaGreatDoorMod
import Derived.Lib.Builder
import Derived.Lib.UnsafeStr
namespace Go.Proofs.YtedopgkbajhanaaGreatDoor
open Go Go.RowKit

theorem strCells_bytesV (s : ByteArray) : Lib.strCells s = bytesV (bytesOf s) := by
  simp only [Lib.strCells, bytesV, bytesOf, List.map_map]
  rfl

structure Bld (w : World) (base g t : Nat) (rest : List Value) (A : Option Addr) (c : Nat) (out : List Nat) : Prop where
  g1 : g < base
  top : base ≤ w.heap.size
  blk : ∃ pa, (pa = .pointer none ∨ pa = .pointer (some ⟨g, 0, none⟩)) ∧ Blk w g t (pa :: .slice A out.length c :: rest)
  own : Own w base 5 1 A out.length c (bytesV out)

theorem Bld.grow {w w' : World} {base g t : Nat} {rest : List Value} {A : Option Addr} {c : Nat} {out : List Nat} (h : Bld w base g t rest A c out) (k : Ext w w') : Bld w' base g t rest A c out :=
  ⟨h.g1, Nat.le_trans h.top k.size, let ⟨pa, h1, h2⟩ := h.blk; ⟨pa, h1, h2.ext k⟩, h.own.ext k⟩

/-- What a builder's methods may touch. -/
def BldS (g : Nat) (A : Option Addr) : Nat → Prop := fun k => k = g ∨ rowS A k
theorem BldS.moved {w : World} {g : Nat} {A A' : Option Addr} (h : Moved w A A') : ∀ k, BldS g A' k → BldS g A k ∨ w.heap.size ≤ k := by
  rintro k (rfl | hk)
  · exact .inl (.inl rfl)
  · rcases h.rows k hk with h | h
    · exact .inl (.inr h)
    · exact .inr h

/-- A builder lies at the head of a variable of this type and size. -/
def LiesB (t m : Nat) : Prop := liesAt Tryz.prog Tryz.prog.depth t (m / Tryz.prog.cellsOf t) 0 86 1 = true

theorem Blk.shape {w : World} {g t : Nat} {cs : List Value} (h : Blk w g t cs) : w.shape? g = some (t, cs.length) := by
  unfold World.shape?; rw [h]; simp

theorem gxP : gx.P = Tryz.prog := rfl

theorem builder_info : ∃ j, Tryz.prog.info? 86 = some j ∧ j.size ≠ 0 := by
  obtain ⟨_, i, hi, hs, _⟩ := gx_ok.row (t := 86) rfl
  exact ⟨i, hi, by rw [hs]; decide⟩

theorem copyCheck_fn (g t : Nat) (pa sl : Value) (rest : List Value) (w : World) (hl : LiesB t (rest.length + 2)) (hp : pa = .pointer none ∨ pa = .pointer (some ⟨g, 0, none⟩)) (hB : Blk w g t (pa :: sl :: rest)) :
    Fn Tryz.prog 98 [.pointer (some ⟨g, 0, none⟩)] w (fun _ w' => Mod (· = g) w w' ∧ Blk w' g t (.pointer (some ⟨g, 0, none⟩) :: sl :: rest)) := by
  obtain ⟨j, hj, hj0⟩ := builder_info
  refine fn_of_exec (c := c98) gx_ok Tryz.func98 rfl rfl rfl ?_
  have hsh := hB.shape
  have ucs := Tryz.underlying84
  have uus := Tryz.underlying192
  rcases hp with rfl | rfl
  · refine load_blk hB rfl ?_
    refine wif_t rfl ?_
    refine at_run (w' := w) (v := .pointer (some ⟨g, 0, none⟩)) (fun a hf => ?_) ?_
    · have e1 := hf.ev (show Env.ev _ (.tmp 8) = some (.pointer (some ⟨g, 0, none⟩)) from rfl)
      have := Lib.run_to_unsafe (P := Tryz.prog) (src := 84) (dst := 192) w ⟨g, 0, none⟩ ucs uus hj hj0 hsh (by simp)
      simp only [execOp, e1]
      simp [gxP, this]
    refine at_run (w' := w) (v := .pointer (some ⟨g, 0, none⟩)) (fun a hf => ?_) ?_
    · have e1 := hf.ev (show Env.ev _ (.tmp 9) = some (.pointer (some ⟨g, 0, none⟩)) from rfl)
      have := run_callFunc_extern (P := Tryz.prog) (e := Extern.AbiNoEscape.same) Tryz.func131 (by kernel_rfl) (by kernel_rfl) (by kernel_rfl) (by kernel_rfl) #[.pointer (some ⟨g, 0, none⟩)] w
      rw [Lib.run_noEscape] at this
      simp only [execOp, resolve, invoke]
      simp [Deferred.ofValue, Act.eval] at e1 ⊢
      simp [e1, gxP, this]
    refine at_run (w' := w) (v := .pointer (some ⟨g, 0, none⟩)) (fun a hf => ?_) ?_
    · have e1 := hf.ev (show Env.ev _ (.tmp 10) = some (.pointer (some ⟨g, 0, none⟩)) from rfl)
      have := Lib.run_from_unsafe (P := Tryz.prog) (src := 192) (dst := 84) (u := 86) w ⟨g, 0, none⟩ uus ucs hj hsh (by simpa [LiesB] using hl)
      simp only [execOp, e1]
      simp [gxP, this]
    refine store_mod hB (by simp) (fun w1 hm hB1 => ?_)
    exact ⟨hm, hB1⟩
  · refine load_blk hB rfl ?_
    refine wif_f rfl ?_
    refine load_blk hB rfl ?_
    refine at_run (w' := w) (v := .bool false) (fun a hf => ?_) ?_
    · have e1 := hf.ev (show Env.ev _ (.tmp 17) = some (.pointer (some ⟨g, 0, none⟩)) from rfl)
      have e2 := hf.ev (show Env.ev _ (.tmp 18) = some (.pointer (some ⟨g, 0, none⟩)) from rfl)
      have := Lib.run_neq_ptr_same (P := Tryz.prog) (tp := 84) w ⟨g, 0, none⟩ ucs hj
      simp only [execOp, e1, e2, eqGuard]
      simp [gxP, this]
    refine wif_f rfl ?_
    exact ⟨Mod.refl _ _, hB⟩

theorem writeString_fn (base g t : Nat) (rest : List Value) (A : Option Addr) (c : Nat) (out : List Nat) (s : ByteArray) (w : World) (hl : LiesB t (rest.length + 2)) (hb : Bld w base g t rest A c out) (hs : out.length + s.size ≤ 140737488355328) :
    Fn Tryz.prog 57 [.pointer (some ⟨g, 0, none⟩), .string s] w (fun _ w' => ∃ A' c', Bld w' base g t rest A' c' (out ++ bytesOf s) ∧ Mod (BldS g A) w w' ∧ Moved w A A') := by
  refine fn_of_exec (c := c57) gx_ok Tryz.func57 rfl rfl rfl ?_
  obtain ⟨pa, hpa, hB⟩ := hb.blk
  refine call (copyCheck_fn g t pa _ rest w hl hpa hB) ?_
  rintro v w1 ⟨hm1, hB1⟩
  have hrows := hb.own.rows
  have hg1 := hb.g1
  have hn : ¬ rowS A g := fun h => by have := (hrows g h).1; omega
  have hown1 := hb.own.mod hm1 (fun k hk e => hn (e ▸ hk))
  refine load_blk hB1 rfl ?_
  refine at_app_str gx_ok rfl rfl rfl rfl rfl rfl rfl rfl rfl rfl rfl hown1 hs (by have := hm1.size; have := hb.top; omega) ?_
  intro A' c' w2 hm2 hown2 hmv2
  refine store_mod (hB1.mod hm2 hn) (by simp) (fun w3 hm3 hB3 => ?_)
  have hlen : (out ++ bytesOf s).length = out.length + s.size := by rw [List.length_append, bytesOf_length]
  have hrows2 := hown2.rows
  refine ⟨A', c', ⟨hg1, by have := hm1.size; have := hm2.size; have := hm3.size; have := hb.top; omega, ⟨_, .inr rfl, by rw [hlen]; exact hB3⟩, ?_⟩, ?_, hmv2.back hm1.size⟩
  · rw [hlen, bytesV_append, ← strCells_bytesV]
    exact hown2.mod hm3 (fun k hk e => by have := (hrows2 k hk).1; omega)
  · exact ((hm1.mono (S' := BldS g A) (fun i hi => .inl (.inl hi))).trans hm2 (fun i hi => .inl (.inr hi))).trans hm3 (fun i hi => .inl (.inl hi))

theorem bytesV_u8 (l : List Nat) (h : ∀ x ∈ l, x < 256) : bytesV l = Lib.byteCells (l.map UInt8.ofNat) := by
  simp only [bytesV, Lib.byteCells, List.map_map]
  apply List.map_congr_left
  intro x hx
  simp [Nat.mod_eq_of_lt (h x hx)]

theorem freeze_mod (w : World) (g n : Nat) {S : Nat → Prop} (h : S g) : Mod S w (w.freeze ⟨g, 0, none⟩ n) := by
  unfold World.freeze
  split
  · exact Mod.refl _ _
  · refine ⟨rfl, rfl, rfl, by simp, fun k hk hn => ?_⟩
    simp only [Array.getElem?_modify]
    rw [if_neg (fun (e : g = k) => hn (e ▸ h))]

theorem string_fn (base g t : Nat) (rest : List Value) (A : Option Addr) (c : Nat) (out : List Nat) (w : World) (hb : Bld w base g t rest A c out) (h8 : ∀ x ∈ out, x < 256) (hs : out.length ≤ 140737488355328) :
    Fn Tryz.prog 47 [.pointer (some ⟨g, 0, none⟩)] w (fun v w' => v = .string (strOf out) ∧ Mod (rowS A) w w') := by
  obtain ⟨pa, hpa, hB⟩ := hb.blk
  refine fn_of_exec (c := c47) gx_ok Tryz.func47 rfl rfl rfl ?_
  have hlen : (bytesV out).length = out.length := bytesV_length out
  refine draw_plan gx_ok (Ext w) 10 [(true, 0), (true, 1), (true, 2), (true, 3), (true, 5), (true, 6), (true, 7), (true, 8), (true, 9), (false, 4)] (by kernel_rfl) (Ext.drew w) ?_
  refine qload (v := .slice A out.length c) (fun w' hw' => by rw [(hB.ext hw').cell]; rfl) ?_
  refine qload (v := .slice A out.length c) (fun w' hw' => by rw [(hB.ext hw').cell]; rfl) ?_
  have fin0 : out.length = 0 → Value.string ByteArray.empty = Value.string (strOf out) := fun h0 => by
    have : out = [] := List.eq_nil_of_length_eq_zero h0
    subst this; rfl
  by_cases h0 : out.length = 0
  · have key : ∃ p w1, (Builtin.unsafeSliceData_ #[74] 140 #[.slice A out.length c]).run Tryz.prog w.drew = .ok (.pointer p) w1 ∧ Ext w w1 := by
      rcases hb.own.row.2 with ⟨hv, _⟩ | ⟨g', cap, cur, hv, hb', hg', _⟩
      · simp only [Value.slice.injEq] at hv
        obtain ⟨rfl, _, rfl⟩ := hv
        exact ⟨none, w.drew, Lib.run_unsafeSliceData_nil _ _ _ _ _, Ext.drew w⟩
      · simp only [Value.slice.injEq] at hv
        obtain ⟨rfl, _, rfl⟩ := hv
        by_cases hc0 : c = 0
        · subst hc0
          have hsh : w.drew.shape? g' = some (5, cur.size) := by
            unfold World.shape?; rw [show w.drew.heap[g']? = _ from hg']
          exact ⟨_, _, Lib.run_unsafeSliceData_zero (P := Tryz.prog) w.drew _ _ 5 Tryz.underlying140 ⟨g', 0, none⟩ _ _ hsh, (Ext.drew w).trans (Ext.alloc _ _)⟩
        · exact ⟨_, w.drew, Lib.run_unsafeSliceData_row (P := Tryz.prog) w.drew _ _ ⟨g', 0, none⟩ _ _ hc0, Ext.drew w⟩
    obtain ⟨p, w1, hrun, hE1⟩ := key
    refine at_run (w' := w1) (v := .pointer p) (fun a hf => ?_) ⟨hE1, ?_⟩
    · have e1 := hf.ev (show Env.ev _ (.tmp 6) = some (.slice A out.length c) from rfl)
      simp only [execOp, resolve, invoke, builtin]
      simp [gxP, e1, hrun]
    refine at_run (w' := w1) (v := .string ByteArray.empty) (fun a hf => ?_) ?_
    · have e1 := hf.ev (show Env.ev _ (.tmp 7) = some (.pointer p) from rfl)
      have e2 := hf.ev (show Env.ev _ (.tmp 12) = some (.int .i64 out.length) from rfl)
      have := Lib.run_unsafeString_none (P := Tryz.prog) w1 140 3 9 p
      rw [h0] at e2
      simp only [execOp, resolve, invoke, builtin]
      simp [gxP, e1, e2]
      rw [this]; rfl
    exact ⟨fin0 h0, Mod.of_ext _ hE1⟩
  · obtain ⟨g', sp, rfl, hb', hB', hl'⟩ := hb.own.blk (by omega)
    have hle := hb.own.sl.le
    refine at_run (w' := w.drew) (v := .pointer (some ⟨g', 0, none⟩)) (fun a hf => ?_) ⟨Ext.drew w, ?_⟩
    · have e1 := hf.ev (show Env.ev _ (.tmp 6) = some (.slice (some ⟨g', 0, none⟩) out.length c) from rfl)
      have := Lib.run_unsafeSliceData_row (P := Tryz.prog) w.drew #[74] 140 ⟨g', 0, none⟩ out.length c (by omega)
      simp only [execOp, resolve, invoke, builtin]
      simp [gxP, e1, this]
    refine at_run (w' := w.drew.freeze ⟨g', 0, none⟩ out.length) (v := .string (strOf out)) (fun a hf => ?_) ?_
    · have e1 := hf.ev (show Env.ev _ (.tmp 7) = some (.pointer (some ⟨g', 0, none⟩)) from rfl)
      have e2 := hf.ev (show Env.ev _ (.tmp 12) = some (.int .i64 out.length) from rfl)
      have hsh : w.drew.shape? g' = some (5, (bytesV out ++ sp).length) := (hB'.ext (Ext.drew w)).shape
      have hl2 : (out.map UInt8.ofNat).length = out.length := by simp
      have := Lib.run_unsafeString_row (P := Tryz.prog) w.drew 140 3 9 5 Tryz.underlying140 (by kernel_rfl) g' _ hsh (out.map UInt8.ofNat) (by intro e; apply h0; rw [← hl2, e]; rfl) (by simp [bytesV_length]) (by rw [hl2]; omega) (fun j x hj => by
        rw [(hB'.ext (Ext.drew w)).cell]
        simp only [List.getElem?_map, Option.map_eq_some_iff] at hj
        obtain ⟨y, hy, rfl⟩ := hj
        have hjl : j < out.length := (List.getElem?_eq_some_iff.1 hy).1
        rw [List.getElem?_append_left (by rw [hlen]; exact hjl), bytesV_get' hy]
        have := h8 y (List.mem_of_getElem? hy)
        simp [Nat.mod_eq_of_lt this])
      rw [hl2] at this
      simp only [execOp, resolve, invoke, builtin]
      simp [gxP, e1, e2]
      rw [this]; rfl
    exact ⟨rfl, (Mod.of_ext (rowS _) (Ext.drew w)).trans (freeze_mod w.drew g' out.length (S := rowS (some ⟨g', 0, none⟩)) ⟨_, rfl, rfl⟩) (fun i hi => .inl hi)⟩
end Go.Proofs.YtedopgkbajhanaaGreatDoor
