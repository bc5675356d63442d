/-
  Diagrams: which are valid; level, equality.
  Diagrams: the walk that numbers: plain facts; the map of numbers.
  Diagrams: the closure that numbers branches.
  Diagrams: the builder's diagram.
  Diagrams: Check. (Printed by ga5gen.py.)
  Diagrams: Check: the contract.
  Conditions: none.
-/
import Derived.Test.YtedopgkbajhanaaGreatDoorKd
namespace Go.Proofs.YtedopgkbajhanaaGreatDoor
section
open Go Go.RowKit

/-- A branch. -/
structure Br where
  v : Int
  l : Int
  h : Int
deriving DecidableEq
def Br.cells (x : Br) : List Value := [.int .i64 x.v, .int .i64 x.l, .int .i64 x.h]
theorem br_len (x : Br) : x.cells.length = 3 := rfl
abbrev SB (w : World) (A : Option Addr) (n c : Nat) (d : List Br) : Prop := SlS Br.cells 3 w A n c d
def dgV (A : Option Addr) (n c : Nat) (r : Int) : Value := .agg #[.slice A n c, .int .i64 r]

/-- The condition of a number. -/
def lvlD (d : List Br) (n : Int) : Int := if n < 2 then 64 else (d[(n - 2).toNat]?.map (·.v)).getD 64

/-- The walk that numbers branches in the order in which it leaves them. -/
def vis (nd : List Br) : Nat → Int → List Br × List Nat → Int × (List Br × List Nat)
  | 0, n, st => (n, st)
  | m + 1, n, st => if n < 2 then (n, st) else
      if 0 < st.2[(n - 2).toNat]?.getD 0 then ((st.2[(n - 2).toNat]?.getD 0 : Nat), st) else
        match nd[(n - 2).toNat]? with
        | none => (n, st)
        | some x =>
          let a := vis nd m x.l st
          let b := vis nd m x.h a.2
          (((b.2.1.length + 2 : Nat) : Int), (b.2.1 ++ [⟨x.v, a.1, b.1⟩], b.2.2.set (n - 2).toNat (b.2.1.length + 2)))
def numberedD (nd : List Br) (r : Int) : List Br × Int := let a := vis nd (r.toNat + 1) r ([], List.replicate nd.length 0); (a.2.1, a.1)

/-- Children come before their branches. -/
def WfB (nd : List Br) : Prop := ∀ (j : Nat) (x : Br), nd[j]? = some x → 0 ≤ x.l ∧ x.l < j + 2 ∧ 0 ≤ x.h ∧ x.h < j + 2
def brOk (nd : List Br) (j : Nat) (b : Br) : Prop := 0 ≤ b.v ∧ b.v ≤ 63 ∧ 0 ≤ b.l ∧ b.l < j + 2 ∧ 0 ≤ b.h ∧ b.h < j + 2 ∧ b.l ≠ b.h ∧ b ∉ nd.take j ∧ b.v < lvlD nd b.l ∧ b.v < lvlD nd b.h
def VD (nd : List Br) (r : Int) : Prop := (∀ (j : Nat) (b : Br), nd[j]? = some b → brOk nd j b) ∧ 0 ≤ r ∧ r < nd.length + 2 ∧ numberedD nd r = (nd, r)
open Classical in
noncomputable def chkD (nd : List Br) (r : Int) : Int := if 4096 < nd.length then 2 else if VD nd r then 0 else 20
theorem chkD_large {nd : List Br} {r : Int} (h : 4096 < nd.length) : chkD nd r = 2 := if_pos h
theorem chkD_ok {nd : List Br} {r : Int} (h : ¬ 4096 < nd.length) (k : VD nd r) : chkD nd r = 0 := (if_neg h).trans (if_pos k)
theorem chkD_no {nd : List Br} {r : Int} (h : ¬ 4096 < nd.length) (k : ¬ VD nd r) : chkD nd r = 20 := (if_neg h).trans (if_neg k)
theorem chkD_zero {nd : List Br} {r : Int} : chkD nd r = 0 ↔ ¬ 4096 < nd.length ∧ VD nd r := by
  constructor
  · intro h
    unfold chkD at h
    split at h
    · cases h
    · split at h
      · exact ⟨by assumption, by assumption⟩
      · cases h
  · exact fun h => chkD_ok h.1 h.2
theorem VD.wf {nd : List Br} {r : Int} (h : VD nd r) : WfB nd := fun j x hx => by
  obtain ⟨_, _, h1, h2, h3, h4, _⟩ := h.1 j x hx
  exact ⟨h1, h2, h3, h4⟩

theorem level_fn (A : Option Addr) (n c : Nat) (r m : Int) (nd : List Br) (w : World) (h : SB w A n c nd) (hm : m < n + 2) :
    Fn Tryz.prog 94 [dgV A n c r, .int .i64 m] w (fun v w' => v = .int .i64 (lvlD nd m) ∧ Ext w w') := by
  have hlen := h.2
  refine fn_of_exec (c := { c94 with cuts := [] }) gx_ok Tryz.func94 rfl rfl rfl ?_
  refine new (fun w1 hE1 hz1 hB1 => ?_)
  refine wif_d (fun h1 => ?_) (fun h1 => ?_)
  · exact ⟨by unfold lvlD; rw [if_pos h1], hE1⟩
  · refine load_blk0 hB1 rfl ?_
    refine norm_i64_to (((m - 2).toNat : Nat) : Int) (by omega) (by have := h.1.le; have := h.1.cap; simp only [maxLen] at this; omega) ?_
    refine index_sls br_len (h.ext hE1) rfl (by omega) (fun p x hx hc => ?_)
    refine load (hc 0 _ rfl) ?_
    exact ⟨by unfold lvlD; rw [if_neg h1, hx]; rfl, hE1⟩

theorem eq3 (a b c a' b' c' : Int) : (a == a' && (b == b' && (c == c' && true))) = decide (a = a' ∧ b = b' ∧ c = c') := by
  rw [Bool.eq_iff_iff]
  simp only [Bool.and_eq_true, beq_iff_eq, decide_eq_true_eq, and_true]
theorem br_eq {x y : Br} : x = y ↔ x.v = y.v ∧ x.l = y.l ∧ x.h = y.h := by
  constructor
  · rintro rfl; exact ⟨rfl, rfl, rfl⟩
  · obtain ⟨a, b, c⟩ := x; obtain ⟨d, e, f⟩ := y
    rintro ⟨rfl, rfl, rfl⟩; rfl

theorem list_ne {α : Type} {l l' : List α} {j : Nat} {x y : α} (hx : l[j]? = some x) (hy : l'[j]? = some y) (h : x ≠ y) : l ≠ l' := fun e => by subst e; exact h (Option.some.inj (hx.symm.trans hy))
theorem list_eq {α : Type} {l l' : List α} {n : Nat} (h1 : l.length = n) (h2 : l'.length = n) (h : ∀ j, j < n → l[j]? = l'[j]?) : l = l' := by
  apply List.ext_getElem?
  intro j
  by_cases hj : j < n
  · exact h j hj
  · rw [List.getElem?_eq_none (by omega), List.getElem?_eq_none (by omega)]

theorem equal_fn (A B : Option Addr) (n c m e : Nat) (l l' : List Br) (w : World) (h : SB w A n c l) (h' : SB w B m e l') :
    Fn Tryz.prog 66 [.slice A n c, .slice B m e] w (fun v w' => v = .bool (decide (l = l')) ∧ Ext w w') := by
  have hl := h.2
  have hl' := h'.2
  refine fn_of_exec (c := { c66 with cuts := [] }) gx_ok Tryz.func66 rfl rfl rfl ?_
  refine wif_ne (fun h1 => ?_) (fun h1 => ?_)
  · exact ⟨by rw [decide_eq_false (fun e => by subst e; omega)], Ext.refl w⟩
  refine loop gx_ok [13] (fun s : Nat => [.int .i64 s]) (fun s w' => Ext w w' ∧ s ≤ n ∧ ∀ j, j < s → l[j]? = l'[j]?) (fun s _ => n - s) 0 rfl ⟨Ext.refl w, Nat.zero_le _, fun j hj => absurd hj (by omega)⟩ ?_
  rintro s w1 ⟨hE1, hs, hall⟩
  refine wif_d (fun h2 => ?_) (fun h2 => ?_)
  · refine draw_plan gx_ok (Ext w1) 9 [(true, 0), (true, 1), (true, 2), (true, 3), (true, 4), (true, 5), (true, 6), (true, 7), (true, 8)] (by kernel_rfl) (Ext.drew w1) ?_
    refine index_sls br_len (h.ext hE1) rfl (by omega) (fun p x hx hc => ?_)
    refine qloadN (vs := x.cells) rfl (fun w' hw' j v hj => hw'.cell (hc j v hj)) ?_
    refine index_sls br_len (h'.ext hE1) rfl (by omega) (fun q y hy hc' => ?_)
    refine qloadN (vs := y.cells) rfl (fun w' hw' j v hj => hw'.cell (hc' j v hj)) ?_
    have hEd := hE1.trans (Ext.drew w1)
    by_cases hxy : x = y
    · refine wif_f (by rw [eq3, decide_eq_true (br_eq.1 hxy)]; rfl) ?_
      refine norm_i64_to ((s + 1 : Nat) : Int) (by omega) (by have := h.1.le; have := h.1.cap; simp only [maxLen] at this; omega) ?_
      refine ⟨s + 1, rfl, ⟨hEd, by omega, fun j hj => ?_⟩, by show n - (s + 1) < n - s; omega⟩
      by_cases hjs : j < s
      · exact hall j hjs
      · have : j = s := by omega
        subst this
        rw [hx, hy, hxy]
    · refine wif_t (by rw [eq3, decide_eq_false (fun e => hxy (br_eq.2 e))]; rfl) ?_
      exact ⟨by rw [decide_eq_false (list_ne hx hy hxy)], hEd⟩
  · exact ⟨by rw [decide_eq_true (list_eq hl (by omega) (fun j hj => hall j (by omega)))], hE1⟩

theorem same_fn (A B : Option Addr) (n c m e : Nat) (l l' : List Br) (r r' : Int) (w : World) (h : SB w A n c l) (h' : SB w B m e l') :
    Fn Tryz.prog 37 [dgV A n c r, dgV B m e r'] w (fun v w' => v = .bool (decide ((l, r) = (l', r'))) ∧ Ext w w') := by
  refine fn_of_exec (c := { c37 with cuts := [] }) gx_ok Tryz.func37 rfl rfl rfl ?_
  refine new (fun w1 hE1 hz1 hB1 => ?_)
  refine new (fun w2 hE2 hz2 hB2 => ?_)
  have hB12 := hB1.ext hE2
  have hE02 := hE1.trans hE2
  refine load_blk hB12 rfl ?_
  refine load_blk hB2 rfl ?_
  refine wif_eq (fun h1 => ?_) (fun h1 => ?_)
  · refine load_blk0 hB12 rfl ?_
    refine load_blk0 hB2 rfl ?_
    refine call (equal_fn A B n c m e l l' w2 (h.ext hE02) (h'.ext hE02)) ?_
    rintro v w3 ⟨rfl, hE3⟩
    refine ⟨?_, hE02.trans hE3⟩
    congr 1
    exact decide_eq_decide.2 ⟨fun e => by rw [e, h1], fun e => by cases e; rfl⟩
  · exact ⟨by rw [decide_eq_false (fun e => h1 (by cases e; rfl))], hE02⟩
end

section
open Go Go.RowKit

theorem at_insert {α : Type} [DecidableEq α] {kv : α → Value} {c : Cx} {o : Oper} {S : Env} {w : World} {K : Env → World → Prop} {Q : Post} {t ke e : Nat} {r rk : TyRow} {x y : Operand} {q : Nat} {m : List (α × Value)} {a : α} {v : Value} {z : Operand} (hg : c.g.Ok)
    (ho : o.op = .insert t x y z) (hdst : o.dst = none) (hr : rowOf c.g.tys t = some r) (hd : r.d = .map ke e) (hrk : rowOf c.g.tys ke = some rk) (hk : KeyV rk.d kv)
    (hx : S.ev x = some (.map (some q))) (hy : S.ev y = some (kv a)) (hz : S.ev z = some v) (hm : MapAt kv w q m)
    (k : ∀ w1, w.grownBy w1 (some q) → w1.heap.size = w.heap.size → MapAt kv w1 q (assocSet a v m) → K S w1) : AtOp c o S w K Q := by
  have h : AtOp c { o with op := .mapUpdate t x y z } S w K Q := at_mapUpdate hg rfl hdst hr hd hrk hk hx hy hz hm k
  unfold AtOp at *
  intro b hf
  have h1 := h b hf
  unfold Oper.wp at *
  have e : (execOp b.eval o).run c.g.P w = (execOp b.eval { o with op := .mapUpdate t x y z }).run c.g.P w := by simp only [execOp, ho]
  rw [e]
  generalize (execOp b.eval { o with op := .mapUpdate t x y z }).run c.g.P w = r at *
  cases r with
  | ok n w' => cases n <;> simp only [Oper.upon] at h1 ⊢ <;> exact h1
  | halt x w' => cases x <;> simp only [Oper.upon] at h1 ⊢ <;> exact h1

theorem count_set {l : List Nat} {j v : Nat} (h : l[j]? = some 0) (hv : 0 < v) : (l.set j v).count 0 + 1 = l.count 0 := by
  induction l generalizing j with
  | nil => simp at h
  | cons x l ih =>
    cases j with
    | zero =>
      simp at h
      subst h
      rw [List.set_cons_zero, List.count_cons_of_ne (by omega), List.count_cons_self]
    | succ j =>
      simp at h
      have := ih h
      rw [List.set_cons_succ, List.count_cons, List.count_cons]
      omega

theorem vis_lt {nd : List Br} {m : Nat} {n : Int} {st : List Br × List Nat} (h : n < 2) : vis nd (m + 1) n st = (n, st) := by rw [vis, if_pos h]
theorem vis_old {nd : List Br} {m : Nat} {n : Int} {st : List Br × List Nat} (h : ¬ n < 2) (k : 0 < st.2[(n - 2).toNat]?.getD 0) : vis nd (m + 1) n st = (((st.2[(n - 2).toNat]?.getD 0 : Nat) : Int), st) := by rw [vis, if_neg h, if_pos k]
theorem vis_new {nd : List Br} {m : Nat} {n : Int} {st : List Br × List Nat} {x : Br} (h : ¬ n < 2) (k : ¬ 0 < st.2[(n - 2).toNat]?.getD 0) (hx : nd[(n - 2).toNat]? = some x) :
    vis nd (m + 1) n st = ((((vis nd m x.h (vis nd m x.l st).2).2.1.length + 2 : Nat) : Int), ((vis nd m x.h (vis nd m x.l st).2).2.1 ++ [⟨x.v, (vis nd m x.l st).1, (vis nd m x.h (vis nd m x.l st).2).1⟩], (vis nd m x.h (vis nd m x.l st).2).2.2.set (n - 2).toNat ((vis nd m x.h (vis nd m x.l st).2).2.1.length + 2))) := by
  rw [vis, if_neg h, if_neg k, hx]

structure VisF (nd : List Br) (n : Int) (st st' : List Br × List Nat) : Prop where
  len : st'.2.length = nd.length
  keep : ∀ k : Nat, n < (k : Int) + 2 → st'.2[k]? = st.2[k]?
  cnt : st'.1.length + st'.2.count 0 ≤ st.1.length + st.2.count 0
  ge : st.1.length ≤ st'.1.length
theorem vis_facts {nd : List Br} (hw : WfB nd) : ∀ (m : Nat) (n : Int) (st : List Br × List Nat), 0 ≤ n → n < m → n < nd.length + 2 → st.2.length = nd.length → VisF nd n st (vis nd m n st).2
  | 0, n, st, h0, hm, _, _ => by omega
  | m + 1, n, st, h0, hm, hn, hl => by
    by_cases h1 : n < 2
    · rw [vis_lt h1]; exact ⟨hl, fun _ _ => rfl, Nat.le_refl _, Nat.le_refl _⟩
    by_cases h2 : 0 < st.2[(n - 2).toNat]?.getD 0
    · rw [vis_old h1 h2]; exact ⟨hl, fun _ _ => rfl, Nat.le_refl _, Nat.le_refl _⟩
    have hj : (n - 2).toNat < nd.length := by omega
    have hx := List.getElem?_eq_getElem hj
    obtain ⟨w1, w2, w3, w4⟩ := hw _ _ hx
    rw [vis_new h1 h2 hx]
    have f1 := vis_facts hw m nd[(n - 2).toNat].l st w1 (by omega) (by omega) hl
    have f2 := vis_facts hw m nd[(n - 2).toNat].h _ w3 (by omega) (by omega) f1.len
    generalize (vis nd m nd[(n - 2).toNat].l st) = a at *
    generalize (vis nd m nd[(n - 2).toNat].h a.2) = b at *
    have hz : st.2[(n - 2).toNat]? = some 0 := by
      have : st.2[(n - 2).toNat]? = some st.2[(n - 2).toNat] := List.getElem?_eq_getElem (by omega)
      rw [this] at h2 ⊢
      simp only [Option.getD_some] at h2
      congr 1; omega
    have hz2 : b.2.2[(n - 2).toNat]? = some 0 := by rw [f2.keep _ (by omega), f1.keep _ (by omega), hz]
    have hc := count_set (v := b.2.1.length + 2) hz2 (by omega)
    have c1 := f1.cnt
    have c2 := f2.cnt
    have g1 := f1.ge
    have g2 := f2.ge
    refine ⟨by rw [List.length_set]; exact f2.len, fun k hk => ?_, ?_, ?_⟩
    · rw [List.getElem?_set_ne (by omega), f2.keep k (by omega), f1.keep k (by omega)]
    · rw [List.length_append]; simp only [List.length_cons, List.length_nil]; omega
    · rw [List.length_append]; omega

abbrev intK : Int → Value := fun n => .int .i64 n
/-- The map tells the numbers that are given so far. -/
def MapOk (num : List Nat) (m : List (Int × Value)) : Prop := ∀ n : Int, 0 ≤ n → assoc n m = if n < 2 then some (.int .i64 n) else if 0 < num[(n - 2).toNat]?.getD 0 then some (.int .i64 (num[(n - 2).toNat]?.getD 0 : Nat)) else none
theorem MapOk.set {num : List Nat} {m : List (Int × Value)} (h : MapOk num m) {n : Int} (h2 : ¬ n < 2) (hl : (n - 2).toNat < num.length) {v : Nat} (hv : 0 < v) : MapOk (num.set (n - 2).toNat v) (assocSet n (.int .i64 (v : Nat)) m) := by
  intro k hk
  rw [assoc_set]
  by_cases e : k = n
  · subst e
    rw [if_pos rfl, if_neg h2, List.getElem?_set_self hl]
    simp only [Option.getD_some]
    rw [if_pos hv]
  · rw [if_neg e, h k hk]
    by_cases hk2 : k < 2
    · rw [if_pos hk2, if_pos hk2]
    · rw [if_neg hk2, if_neg hk2, List.getElem?_set_ne (by omega)]
theorem mapOk_init (n : Nat) : MapOk (List.replicate n 0) (assocSet 1 (.int .i64 1) (assocSet 0 (.int .i64 0) [])) := by
  intro k hk
  rw [assoc_set, assoc_set]
  by_cases h1 : k = 1
  · subst h1; rfl
  · rw [if_neg h1]
    by_cases h0 : k = 0
    · subst h0; rfl
    · rw [if_neg h0, if_neg (by omega), if_neg]
      · rfl
      · cases h : (List.replicate n 0)[(k - 2).toNat]? with
        | none => simp
        | some x =>
          have := List.eq_of_mem_replicate (List.mem_of_getElem? h)
          rw [this]; simp
end

section
open Go Go.RowKit

def brV (l : List Br) : List Value := l.flatMap Br.cells
theorem brV_snoc (l : List Br) (x : Br) : brV (l ++ [x]) = brV l ++ x.cells := by simp [brV]

/-- Where the closure's variables lie. -/
structure VP where
  mb : Nat
  q : Nat
  bb : Nat
  bp : Nat
  fb : Nat
  ob : Nat
def VP.ptr (i : Nat) : Value := .pointer (some ⟨i, 0, none⟩)
def VP.clo (p : VP) : Value := .func (.func 128) #[] #[VP.ptr p.mb, VP.ptr p.bb, VP.ptr p.fb, VP.ptr p.ob]
/-- The variables that stay. -/
structure VK (w : World) (base : Nat) (p : VP) (NA : Option Addr) (nn nc : Nat) (nd : List Br) : Prop where
  mbx : Blk w p.mb 188 [.map (some p.q)]
  bbx : Blk w p.bb 156 [VP.ptr p.bp]
  bpx : ∃ kv, Blk w p.bp 159 [.slice NA nn nc, kv]
  fbx : Blk w p.fb 189 [p.clo]
  nds : SB w NA nn nc nd
  lt : p.q < base ∧ p.ob < base
  ne : p.q ≠ p.ob ∧ p.q ≠ p.mb ∧ p.q ≠ p.bb ∧ p.q ≠ p.bp ∧ p.q ≠ p.fb ∧ p.ob ≠ p.mb ∧ p.ob ≠ p.bb ∧ p.ob ≠ p.bp ∧ p.ob ≠ p.fb
  lt2 : p.mb < base ∧ p.bb < base ∧ p.bp < base ∧ p.fb < base
  row : ∀ ad, NA = some ad → 0 < nn → ad.block < base ∧ ad.block ≠ p.q ∧ ad.block ≠ p.ob
/-- What the closure writes. -/
def VS (p : VP) (A : Option Addr) : Nat → Prop := fun k => k = p.q ∨ k = p.ob ∨ rowS A k
theorem VS.moved {w : World} {p : VP} {A A' : Option Addr} (h : Moved w A A') : ∀ k, VS p A' k → VS p A k ∨ w.heap.size ≤ k := by
  rintro k (rfl | rfl | hk)
  · exact .inl (.inl rfl)
  · exact .inl (.inr (.inl rfl))
  · rcases h.rows k hk with h | h
    · exact .inl (.inr (.inr h))
    · exact .inr h
theorem Mod.cell {S : Nat → Prop} {w w' : World} (k : Mod S w w') {a : Addr} {v : Value} (h : w.cell? a = some v) (hn : ¬ S a.block) : w'.cell? a = some v := by
  have hlt := World.block_lt_of_cell? w a h
  have e := k.block a.block hlt hn
  unfold World.cell? at h ⊢
  rw [e]; exact h
theorem Sl.modS {S : Nat → Prop} {w w' : World} {sz n c : Nat} {A : Option Addr} {cs : List Value} (h : Sl w sz A n c cs) (k : Mod S w w') (hn : 0 < n → ∀ i, rowS A i → ¬ S i) : Sl w' sz A n c cs :=
  ⟨h.len, h.le, h.cap, fun h0 => by
    obtain ⟨ad, rfl, hc⟩ := h.at_ h0
    exact ⟨ad, rfl, fun j u hu => k.cell (hc j u hu) (hn h0 _ ⟨ad, rfl, (block_add ad j).symm⟩)⟩⟩
theorem at_lookup' {α : Type} [DecidableEq α] {kv : α → Value} {c : Cx} {o : Oper} {S : Env} {w : World} {K : Env → World → Prop} {Q : Post} {t ke e : Nat} {r rk re : TyRow} {x y : Operand} {q : Nat} {m : List (α × Value)} {a : α} {v : Value} (hg : c.g.Ok)
    (ho : o.op = .lookup t x y false) (hr : rowOf c.g.tys t = some r) (hd : r.d = .map ke e) (hrk : rowOf c.g.tys ke = some rk) (hre : rowOf c.g.tys e = some re) (hk : KeyV rk.d kv)
    (hx : S.ev x = some (.map (some q))) (hy : S.ev y = some (kv a)) (hm : MapAt kv w q m) (hv : (assoc a m).getD re.z = v) (k : putK c S o.dst (.v v) (fun S => K S w)) : AtOp c o S w K Q := by
  subst hv
  exact at_lookup hg ho hr hd hrk hre hk hx hy hm k

theorem VK.mod {w w' : World} {base : Nat} {p : VP} {NA OA : Option Addr} {nn nc : Nat} {nd : List Br} (h : VK w base p NA nn nc nd) (hr : ∀ i, rowS OA i → base ≤ i) (hm : Mod (VS p OA) w w') : VK w' base p NA nn nc nd := by
  obtain ⟨n1, n2, n3, n4, n5, n6, n7, n8, n9⟩ := h.ne
  obtain ⟨l1, l2, l3, l4⟩ := h.lt2
  have key : ∀ i, i < base → i ≠ p.q → i ≠ p.ob → ¬ VS p OA i := fun i hi hq ho e => by
    rcases e with e | e | e
    · exact hq e
    · exact ho e
    · have := hr i e; omega
  obtain ⟨kv, hbp⟩ := h.bpx
  refine ⟨h.mbx.mod hm (key _ l1 n2.symm n6.symm), h.bbx.mod hm (key _ l2 n3.symm n7.symm), ⟨kv, hbp.mod hm (key _ l3 n4.symm n8.symm)⟩, h.fbx.mod hm (key _ l4 n5.symm n9.symm), ⟨h.nds.1.modS hm ?_, h.nds.2⟩, h.lt, h.ne, h.lt2, h.row⟩
  rintro h0 i ⟨ad, rfl, rfl⟩
  obtain ⟨r1, r2, r3⟩ := h.row ad rfl h0
  exact key _ r1 r2 r3

/-- The state of the walk, in memory. -/
structure VSt (w : World) (base : Nat) (p : VP) (r0 : Int) (OA : Option Addr) (oc : Nat) (st : List Br × List Nat) : Prop where
  own : Own w base 116 3 OA st.1.length oc (brV st.1)
  obx : Blk w p.ob 42 [.slice OA st.1.length oc, .int .i64 r0]
  mp : ∃ mm, MapAt intK w p.q mm ∧ MapOk st.2 mm
  top : base ≤ w.heap.size
theorem VSt.ext {w w' : World} {base : Nat} {p : VP} {r0 : Int} {OA : Option Addr} {oc : Nat} {st : List Br × List Nat} (h : VSt w base p r0 OA oc st) (k : Ext w w') : VSt w' base p r0 OA oc st :=
  ⟨h.own.ext k, h.obx.ext k, let ⟨mm, h1, h2⟩ := h.mp; ⟨mm, h1.ext k, h2⟩, Nat.le_trans h.top k.size⟩
def VTo (w : World) (base : Nat) (p : VP) (r0 : Int) (OA : Option Addr) (st : List Br × List Nat) (w' : World) : Prop := ∃ OA' oc', VSt w' base p r0 OA' oc' st ∧ Mod (VS p OA) w w' ∧ Moved w OA OA'

theorem visit_fn (base : Nat) (p : VP) (r0 : Int) (NA : Option Addr) (nn nc : Nat) (nd : List Br) (hwf : WfB nd) (hnn : nn ≤ 1000000000000) : ∀ (m : Nat) (n : Int) (st : List Br × List Nat) (OA : Option Addr) (oc : Nat) (w : World),
    VK w base p NA nn nc nd → VSt w base p r0 OA oc st → 0 ≤ n → n < m → n < nn + 2 → st.2.length = nn → st.1.length + st.2.count 0 ≤ 1000000000000 →
    Fn Tryz.prog 128 [.int .i64 n, VP.ptr p.mb, VP.ptr p.bb, VP.ptr p.fb, VP.ptr p.ob] w (fun v w' => v = .int .i64 (vis nd m n st).1 ∧ VTo w base p r0 OA (vis nd m n st).2 w')
  | 0, n, st, OA, oc, w, _, _, h0, hm, _, _, _ => by omega
  | m + 1, n, st, OA, oc, w, hK, hS, h0, hm, hn, hl, hc => by
    have ih := visit_fn base p r0 NA nn nc nd hwf hnn m
    have hnl : nd.length = nn := hK.nds.2
    obtain ⟨mm, hmp, hmo⟩ := hS.mp
    have hrows := hS.own.rows
    have hqlt := hmp.lt
    have holt := hS.obx.lt
    refine fn_of_exec (c := { c128 with cuts := [] }) gx_ok Tryz.func128 rfl rfl rfl ?_
    refine load_blk0 hK.mbx rfl ?_
    have hlook := hmo n h0
    by_cases h1 : n < 2
    · rw [if_pos h1] at hlook
      refine at_lookup_ok' (kv := intK) (a := n) (v := .int .i64 n) (b := true) gx_ok rfl rfl rfl rfl rfl (KeyV.int .i64) rfl rfl hmp (by rw [hlook]; rfl) (by rw [hlook]; rfl) ?_
      refine wif_t rfl ?_
      refine ⟨by rw [vis_lt h1], OA, oc, ?_, Mod.refl _ _, Moved.refl _ _⟩
      rw [vis_lt h1]; exact hS
    rw [if_neg h1] at hlook
    by_cases h2 : 0 < st.2[(n - 2).toNat]?.getD 0
    · rw [if_pos h2] at hlook
      refine at_lookup_ok' (kv := intK) (a := n) (v := .int .i64 (st.2[(n - 2).toNat]?.getD 0 : Nat)) (b := true) gx_ok rfl rfl rfl rfl rfl (KeyV.int .i64) rfl rfl hmp (by rw [hlook]; rfl) (by rw [hlook]; rfl) ?_
      refine wif_t rfl ?_
      refine ⟨by rw [vis_old h1 h2], OA, oc, ?_, Mod.refl _ _, Moved.refl _ _⟩
      rw [vis_old h1 h2]; exact hS
    rw [if_neg h2] at hlook
    refine at_lookup_ok' (kv := intK) (a := n) (v := .int .i64 0) (b := false) gx_ok rfl rfl rfl rfl rfl (KeyV.int .i64) rfl rfl hmp (by rw [hlook]; rfl) (by rw [hlook]; rfl) ?_
    refine wif_f rfl ?_
    have hj : (n - 2).toNat < nd.length := by omega
    have hx := List.getElem?_eq_getElem hj
    generalize nd[(n - 2).toNat] = x at hx
    obtain ⟨x1, x2, x3, x4⟩ := hwf _ _ hx
    obtain ⟨kv, hbp⟩ := hK.bpx
    refine load_blk0 hK.bbx rfl ?_
    refine load_blk0 hbp rfl ?_
    refine norm_i64_to (((n - 2).toNat : Nat) : Int) (by omega) (by omega) ?_
    refine index_sls br_len hK.nds rfl (by omega) (fun ad y hy hcl => ?_)
    have hyx : y = x := Option.some.inj (hy.symm.trans hx)
    subst hyx
    refine loadN_at (vs := y.cells) rfl hcl ?_
    refine new (fun w1 hE1 hz1 hB1 => ?_)
    refine storeN_blk0 hB1 rfl (sc rfl) (fun w2 hg2 hz2 hX2 => ?_)
    have hE2 : Ext w w2 := newBox hE1 hB1 hg2
    have hM02 : Mod (VS p OA) w w2 := Mod.of_ext _ hE2
    have hK2 := hK.mod (fun i hi => (hrows i hi).1) hM02
    have hS2 := hS.ext hE2
    have hbn : ¬ VS p OA w.heap.size := fun e => by
      rcases e with e | e | e
      · omega
      · omega
      · have := (hrows _ e).2; omega
    refine load_blk0 hK2.fbx rfl ?_
    refine load_blk hX2 rfl ?_
    have f1 := vis_facts hwf m y.l st x1 (by omega) (by omega) (by omega)
    refine call (ih y.l st OA oc w2 hK2 hS2 x1 (by omega) (by omega) hl hc) ?_
    rintro v w3 ⟨rfl, OA3, oc3, hS3, hM3, hV3⟩
    have hK3 := hK2.mod (fun i hi => (hrows i hi).1) hM3
    have hX3 := hX2.mod hM3 hbn
    have hrows3 := hS3.own.rows
    have hbn3 : ¬ VS p OA3 w.heap.size := fun e => (VS.moved hV3 _ e).elim hbn (fun h => by omega)
    refine load_blk0 hK3.fbx rfl ?_
    refine load_blk hX3 rfl ?_
    have f2 := vis_facts hwf m y.h _ x3 (by omega) (by omega) f1.len
    have c1 := f1.cnt
    have c2 := f2.cnt
    refine call (ih y.h _ OA3 oc3 w3 hK3 hS3 x3 (by omega) (by omega) (by rw [f1.len]; exact hnl) (by omega)) ?_
    rintro v w4 ⟨rfl, OA4, oc4, hS4, hM4, hV4⟩
    have hX4 := hX3.mod hM4 hbn3
    have hrows4 := hS4.own.rows
    have hM24 := hM3.trans hM4 (VS.moved hV3)
    have hV24 := hV3.trans hV4 hM3.size
    have hM04 : Mod (VS p OA) w w4 := hM02.trans hM24 (fun i hi => .inl hi)
    have hV04 := hV24.back hE2.size
    have hK4 := hK3.mod (fun i hi => (hrows3 i hi).1) hM4
    have hnew := vis_new (m := m) h1 h2 hx
    rw [hnew]
    generalize (vis nd m y.l st) = a at *
    generalize (vis nd m y.h a.2) = b at *
    have hnob : ¬ rowS OA4 p.ob := fun e => by have := (hrows4 _ e).1; have := hK.lt.2; omega
    have hnq : ¬ rowS OA4 p.q := fun e => by have := (hrows4 _ e).1; have := hK.lt.1; omega
    refine load_blk0 hS4.obx rfl ?_
    refine load_blk0 hX4 rfl ?_
    refine at_buildN gx_ok [(⟨y.v, a.1, b.1⟩ : Br).cells] rfl rfl rfl rfl rfl ⟨rfl, rfl, ⟨⟩⟩ rfl (fun cs h => by simp only [List.mem_singleton] at h; subst h; rfl) rfl (by decide) (by decide) ?_
    intro w5 hE5 hz5 hB5
    have hS5 := hS4.ext hE5
    have hs5 : Sl w5 3 (some ⟨w4.heap.size, 0, none⟩) 1 1 (⟨y.v, a.1, b.1⟩ : Br).cells := Sl.own (sz := 3) (n := 1) hB5 (Nat.le_refl _) (by decide) (by simp [Br.cells])
    refine at_app gx_ok rfl rfl rfl rfl rfl (by decide) rfl rfl ⟨_, rfl⟩ rfl rfl hS5.own hs5 (by intro u hu; simp [Br.cells] at hu; rcases hu with rfl | rfl | rfl <;> rfl) (by unfold maxLen; omega) (by show _ * 24 ≤ _; omega) hS5.top ?_
    intro OA6 oc6 w6 hM6 hown6 hV6
    refine store_mod0 (hS5.obx.mod hM6 hnob) (by simp) (fun w7 hM7 hB7 => ?_)
    have hM47 : Mod (VS p OA4) w4 w7 := ((Mod.of_ext (VS p OA4) hE5).trans hM6 (fun i hi => .inl (.inr (.inr hi)))).trans hM7 (fun i hi => .inl (.inr (.inl hi)))
    have hK7 := hK4.mod (fun i hi => (hrows4 i hi).1) hM47
    obtain ⟨m4, hmp4, hmo4⟩ := hS4.mp
    have hmp7 : MapAt intK w7 p.q m4 := ((hmp4.ext hE5).mod hM6 hnq).mod hM7 hK.ne.1
    have hlen : b.2.2.length = nd.length := f2.len
    refine load_blk0 hK7.mbx rfl ?_
    refine load_blk0 hB7 rfl ?_
    refine norm_i64_to ((b.2.1.length + 2 : Nat) : Int) (by omega) (by omega) ?_
    refine at_mapUpdate (kv := intK) (a := n) gx_ok rfl rfl rfl rfl rfl (KeyV.int .i64) rfl rfl rfl hmp7 (fun w8 hg8 _ hmp8 => ?_)
    have hM8 : Mod (· = p.q) w7 w8 := Mod.of_grown hg8 rfl
    have hmo8 := hmo4.set h1 (by omega) (v := b.2.1.length + 2) (by omega)
    have hlook8 : assoc n (assocSet n (.int .i64 ((b.2.1.length + 2 : Nat) : Int)) m4) = some (.int .i64 ((b.2.1.length + 2 : Nat) : Int)) := by rw [assoc_set, if_pos rfl]
    have hM48 : Mod (VS p OA4) w4 w8 := hM47.trans hM8 (fun i hi => .inl (.inl hi))
    have hK8 := hK4.mod (fun i hi => (hrows4 i hi).1) hM48
    refine load_blk0 hK8.mbx rfl ?_
    refine at_lookup' (kv := intK) (a := n) (v := .int .i64 ((b.2.1.length + 2 : Nat) : Int)) gx_ok rfl rfl rfl rfl rfl (KeyV.int .i64) rfl rfl hmp8 (by rw [hlook8]; rfl) ?_
    have hrows6 := hown6.rows
    have el : (b.2.1 ++ [(⟨y.v, a.1, b.1⟩ : Br)]).length = b.2.1.length + 1 := by simp
    refine ⟨rfl, OA6, oc6, ⟨?_, ?_, ⟨_, hmp8, hmo8⟩, ?_⟩, hM04.trans hM48 (VS.moved hV04), ?_⟩
    · rw [el, brV_snoc]
      refine (hown6.mod hM7 (fun i hi e => ?_)).mod hM8 (fun i hi e => ?_)
      · have := (hrows6 i hi).1; have := hK.lt.2; omega
      · have := (hrows6 i hi).1; have := hK.lt.1; omega
    · rw [el]
      exact hB7.mod hM8 (fun e => hK.ne.1 e.symm)
    · have := hS4.top; have := hM48.size; omega
    · exact hV04.trans (hV6.back hE5.size) hM04.size
end

section
open Go Go.RowKit

/-- A diagram as a result. -/
def DgRes (w : World) (r : List Br × Int) (v : Value) (w' : World) : Prop := ∃ A n c, v = dgV A n c r.2 ∧ Ext w w' ∧ SB w' A n c r.1 ∧ ∀ i, rowS A i → w.heap.size ≤ i

theorem diagram_fn (bp : Nat) (kv : Value) (NA : Option Addr) (nn nc : Nat) (nd : List Br) (root : Int) (w : World) (hb : Blk w bp 159 [.slice NA nn nc, kv]) (hN : SB w NA nn nc nd) (hwf : WfB nd) (hnn : nn ≤ 1000000000000) (h0 : 0 ≤ root) (hr : root < nn + 2)
    (hrow : ∀ ad, NA = some ad → 0 < nn → ad.block < w.heap.size) :
    Fn Tryz.prog 95 [.pointer (some ⟨bp, 0, none⟩), .int .i64 root] w (DgRes w (numberedD nd root)) := by
  have hnl : nd.length = nn := hN.2
  have hbl := hb.lt
  refine fn_of_exec (c := { c95 with cuts := [] }) gx_ok Tryz.func95 rfl rfl rfl ?_
  refine new (fun w1 hE1 hz1 hB1 => ?_)
  refine new (fun w2 hE2 hz2 hB2 => ?_)
  refine new (fun w3 hE3 hz3 hB3 => ?_)
  refine storeN_blk0 hB3 rfl (sc rfl) (fun w4 hg4 hz4 hB4 => ?_)
  have hM4 : Mod (· = w2.heap.size) w3 w4 := Mod.of_grown hg4 rfl
  refine at_makeMap gx_ok intK rfl ?_
  intro w5 hE5 hz5 hm5
  refine at_insert (kv := intK) (a := 0) gx_ok rfl rfl rfl rfl rfl (KeyV.int .i64) rfl rfl rfl hm5 (fun w6 hg6 hz6 hm6 => ?_)
  refine at_insert (kv := intK) (a := 1) gx_ok rfl rfl rfl rfl rfl (KeyV.int .i64) rfl rfl rfl hm6 (fun w7 hg7 hz7 hm7 => ?_)
  have hM57 : Mod (· = w4.heap.size) w5 w7 := (Mod.of_grown (S := (· = w4.heap.size)) hg6 rfl).trans (Mod.of_grown (S := (· = w4.heap.size)) hg7 rfl) (fun i hi => .inl hi)
  refine new (fun w8 hE8 hz8 hB8 => ?_)
  refine store_mod0 hB8 (by simp [cellsL]) (fun w9 hM9 hB9 => ?_)
  refine new (fun w10 hE10 hz10 hB10 => ?_)
  refine store_mod0 hB10 (by simp [cellsL]) (fun w11 hM11 hB11 => ?_)
  have z9 := hM9.size
  have z11 := hM11.size
  have q1 : Ext w w4 := hM4.ext ((hE1.trans hE2).trans hE3) (fun i hi => by omega)
  have q2 : Ext w4 w7 := hM57.ext hE5 (fun i hi => by omega)
  have q3 : Ext w7 w9 := hM9.ext hE8 (fun i hi => by omega)
  have q4 : Ext w9 w11 := hM11.ext hE10 (fun i hi => by omega)
  have q04 : Ext w w11 := ((q1.trans q2).trans q3).trans q4
  let p : VP := ⟨w7.heap.size, w4.heap.size, w.heap.size, bp, w9.heap.size, w2.heap.size⟩
  have hB1' : Blk w11 w.heap.size 156 [VP.ptr bp] := (((hB1.ext (hE2.trans hE3)).mod hM4 (by omega)).ext q2).ext (q3.trans q4)
  have hB2' : Blk w11 w1.heap.size 42 [.slice none 0 0, .int .i64 0] := (((hB2.ext hE3).mod hM4 (by omega)).ext q2).ext (q3.trans q4)
  have hB4' : Blk w11 w2.heap.size 42 [.slice none 0 0, .int .i64 0] := (hB4.ext q2).ext (q3.trans q4)
  have hB9' : Blk w11 w7.heap.size 188 [.map (some w4.heap.size)] := hB9.ext q4
  have hm7' : MapAt intK w11 w4.heap.size _ := ((hm7.ext hE8).mod hM9 (by omega)).ext q4
  have hK : VK w11 w11.heap.size p NA nn nc nd := by
    refine ⟨hB9', hB1', ⟨kv, hb.ext q04⟩, hB11, hN.ext q04, ⟨?_, ?_⟩, ⟨?_, ?_, ?_, ?_, ?_, ?_, ?_, ?_, ?_⟩, ⟨?_, ?_, ?_, ?_⟩, fun ad e hn => ?_⟩
    all_goals try (show (_ : Nat) ≠ _; simp only [p]; omega)
    all_goals try (show (_ : Nat) < _; simp only [p]; omega)
    have := hrow ad e hn
    refine ⟨by omega, ?_, ?_⟩ <;> (simp only [p]; omega)
  have hS : VSt w11 w11.heap.size p 0 none 0 ([], List.replicate nd.length 0) := ⟨Own.nil _ _ _ _, hB4', ⟨_, hm7', mapOk_init _⟩, Nat.le_refl _⟩
  refine load_blk0 hB11 rfl ?_
  refine call (visit_fn w11.heap.size p 0 NA nn nc nd hwf hnn (root.toNat + 1) root ([], List.replicate nd.length 0) none 0 w11 hK hS h0 (by omega) hr (by simp [hnl]) (by simp; omega)) ?_
  rintro v w12 ⟨rfl, OA, oc, hS12, hM12, hV12⟩
  have hnr : ∀ i, i ≠ w4.heap.size → i ≠ w2.heap.size → ¬ VS p none i := fun i h1 h2 e => by
    rcases e with e | e | ⟨_, e, _⟩
    · exact h1 e
    · exact h2 e
    · cases e
  have hR12 := hB2'.mod hM12 (hnr _ (by omega) (by omega))
  have hrows := hS12.own.rows
  refine store_mod hS12.obx (by simp) (fun w13 hM13 hB13 => ?_)
  have hR13 := hR12.mod hM13 (by show ¬ w1.heap.size = w2.heap.size; omega)
  refine loadN_blk0 hB13 rfl ?_
  refine storeN_blk0 hR13 rfl (sc rfl) (fun w14 hg14 _ hB14 => ?_)
  have hM14 : Mod (· = w1.heap.size) w13 w14 := Mod.of_grown hg14 rfl
  refine loadN_blk0 hB14 rfl ?_
  have hE12 : Ext w w12 := hM12.ext q04 (fun i hi => by
    rcases hi with e | e | ⟨_, e, _⟩
    · simp only [p] at e; omega
    · simp only [p] at e; omega
    · cases e)
  have hE14 : Ext w w14 := hM14.ext (hM13.ext hE12 (fun i hi => by have hi' : i = w2.heap.size := hi; omega)) (fun i hi => by omega)
  refine ⟨OA, _, oc, rfl, hE14, ⟨?_, rfl⟩, fun i hi => Nat.le_trans q04.size (hrows i hi).1⟩
  have : ∀ i, rowS OA i → w11.heap.size ≤ i := fun i hi => (hrows i hi).1
  exact ((hS12.own.mod hM13 (fun i hi e => by have := this i hi; have e' : i = w2.heap.size := e; omega)).mod hM14 (fun i hi e => by have := this i hi; omega)).sl
end

section
open Go Go.RowKit

theorem eqStruct {P : Program} {t : TypeId} {fs : Array Field} {ks : List Nat} {xs ys : Array Value} {b : Bool} {w : World} (hu : P.underlying t = some (.struct fs)) (hh : P.stoodInHeld t = false) (hf : fieldsB P 0 fs.toList ks = true) (h : eqCells ks xs.toList ys.toList = some b) (n : Nat) :
    (Op.equalIn (n + 2) t (.agg xs) (.agg ys)).run P w = .ok b w := by
  have hf2 : P.fieldsOf t = fs := by simp [Program.fieldsOf, hu]
  rw [run_equalIn_struct w (n + 1) t xs ys (by rw [hf2]; exact hu) hh, hf2]
  exact eqCells_fields fs.toList ks 0 _ _ b hf h (fun j => by simp) (fun j => by simp) n w
theorem k3 : kindD (Tryz.prog.underlying 3) < 3 := by rw [Tryz.underlying3]; decide
abbrev brK : Br → Value := fun b => .agg b.cells.toArray
theorem brEq (a b : Br) (n : Nat) (w : World) : (Op.equalIn (n + 2) 116 (brK a) (brK b)).run Tryz.prog w = .ok (decide (a = b)) w := by
  refine eqStruct (ks := [0, 0, 0]) Tryz.underlying116 (by kernel_rfl) (by kernel_rfl) ?_ n
  rw [show eqCells [0, 0, 0] a.cells.toArray.toList b.cells.toArray.toList = some (a.v == b.v && (a.l == b.l && (a.h == b.h && true))) from rfl, eq3]
  congr 1
  exact decide_eq_decide.2 br_eq.symm
theorem brCheck (b : Bool) (a : Br) (n : Nat) (w : World) : (Instr.checkKey b (n + 2) 116 (brK a)).run Tryz.prog w = .ok () w := by
  simp [Instr.checkKey, run_underlying Tryz.underlying116, run_underlying Tryz.underlying3, brK, Br.cells, part_one k3 (cs := #[Value.int IntKind.i64 a.v, Value.int IntKind.i64 a.l, Value.int IntKind.i64 a.h]) (n := 0) rfl, part_one k3 (cs := #[Value.int IntKind.i64 a.v, Value.int IntKind.i64 a.l, Value.int IntKind.i64 a.h]) (n := 1) rfl, part_one k3 (cs := #[Value.int IntKind.i64 a.v, Value.int IntKind.i64 a.l, Value.int IntKind.i64 a.h]) (n := 2) rfl]
theorem brKey : KeyQ Tryz.prog 116 brK :=
  KeyQ.asking Tryz.underlying116 (fun a b w => brEq a b 9998 w) (fun b a w => brCheck b a 9998 w) (fun a => by simp [Br.cells, Instr.sameBits])

theorem at_lookupQ {α : Type} [DecidableEq α] {kv : α → Value} {c : Cx} {o : Oper} {S : Env} {w : World} {K : Env → World → Prop} {Q : Post} {t ke e : Nat} {r re : TyRow} {x y : Operand} {q : Nat} {m : List (α × Value)} {a : α} (hg : c.g.Ok) (ho : o.op = .lookup t x y false) (hr : rowOf c.g.tys t = some r) (hd : r.d = .map ke e) (hre : rowOf c.g.tys e = some re) (hk : KeyQ c.g.P ke kv)
    (hx : S.ev x = some (.map (some q))) (hy : S.ev y = some (kv a)) (hm : MapQ kv w q m) {v : Value} (hv : (assoc a m).getD re.z = v)
    (k : putK c S o.dst (.v v) (fun S => K S w)) : AtOp c o S w K Q := by
  refine at_run (w' := w) (fun b hf => ?_) k
  have e1 := hf.ev hx
  have e2 := hf.ev hy
  have := run_lookupQ (w := w) (a := a) hg hr hd hre hk hm false
  simp only [hv] at this
  simp only [execOp, ho, e1, e2]
  simp only [Sem.run_bind, this, Result.andThen_ok]
  simp

theorem SB.lt {w : World} {A : Option Addr} {n c : Nat} {d : List Br} (h : SB w A n c d) : ∀ ad, A = some ad → 0 < n → ad.block < w.heap.size := by
  intro ad e hn
  obtain ⟨ad', e', hc⟩ := h.1.at_ hn
  cases e.symm.trans e'
  have hl := h.1.len
  cases hcs : d.flatMap Br.cells with
  | nil => rw [hcs] at hl; simp at hl; omega
  | cons u us =>
    rw [hcs] at hc
    have := World.block_lt_of_cell? w _ (hc 0 u rfl)
    rw [block_add] at this
    exact this
end

section
open Go Go.RowKit

theorem check2_fn (A : Option Addr) (n c : Nat) (nd : List Br) (root : Int) (w : World) (h : SB w A n c nd) :
    Fn Tryz.prog 54 [dgV A n c root] w (fun v w' => v = .int .i64 (chkD nd root) ∧ Ext w w') := by
  have hlen := h.2
  refine fn_of_exec (c := { c54 with cuts := [4] }) gx_ok Tryz.func54 rfl rfl rfl ?_
  refine new (fun w1 hE1 hz1 hB1 => ?_)
  refine load_blk0 hB1 rfl ?_
  refine wif_d (fun h1 => ?_) (fun h1 => ?_)
  · exact ⟨by rw [chkD_large (by omega)], hE1⟩
  have hsm : ¬ 4096 < nd.length := by omega
  refine at_makeMapQ gx_ok brK rfl ?_
  intro w2 hE2 hz2 hm2
  have hE02 := hE1.trans hE2
  have hB2 := hB1.ext hE2
  refine cutIn [] gx_ok [] (fun _ : Unit => []) (fun _ w' => Mod (· = w1.heap.size) w2 w' ∧ ∀ (j : Nat) (b : Br), j < n → nd[j]? = some b → brOk nd j b) ?_ ?_
  · refine load_blk0 hB2 rfl ?_
    refine loop gx_ok [15] (fun s : Nat => [.int .i64 s]) (fun s w' => Mod (· = w1.heap.size) w2 w' ∧ s ≤ n ∧ (∀ (j : Nat) (b : Br), j < s → nd[j]? = some b → brOk nd j b) ∧ ∃ m, MapQ brK w' w1.heap.size m ∧ ∀ b, (assoc b m).getD (.bool false) = .bool (decide (b ∈ nd.take s))) (fun s _ => n - s) 0 rfl ⟨Mod.refl _ _, Nat.zero_le _, fun j b hj => absurd hj (by omega), [], hm2, fun b => by simp [assoc]⟩ ?_
    rintro s w3 ⟨hM3, hs, hall, m, hm3, hmem⟩
    have hE3 : Ext w w3 := hM3.ext hE02 (fun i hi => by have := hE1.size; omega)
    have hB3 := hB2.mod hM3 (by omega)
    refine wif_d (fun h2 => ?_) (fun h2 => ?_)
    · refine index_sls br_len (h.ext hE3) rfl (by omega) (fun p x hx hc => ?_)
      refine loadN_at (vs := x.cells) rfl hc ?_
      refine new (fun w4 hE4 hz4 hB4 => ?_)
      refine storeN_blk0 hB4 rfl (sc rfl) (fun w5 hg5 hz5 hX5 => ?_)
      have hE35 : Ext w3 w5 := newBox hE4 hB4 hg5
      have hE5 := hE3.trans hE35
      have hm5 := hm3.ext hE35
      have hB5 := hB3.ext hE35
      have bad : ¬ brOk nd s x → ∀ w', Ext w w' → (Value.int .i64 20 = .int .i64 (chkD nd root)) ∧ Ext w w' := fun hno w' hE => ⟨by rw [chkD_no hsm (fun hv => hno (hv.1 s x hx))], hE⟩
      refine load_blk0 hX5 rfl ?_
      refine wif_d (fun c1 => ?_) (fun c1 => ?_)
      · exact bad (fun hb => by have := hb.1; omega) _ hE5
      refine load_blk0 hX5 rfl ?_
      refine wif_d (fun c2 => ?_) (fun c2 => ?_)
      · exact bad (fun hb => by have := hb.2.1; omega) _ hE5
      refine load_blk hX5 rfl ?_
      refine wif_d (fun c3 => ?_) (fun c3 => ?_)
      · exact bad (fun hb => by have := hb.2.2.1; omega) _ hE5
      refine load_blk hX5 rfl ?_
      refine wif_d (fun c4 => ?_) (fun c4 => ?_)
      · exact bad (fun hb => by have := hb.2.2.2.2.1; omega) _ hE5
      refine load_blk hX5 rfl ?_
      refine norm_i64_to ((s : Int) + 1) rfl (by omega) ?_
      refine wif_d (fun c5 => ?_) (fun c5 => ?_)
      · exact bad (fun hb => by have := hb.2.2.2.1; omega) _ hE5
      refine load_blk hX5 rfl ?_
      refine norm_i64_to ((s : Int) + 1) rfl (by omega) ?_
      refine wif_d (fun c6 => ?_) (fun c6 => ?_)
      · exact bad (fun hb => by have := hb.2.2.2.2.2.1; omega) _ hE5
      refine load_blk hX5 rfl ?_
      refine load_blk hX5 rfl ?_
      refine wif_eq (fun c7 => ?_) (fun c7 => ?_)
      · exact bad (fun hb => hb.2.2.2.2.2.2.1 c7) _ hE5
      refine loadN_blk0 hX5 rfl ?_
      refine at_lookupQ (kv := brK) (a := x) gx_ok rfl rfl rfl rfl brKey rfl rfl hm5 (hmem x) ?_
      refine wif_d (fun c8 => ?_) (fun c8 => ?_)
      · exact bad (fun hb => hb.2.2.2.2.2.2.2.1 c8) _ hE5
      refine draw_plan gx_ok (Ext w5) 16 [(true, 0), (true, 1), (true, 2), (true, 4), (true, 5), (false, 3), (true, 6), (true, 7), (true, 8), (true, 9), (true, 10), (true, 12), (true, 13), (false, 11), (true, 14), (true, 15)] (by kernel_rfl) (Ext.drew w5) ?_
      have qB : ∀ w', Ext w5 w' → ∀ (j : Nat) (v : Value), [Value.slice A n c, .int .i64 root][j]? = some v → w'.cell? ((⟨w.heap.size, 0, none⟩ : Addr).add j) = some v := fun w' hw' j v hj => by rw [(hB5.ext hw').cell]; exact hj
      have qX : ∀ w', Ext w5 w' → ∀ (j : Nat) (v : Value), x.cells[j]? = some v → w'.cell? ((⟨w3.heap.size, 0, none⟩ : Addr).add j) = some v := fun w' hw' j v hj => by rw [(hX5.ext hw').cell]; exact hj
      have qX0 : ∀ w', Ext w5 w' → w'.cell? (⟨w3.heap.size, 0, none⟩ : Addr) = some (.int .i64 x.v) := fun w' hw' => by have := qX w' hw' 0 _ rfl; simpa [Addr.add] using this
      refine qloadN (vs := [.slice A n c, .int .i64 root]) rfl (fun w' hw' j v hj => by have := qB w' hw' j v hj; simpa [Addr.add] using this) ?_
      refine qload (v := .int .i64 x.l) (fun w' hw' => qX w' hw' 1 _ rfl) ?_
      refine qload (v := .int .i64 x.v) (fun w' hw' => qX0 w' hw') ?_
      refine call (level_fn A n c root x.l nd _ (h.ext (hE5.trans (Ext.drew w5))) (by omega)) ?_
      rintro v w6 ⟨rfl, hE6⟩
      have hE56 := (Ext.drew w5).trans hE6
      refine ⟨hE56, ?_⟩
      refine wif_d (fun c9 => ?_) (fun c9 => ?_)
      · exact bad (fun hb => by have := hb.2.2.2.2.2.2.2.2.1; omega) _ (hE5.trans hE56)
      refine qloadN (vs := [.slice A n c, .int .i64 root]) rfl (fun w' hw' j v hj => by have := qB w' hw' j v hj; simpa [Addr.add] using this) ?_
      refine qload (v := .int .i64 x.h) (fun w' hw' => qX w' hw' 2 _ rfl) ?_
      refine qload (v := .int .i64 x.v) (fun w' hw' => qX0 w' hw') ?_
      refine call (level_fn A n c root x.h nd _ (h.ext (hE5.trans hE56)) (by omega)) ?_
      rintro v w7 ⟨rfl, hE7⟩
      have hE57 := hE56.trans hE7
      refine ⟨hE57, ?_⟩
      refine wif_d (fun c10 => ?_) (fun c10 => ?_)
      · exact bad (fun hb => by have := hb.2.2.2.2.2.2.2.2.2; omega) _ (hE5.trans hE57)
      have hok : brOk nd s x := ⟨by omega, by omega, by omega, by omega, by omega, by omega, c7, c8, by omega, by omega⟩
      refine loadN_blk0 (hX5.ext hE57) rfl ?_
      refine at_mapUpdateQ (kv := brK) (a := x) gx_ok rfl rfl rfl rfl brKey rfl rfl rfl (hm5.ext hE57) (fun w8 hM8 hz8 hm8 => ?_)
      refine norm_i64_to ((s + 1 : Nat) : Int) (by omega) (by omega) ?_
      refine ⟨s + 1, rfl, ⟨(hM3.trans (Mod.of_ext (· = w1.heap.size) (hE35.trans hE57)) (fun i hi => .inl hi)).trans hM8 (fun i hi => .inl hi), by omega, fun j b hj hb => ?_, _, hm8, fun b => ?_⟩, by show n - (s + 1) < n - s; omega⟩
      · by_cases hjs : j < s
        · exact hall j b hjs hb
        · have : j = s := by omega
          subst this
          rw [Option.some.inj (hb.symm.trans hx)]; exact hok
      · rw [assoc_set, List.take_add_one, hx]
        by_cases hbx : b = x
        · subst hbx; simp
        · rw [if_neg hbx, hmem b]
          simp [hbx]
    · have : s = n := by omega
      subst this
      exact ⟨(), rfl, hM3, hall⟩
  rintro ⟨⟩ w3 ⟨hM3, hall⟩
  have hE3 : Ext w w3 := hM3.ext hE02 (fun i hi => by have := hE1.size; omega)
  have hB3 := hB2.mod hM3 (by omega)
  refine load_blk hB3 rfl ?_
  refine wif_d (fun c1 => ?_) (fun c1 => ?_)
  · exact ⟨by rw [chkD_no hsm (fun hv => by have := hv.2.1; omega)], hE3⟩
  refine load_blk hB3 rfl ?_
  refine load_blk0 hB3 rfl ?_
  refine norm_i64_to ((n : Int) + 1) rfl (by omega) ?_
  refine wif_d (fun c2 => ?_) (fun c2 => ?_)
  · exact ⟨by rw [chkD_no hsm (fun hv => by have := hv.2.2.1; omega)], hE3⟩
  have hwf : WfB nd := fun j x hx => by
    obtain ⟨_, _, h1, h2, h3, h4, _⟩ := hall j x (by have := (List.getElem?_eq_some_iff.1 hx).1; omega) hx
    exact ⟨h1, h2, h3, h4⟩
  refine load_blk0 hB3 rfl ?_
  refine new (fun w4 hE4 hz4 hB4 => ?_)
  have hE04 := hE3.trans hE4
  have hB34 := hB3.ext hE4
  refine load_blk hB34 rfl ?_
  refine call (diagram_fn w3.heap.size (.map none) A n c nd root w4 hB4 (h.ext hE04) hwf (by omega) (by omega) (by omega) (SB.lt (h.ext hE04))) ?_
  rintro v w5 ⟨OA, m, oc, rfl, hE5, hO5, _⟩
  refine new (fun w6 hE6 hz6 hB6 => ?_)
  refine storeN_blk0 hB6 rfl (sc rfl) (fun w7 hg7 hz7 hX7 => ?_)
  have hE57 : Ext w5 w7 := newBox hE6 hB6 hg7
  have hE07 := (hE04.trans hE5).trans hE57
  refine loadN_blk0 hX7 rfl ?_
  refine loadN_blk0 ((hB34.ext hE5).ext hE57) rfl ?_
  refine call (same_fn OA A m oc n c _ nd _ root w7 (hO5.ext hE57) (h.ext hE07)) ?_
  rintro v w8 ⟨rfl, hE8⟩
  have hE08 := hE07.trans hE8
  refine wif_not (wif_d (fun c3 => ?_) (fun c3 => ?_))
  · exact ⟨by rw [chkD_ok hsm ⟨fun j b hb => hall j b (by have := (List.getElem?_eq_some_iff.1 hb).1; omega) hb, by omega, by omega, c3⟩], hE08⟩
  · exact ⟨by rw [chkD_no hsm (fun hv => c3 hv.2.2.2)], hE08⟩
end
end Go.Proofs.YtedopgkbajhanaaGreatDoor
