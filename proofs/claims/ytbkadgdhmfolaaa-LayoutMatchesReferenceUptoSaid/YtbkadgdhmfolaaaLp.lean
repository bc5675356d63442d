/-
  The plain laws of rendering over trees.
  Conditions: none.
-/
import Derived.Test.YtbkadgdhmfolaaaMkD
namespace Go.Proofs.Ytbkadgdhmfolaaa
open Go Go.RowKit

/-! ### Contents -/
theorem vis_app (a b : List Nat) : vis (a ++ b) = vis a ++ vis b := by simp [vis]
theorem vis_sp {a : List Nat} (h : ∀ x ∈ a, x = 32) : vis a = [] := by
  unfold vis
  rw [List.filter_eq_nil_iff]
  intro x hx
  simp [h x hx]
theorem vis_rep (n : Nat) : vis (List.replicate n 32) = [] := vis_sp (fun x hx => List.eq_of_mem_replicate hx)
def lets : Dt → List Nat
  | .text s => s
  | .line _ => []
  | .hard => []
  | .seq a b => lets a ++ lets b
  | .nest _ a => lets a
  | .align a => lets a
  | .group a => lets a
theorem wadd_vis (s : List Nat) (st : Ws) : vis (wadd s st).out = vis st.out ++ vis s := by
  unfold wadd
  split
  · rename_i h; subst h; simp [vis]
  · unfold wput wind
    split
    · simp only [vis_app, vis_rep, List.append_nil]
    · simp only [vis_app]
theorem wfeed_vis (i : Nat) (st : Ws) : vis (wfeed i st).out = vis st.out := by
  simp only [wfeed, vis_app]; simp [vis]
theorem wrT_vis : ∀ (t : Dt) (l : List Bool) (ind : Nat) (flat : Bool) (st : Ws), okT t → vis (wrT t l ind flat st).out = vis st.out ++ vis (lets t)
  | .text s, _, _, _, st, _ => wadd_vis s st
  | .line s, _, ind, flat, st, h => by
    unfold wrT lets; split
    · rw [wadd_vis, vis_sp h]; rfl
    · rw [wfeed_vis]; simp [vis]
  | .hard, _, ind, flat, st, _ => by
    unfold wrT lets
    rw [wfeed_vis]; simp [vis]
  | .seq a b, l, ind, flat, st, h => by
    simp only [wrT, lets]
    rw [wrT_vis b _ _ _ _ h.2, wrT_vis a _ _ _ _ h.1, vis_app, List.append_assoc]
  | .nest n a, l, ind, flat, st, h => wrT_vis a l _ flat st h
  | .align a, l, ind, flat, st, h => wrT_vis a l _ flat st h
  | .group a, l, ind, flat, st, h => wrT_vis a l.tail ind _ st h
theorem contents_plain {t : Dt} (h : okT t) (f g : List Bool) : vis (txt t f) = vis (txt t g) := by
  unfold txt
  rw [wrT_vis t _ _ _ _ h, wrT_vis t _ _ _ _ h]

/-! ### Flat -/
theorem wrT_wrong_up : ∀ (t : Dt) (l : List Bool) (ind : Nat) (flat : Bool) (st : Ws), st.wrong = true → (wrT t l ind flat st).wrong = true
  | .text s, _, _, _, st, h => by rw [wrT, wadd_wrong]; exact h
  | .line s, _, _, flat, st, h => by
    unfold wrT; split
    · rw [wadd_wrong]; exact h
    · exact h
  | .hard, _, _, flat, st, h => by simp [wrT, wfeed, h]
  | .seq a b, l, ind, flat, st, h => wrT_wrong_up b _ _ _ _ (wrT_wrong_up a _ _ _ _ h)
  | .nest n a, l, ind, flat, st, h => wrT_wrong_up a l _ flat st h
  | .align a, l, ind, flat, st, h => wrT_wrong_up a l _ flat st h
  | .group a, l, ind, flat, st, h => wrT_wrong_up a l.tail ind _ st h
theorem wrT_wrong_hard : ∀ (t : Dt) (l : List Bool) (ind : Nat) (st : Ws), hasHard t = true → (wrT t l ind true st).wrong = true
  | .text s, _, _, st, h => by simp [hasHard] at h
  | .line s, _, _, st, h => by simp [hasHard] at h
  | .hard, _, _, st, h => by simp [wrT, wfeed]
  | .seq a b, l, ind, st, h => by
    simp only [wrT]
    simp only [hasHard, Bool.or_eq_true] at h
    rcases h with h | h
    · exact wrT_wrong_up b _ _ _ _ (wrT_wrong_hard a _ _ _ h)
    · exact wrT_wrong_hard b _ _ _ h
  | .nest n a, l, ind, st, h => wrT_wrong_hard a l _ st h
  | .align a, l, ind, st, h => wrT_wrong_hard a l _ st h
  | .group a, l, ind, st, h => wrT_wrong_hard a l.tail ind st h
theorem wrT_flat : ∀ (t : Dt) (l l' : List Bool) (ind ind' : Nat) (st : Ws), hasHard t = false → wrT t l ind true st = wrT t l' ind' true st
  | .text s, _, _, _, _, st, h => rfl
  | .line s, _, _, _, _, st, h => rfl
  | .hard, _, _, _, _, st, h => by simp [hasHard] at h
  | .seq a b, l, l', ind, ind', st, h => by
    simp only [hasHard, Bool.or_eq_false_iff] at h
    simp only [wrT]
    rw [wrT_flat a (l.take (ng a)) (l'.take (ng a)) ind ind' st h.1, wrT_flat b _ (l'.drop (ng a)) _ ind' _ h.2]
  | .nest n a, l, l', ind, ind', st, h => wrT_flat a l l' _ _ st h
  | .align a, l, l', ind, ind', st, h => wrT_flat a l l' _ _ st h
  | .group a, l, l', ind, ind', st, h => wrT_flat a l.tail l'.tail _ _ st h
theorem wrT_flat_wrong : ∀ (t : Dt) (l : List Bool) (ind : Nat) (st : Ws), hasHard t = false → (wrT t l ind true st).wrong = st.wrong
  | .text s, _, _, st, h => wadd_wrong s st
  | .line s, _, _, st, h => wadd_wrong s st
  | .hard, _, _, st, h => by simp [hasHard] at h
  | .seq a b, l, ind, st, h => by
    simp only [hasHard, Bool.or_eq_false_iff] at h
    simp only [wrT]
    rw [wrT_flat_wrong b _ _ _ h.2, wrT_flat_wrong a _ _ _ h.1]
  | .nest n a, l, ind, st, h => wrT_flat_wrong a l _ st h
  | .align a, l, ind, st, h => wrT_flat_wrong a l _ st h
  | .group a, l, ind, st, h => wrT_flat_wrong a l.tail _ st h
theorem wadd_no10 {s : List Nat} {st : Ws} (hs : 10 ∉ s) (h : 10 ∉ st.out) : 10 ∉ (wadd s st).out := by
  unfold wadd
  split
  · exact h
  · unfold wput wind
    split
    · simp only [List.mem_append, not_or]
      exact ⟨⟨h, fun hm => by have := List.eq_of_mem_replicate hm; omega⟩, hs⟩
    · simp only [List.mem_append, not_or]
      exact ⟨h, hs⟩
theorem sp_no10 {s : List Nat} (h : ∀ x ∈ s, x = 32) : 10 ∉ s := fun hm => by have := h 10 hm; omega
theorem wrT_flat_no10 : ∀ (t : Dt) (l : List Bool) (ind : Nat) (st : Ws), hasHard t = false → okT t → 10 ∉ st.out → 10 ∉ (wrT t l ind true st).out
  | .text s, _, _, st, h, ho, h10 => wadd_no10 ho h10
  | .line s, _, _, st, h, ho, h10 => wadd_no10 (sp_no10 ho) h10
  | .hard, _, _, st, h, _, _ => by simp [hasHard] at h
  | .seq a b, l, ind, st, h, ho, h10 => by
    simp only [hasHard, Bool.or_eq_false_iff] at h
    simp only [wrT]
    exact wrT_flat_no10 b _ _ _ h.2 ho.2 (wrT_flat_no10 a _ _ _ h.1 ho.1 h10)
  | .nest n a, l, ind, st, h, ho, h10 => wrT_flat_no10 a l _ st h ho h10
  | .align a, l, ind, st, h, ho, h10 => wrT_flat_no10 a l _ st h ho h10
  | .group a, l, ind, st, h, ho, h10 => wrT_flat_no10 a l.tail _ st h ho h10

/-- What a flat group renders to. -/
def flatT (t : Dt) : List Nat := (wrT t [] 0 true Ws.init).out
theorem flat_hard {t : Dt} (h : hasHard t = true) {x : List Bool} (hx : x.headD false = true) : rndT (.group t) x = ([], 1) := by
  unfold rndT
  split
  · rfl
  · rw [if_pos]
    simp only [wrT, hx, Bool.or_true]
    exact wrT_wrong_hard t _ _ _ h
theorem flat_soft {t : Dt} (h : hasHard t = false) {x : List Bool} (hx : x.headD false = true) (hl : x.length = ng t + 1) : rndT (.group t) x = (flatT t, 0) := by
  unfold rndT
  rw [if_neg (by rw [hl]; simp [ng])]
  simp only [wrT, hx, Bool.or_true]
  rw [if_neg (by rw [wrT_flat_wrong t _ _ _ h]; decide)]
  unfold flatT
  rw [wrT_flat t x.tail [] 0 0 _ h]
theorem flat_no10 {t : Dt} (h : hasHard t = false) (ho : okT t) : 10 ∉ flatT t := wrT_flat_no10 t _ _ _ h ho (by simp [Ws.init])

/-! ### Sequences -/
theorem txt_congr {s t : Dt} (hh : hards s = hards t) (h : ∀ (l : List Bool) (ind : Nat) (flat : Bool) (st : Ws), l.length = ng s → wrT s l ind flat st = wrT t l ind flat st) (fl : List Bool) : txt s fl = txt t fl := by
  unfold txt
  have : choose fl s = choose fl t := by unfold choose; rw [hh]
  rw [h _ _ _ _ (choose_len fl s), this]
theorem wrT_assoc (a b c : Dt) (l : List Bool) (ind : Nat) (flat : Bool) (st : Ws) : wrT (.seq a (.seq b c)) l ind flat st = wrT (.seq (.seq a b) c) l ind flat st := by
  simp only [wrT, ng]
  rw [List.take_take, Nat.min_eq_left (by omega), List.drop_take, List.drop_drop]
  congr 3
  omega
theorem seq_assoc (a b c : Dt) (fl : List Bool) : txt (.seq a (.seq b c)) fl = txt (.seq (.seq a b) c) fl :=
  txt_congr (by simp [hards]) (fun l ind flat st _ => wrT_assoc a b c l ind flat st) fl
theorem wrT_empty (l : List Bool) (ind : Nat) (flat : Bool) (st : Ws) : wrT (.text []) l ind flat st = st := rfl
theorem seq_empty (a b c : Dt) (fl : List Bool) : txt (.seq (.seq (.text []) (.seq a b)) (.seq (.text []) (.seq c (.text [])))) fl = txt (.seq (.seq a b) c) fl :=
  txt_congr (by simp [hards]) (fun l ind flat st hl => by
    simp only [wrT, ng] at *
    simp only [wadd, if_true, List.drop_zero, Nat.zero_add]
    rw [show List.take (ng c) (List.drop (ng a + ng b) l) = List.drop (ng a + ng b) l from List.take_of_length_le (by rw [List.length_drop]; omega)]) fl
theorem nest_zero (a : Dt) (fl : List Bool) : txt (.nest 0 a) fl = txt a fl := txt_congr rfl (fun l ind flat st _ => rfl) fl
theorem nest_add (x y : Nat) (a : Dt) (fl : List Bool) : txt (.nest x (.nest y a)) fl = txt (.nest (x + y) a) fl :=
  txt_congr (s := .nest x (.nest y a)) (t := .nest (x + y) a) rfl (fun l ind flat st _ => by show wrT a l (ind + x + y) flat st = wrT a l (ind + (x + y)) flat st; rw [Nat.add_assoc]) fl
theorem seq_plain (a : Dt) (s : List Nat) (fl : List Bool) : txt (.seq a (.group (.text s))) fl = txt (.seq a (.text s)) fl := by
  unfold txt
  have h1 : choose fl (.seq a (.group (.text s))) = choose fl a ++ chooseL fl [false] (ng a) := by
    simp only [choose, hards, hasHard]
    rw [chooseL_app, hards_len, Nat.zero_add]
  have h2 : choose fl (.seq a (.text s)) = choose fl a := by simp [choose, hards]
  rw [h1, h2]
  simp only [wrT]
  rw [List.take_left' (choose_len fl a), List.take_of_length_le (by rw [choose_len]; exact Nat.le_refl _)]

/-! ### Align -/
theorem align_plain {h : List Nat} (d : Dt) (hn : h ≠ []) (fl : List Bool) : txt (.seq (.text h) (.align d)) fl = txt (.seq (.text h) (.nest h.length d)) fl := by
  unfold txt
  have : choose fl (.seq (.text h) (.align d)) = choose fl (.seq (.text h) (.nest h.length d)) := rfl
  rw [this]
  have e : (wadd h Ws.init).col = h.length := by simp [wadd, hn, wput, wind, Ws.init]
  have h0 : h.length ≠ 0 := fun e => hn (List.eq_nil_of_length_eq_zero e)
  show (wrT d _ (if (wadd h Ws.init).col = 0 then (wadd h Ws.init).pend else (wadd h Ws.init).col) false _).out = (wrT d _ (0 + h.length) false _).out
  rw [if_neg (by rw [e]; exact h0), e, Nat.zero_add]

/-! ### Indentation -/
def insF (k : Nat) : Bool → List Nat → List Nat
  | _, [] => []
  | p, x :: l => (if p = true ∧ x ≠ 10 then List.replicate k 32 else []) ++ x :: insF k (decide (x = 10)) l
def last10 : Bool → List Nat → Bool
  | p, [] => p
  | _, x :: l => last10 (decide (x = 10)) l
theorem insF_app (k : Nat) : ∀ (p : Bool) (l m : List Nat), insF k p (l ++ m) = insF k p l ++ insF k (last10 p l) m
  | p, [], m => rfl
  | p, x :: l, m => by simp only [List.cons_append, insF, last10, insF_app k _ l m, List.append_assoc]
theorem last10_app : ∀ (p : Bool) (l m : List Nat), last10 p (l ++ m) = last10 (last10 p l) m
  | p, [], m => rfl
  | p, x :: l, m => by simp only [List.cons_append, last10, last10_app _ l m]
theorem insF_false (k : Nat) : ∀ (l : List Nat), 10 ∉ l → insF k false l = l
  | [], _ => rfl
  | x :: l, h => by
    have hx : x ≠ 10 := fun e => h (by simp [e])
    simp only [insF]
    rw [if_neg (by simp), show decide (x = 10) = false from decide_eq_false hx, insF_false k l (fun hm => h (by simp [hm]))]
    rfl
theorem insF_z (k : Nat) (p : Bool) {l : List Nat} (h : 10 ∉ l) (hn : l ≠ []) : insF k p l = (if p = true then List.replicate k 32 else []) ++ l := by
  cases l with
  | nil => exact absurd rfl hn
  | cons x l =>
    have hx : x ≠ 10 := fun e => h (by simp [e])
    simp only [insF]
    rw [show decide (x = 10) = false from decide_eq_false hx, insF_false k l (fun hm => h (by simp [hm]))]
    congr 1
    cases p <;> simp [hx]
theorem last10_z (p : Bool) {l : List Nat} (h : 10 ∉ l) (hn : l ≠ []) : last10 p l = false := by
  cases l with
  | nil => exact absurd rfl hn
  | cons x l =>
    clear hn
    simp only [last10]
    have hx : x ≠ 10 := fun e => h (by simp [e])
    rw [show decide (x = 10) = false from decide_eq_false hx]
    have hl : 10 ∉ l := fun hm => h (by simp [hm])
    clear h hx
    induction l with
    | nil => rfl
    | cons y l ih =>
      simp only [last10]
      have hy : y ≠ 10 := fun e => hl (by simp [e])
      rw [show decide (y = 10) = false from decide_eq_false hy]
      exact ih (fun hm => hl (by simp [hm]))

structure InR (k : Nat) (st st' : Ws) : Prop where
  out : st'.out = insF k false st.out
  col : st.col = 0 ↔ st'.col = 0
  pend : st.col = 0 → st'.pend = st.pend + (if last10 false st.out = true then k else 0)
  last : st.col ≠ 0 → last10 false st.out = false

theorem InR.add {k : Nat} {st st' : Ws} (h : InR k st st') {s : List Nat} (hs : 10 ∉ s) : InR k (wadd s st) (wadd s st') := by
  unfold wadd
  split
  · exact h
  rename_i hn
  have hlen : 0 < s.length := List.length_pos_iff.2 hn
  by_cases hc : st.col = 0
  · have hc' := h.col.1 hc
    have hp := h.pend hc
    have hz : 10 ∉ List.replicate st.pend 32 ++ s := by
      simp only [List.mem_append, not_or]
      exact ⟨fun hm => by have := List.eq_of_mem_replicate hm; omega, hs⟩
    have hzn : List.replicate st.pend 32 ++ s ≠ [] := by simp [hn]
    unfold wput wind
    rw [if_pos hc, if_pos hc']
    refine ⟨?_, ?_, ?_, ?_⟩
    · dsimp only
      rw [List.append_assoc, List.append_assoc, insF_app, insF_z k _ hz hzn, h.out, hp]
      congr 1
      rw [Nat.add_comm, ← List.replicate_append_replicate, List.append_assoc]
      congr 1
      split
      · rfl
      · rfl
    · dsimp only; omega
    · dsimp only; intro h0; omega
    · dsimp only; intro _
      rw [List.append_assoc, last10_app, last10_z _ hz hzn]
  · have hc' : ¬ st'.col = 0 := fun e => hc (h.col.2 e)
    have hl := h.last hc
    unfold wput wind
    rw [if_neg hc, if_neg hc']
    refine ⟨?_, ?_, ?_, ?_⟩
    · dsimp only
      rw [insF_app, hl, insF_false k _ hs, h.out]
    · dsimp only; omega
    · dsimp only; intro h0; omega
    · dsimp only; intro _
      rw [last10_app, last10_z _ hs hn]
theorem InR.feed {k : Nat} {st st' : Ws} (h : InR k st st') (i : Nat) : InR k (wfeed i st) (wfeed (i + k) st') := by
  have e : last10 false (st.out ++ [10]) = true := by rw [last10_app]; rfl
  refine ⟨?_, ?_, ?_, ?_⟩
  · simp only [wfeed]
    rw [insF_app, h.out]
    simp [insF]
  · simp [wfeed]
  · intro _
    show i + k = i + (if last10 false (st.out ++ [10]) = true then k else 0)
    rw [if_pos e]
  · intro h0; exact absurd rfl h0
theorem InR.wr {k : Nat} : ∀ (t : Dt) (l : List Bool) (ind : Nat) (flat : Bool) (st st' : Ws), InR k st st' → okT t → hasAlign t = false → InR k (wrT t l ind flat st) (wrT t l (ind + k) flat st')
  | .text s, _, _, _, st, st', h, ho, _ => h.add ho
  | .line s, _, ind, flat, st, st', h, ho, _ => by
    unfold wrT
    split
    · exact h.add (sp_no10 ho)
    · exact h.feed ind
  | .hard, _, ind, flat, st, st', h, _, _ => by
    unfold wrT
    exact InR.feed (st := { st with wrong := st.wrong || flat }) (st' := { st' with wrong := st'.wrong || flat }) ⟨h.out, h.col, h.pend, h.last⟩ ind
  | .seq a b, l, ind, flat, st, st', h, ho, ha => by
    simp only [hasAlign, Bool.or_eq_false_iff] at ha
    simp only [wrT]
    exact InR.wr b _ ind flat _ _ (InR.wr a _ ind flat _ _ h ho.1 ha.1) ho.2 ha.2
  | .nest n a, l, ind, flat, st, st', h, ho, ha => by
    simp only [wrT]
    have := InR.wr a l (ind + n) flat st st' h ho ha
    rwa [show ind + n + k = ind + k + n by omega] at this
  | .align a, l, ind, flat, st, st', h, ho, ha => by simp [hasAlign] at ha
  | .group a, l, ind, flat, st, st', h, ho, ha => by
    simp only [wrT]
    exact InR.wr a l.tail ind _ st st' h ho ha
theorem indent_plain {t : Dt} (k : Nat) (ho : okT t) (ha : hasAlign t = false) (fl : List Bool) : txt (.nest k t) fl = insF k false (txt t fl) := by
  unfold txt
  have e : choose fl (.nest k t) = choose fl t := rfl
  rw [e]
  exact (InR.wr t (choose fl t) 0 false Ws.init Ws.init ⟨rfl, Iff.rfl, fun _ => rfl, fun h => absurd rfl h⟩ ho ha).out

/-! ### Costs -/
theorem costL_join (w : Nat) : ∀ (s : List Nat) (t : List Nat) (n : Nat), costL w (s ++ 10 :: t) n = ((costL w s n).1 + (costL w t 0).1, (costL w s n).2 + (costL w t 0).2 + 1)
  | [], t, n => by simp [costL]
  | x :: s, t, n => by
    simp only [List.cons_append, costL]
    split
    · rw [costL_join w s t 0]; simp; omega
    · rw [costL_join w s t (n + 1)]; simp; omega
theorem costL_wide (w : Nat) : ∀ (s : List Nat) (n : Nat), (costL (w + 1) s n).1 ≤ (costL w s n).1 ∧ (costL (w + 1) s n).2 = (costL w s n).2
  | [], n => by simp [costL]
  | x :: s, n => by
    have h0 := costL_wide w s 0
    have h1 := costL_wide w s (n + 1)
    simp only [costL]
    split
    · exact ⟨h0.1, by dsimp only; omega⟩
    · refine ⟨?_, h1.2⟩
      dsimp only
      split <;> split <;> omega
/-- The longest line of a text, n bytes of whose line are already behind us. -/
def longL : List Nat → Nat → Nat
  | [], _ => 0
  | x :: l, n => if x = 10 then longL l 0 else max (n + 1) (longL l (n + 1))
theorem longL_cost (w : Nat) : ∀ (s : List Nat) (n : Nat), (costL w s n).1 = 0 ↔ longL s n ≤ w
  | [], n => by simp [costL, longL]
  | x :: s, n => by
    have h0 := longL_cost w s 0
    have h1 := longL_cost w s (n + 1)
    simp only [costL, longL]
    split
    · exact h0
    · dsimp only
      split <;> omega
end Go.Proofs.Ytbkadgdhmfolaaa
