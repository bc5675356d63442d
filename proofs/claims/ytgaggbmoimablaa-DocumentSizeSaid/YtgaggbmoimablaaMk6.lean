/-
  same, visible, render; limits of rendered texts; the choice that the reference makes is possible.
  Conditions: none.
-/
import Derived.Test.YtgaggbmoimablaaMk5
namespace Go.Proofs.Ytgaggbmoimablaa
open Go Go.RowKit

theorem rnd_lim {d : List Nd} (hv : Valid d) (ht : TxtOk d) (flat : List Bool) : (rnd d flat).1.length ≤ 70368744177664 ∧ ∀ x ∈ (rnd d flat).1, x < 256 := by
  unfold rnd
  split
  · exact ⟨Nat.zero_le _, by simp⟩
  split
  · exact ⟨Nat.zero_le _, by simp⟩
  split
  · exact ⟨Nat.zero_le _, by simp⟩
  · have hlim := FT_lim hv ht (chF ((grp d).zip flat))
    have hl2 := (wr_lim (FT d (chF ((grp d).zip flat)) (d.length - 1)) 0 false Ws.init 0 lsz ⟨Nat.le_refl _, Nat.le_refl _, Nat.le_refl _⟩ (by rw [lsz_eq]; omega)).2
    have hu8 := wr_u8 (FT d (chF ((grp d).zip flat)) (d.length - 1)) 0 false Ws.init (by intro x hx; cases hx)
    have h0 : Ws.init.out.length = 0 := rfl
    refine ⟨?_, hu8⟩
    show (rst d flat).out.length ≤ _
    unfold rst
    omega
theorem rndT_lim {d : List Nd} {t : Dt} (h : Rep d t) (flat : List Bool) : (rndT t flat).1.length ≤ 70368744177664 ∧ ∀ x ∈ (rndT t flat).1, x < 256 := by
  rw [← h.rnd]; exact rnd_lim h.valid h.txt flat

/-! ### The choice is possible -/
def Poss (hs l : List Bool) : Prop := ∀ i : Nat, l[i]? = some true → hs[i]? ≠ some true
theorem Poss.take {a b l : List Bool} (h : Poss (a ++ b) l) : Poss a (l.take a.length) := fun i hi hh => by
  rw [List.getElem?_take] at hi
  split at hi
  · rename_i h1
    exact h i hi (by rw [List.getElem?_append_left h1]; exact hh)
  · cases hi
theorem Poss.drop {a b l : List Bool} (h : Poss (a ++ b) l) : Poss b (l.drop a.length) := fun i hi hh => by
  rw [List.getElem?_drop] at hi
  exact h _ hi (by rw [List.getElem?_append_right (by omega)]; rw [show a.length + i - a.length = i by omega]; exact hh)
theorem Poss.tail {a : Bool} {b l : List Bool} (h : Poss (a :: b) l) : Poss b l.tail := fun i hi hh => h (i + 1) (by rw [List.getElem?_tail] at hi; exact hi) (by simpa using hh)
theorem Poss.head {a : Bool} {b l : List Bool} (h : Poss (a :: b) l) (hl : l.headD false = true) : a = false := by
  cases l with
  | nil => simp at hl
  | cons x l =>
    simp at hl
    subst hl
    have := h 0 rfl
    cases a
    · rfl
    · exact absurd rfl this
theorem choose_poss (flags : List Bool) (t : Dt) : Poss (hards t) (choose flags t) := by
  suffices H : ∀ (hs : List Bool) (k : Nat), Poss hs (chooseL flags hs k) from H _ 0
  intro hs
  induction hs with
  | nil => intro k i hi; simp [chooseL] at hi
  | cons h l ih =>
    intro k i hi
    cases i with
    | zero =>
      simp [chooseL] at hi ⊢
      exact hi.2
    | succ i => simp [chooseL] at hi ⊢; exact by simpa using ih (k + 1) i hi

theorem wind_wrong (st : Ws) : (wind st).wrong = st.wrong := by unfold wind; split <;> rfl
theorem wadd_wrong (s : List Nat) (st : Ws) : (wadd s st).wrong = st.wrong := by unfold wadd wput; split <;> simp [wind_wrong]

theorem wrT_wrong : ∀ (t : Dt) (l : List Bool) (ind : Nat) (flat : Bool) (st : Ws), Poss (hards t) l → (flat = true → hasHard t = false) → (wrT t l ind flat st).wrong = st.wrong
  | .text s, _, _, _, st, _, _ => wadd_wrong s st
  | .line s, _, _, flat, st, _, _ => by
    unfold wrT; split
    · exact wadd_wrong s st
    · rfl
  | .hard, _, _, flat, st, _, h => by
    have : flat = false := by cases flat; rfl; exact absurd (h rfl) (by simp [hasHard])
    subst this
    simp [wrT, wfeed]
  | .seq a b, l, ind, flat, st, hp, h => by
    have hl := hards_len a
    have h1 := Poss.take hp
    have h2 := Poss.drop hp
    rw [hl] at h1 h2
    simp only [wrT]
    rw [wrT_wrong b _ _ _ _ h2 (fun hf => by have := h hf; simp [hasHard] at this; exact this.2), wrT_wrong a _ _ _ _ h1 (fun hf => by have := h hf; simp [hasHard] at this; exact this.1)]
  | .nest n a, l, ind, flat, st, hp, h => wrT_wrong a l _ flat st hp h
  | .align a, l, ind, flat, st, hp, h => wrT_wrong a l _ flat st hp h
  | .group a, l, ind, flat, st, hp, h => by
    simp only [wrT]
    refine wrT_wrong a l.tail ind _ st (Poss.tail hp) (fun hf => ?_)
    rcases Bool.or_eq_true .. ▸ hf with hf | hf
    · exact h hf
    · exact Poss.head hp hf

theorem rndT_choose (flags : List Bool) (t : Dt) : rndT t (choose flags t) = ((wrT t (choose flags t) 0 false Ws.init).out, 0) := by
  unfold rndT
  rw [if_neg (by rw [choose_len]; simp), wrT_wrong t _ _ _ _ (choose_poss flags t) (by simp)]
  rfl

def txt (t : Dt) (flags : List Bool) : List Nat := (wrT t (choose flags t) 0 false Ws.init).out
theorem txt_lim {d : List Nd} {t : Dt} (h : Rep d t) (flags : List Bool) : (txt t flags).length ≤ 70368744177664 ∧ ∀ x ∈ txt t flags, x < 256 := by
  have := rndT_lim h (choose flags t)
  rw [rndT_choose] at this
  exact this

/-- The law's render. -/
theorem lrender_fn (A B : Option Addr) (n c m c2 : Nat) (d : List Nd) (t : Dt) (fl : List Bool) (w : World) (h : SD w A n c d) (hr : Rep d t) (hf : Sl w 1 B m c2 (boolsV fl)) :
    Fn Try.prog 27 [.slice A n c, .slice B m c2] w (fun v w' => v = .string (strOf (txt t fl)) ∧ Ext w w') := by
  refine fn_of_exec (c := c27) gx_ok Try.func27 rfl rfl rfl ?_
  refine call (choice_fn A B n c m c2 d t fl w h hr hf) ?_
  rintro v w1 ⟨C, cp, rfl, hE1, hs1⟩
  refine call (render_fn A C n c (choose fl t).length cp d (choose fl t) w1 (h.ext hE1) hs1 hr.txt) ?_
  rintro v w2 ⟨rfl, hE2⟩
  rw [hr.rnd, rndT_choose]
  refine wif_nef rfl ?_
  exact ⟨rfl, hE1.trans hE2⟩

theorem same_fn (A B : Option Addr) (n c c2 : Nat) (l : List Nat) (w : World) (h1 : Sl w 1 A n c (natsV l)) (h2 : Sl w 1 B n c2 (natsV l)) (hn : n ≤ 65536) :
    Fn Try.prog 21 [.slice A n c, .slice B n c2] w (fun v w' => v = .bool true ∧ Ext w w') := by
  have hl : l.length = n := by have := h1.len; rw [natsV_length] at this; omega
  refine fn_of_exec (c := c21) gx_ok Try.func21 rfl rfl rfl ?_
  refine wif_nef rfl ?_
  refine loop gx_ok [5] (fun s : Nat => [.int .i64 s]) (fun s w' => Ext w w' ∧ s ≤ n) (fun s _ => n - s) 0 rfl ⟨Ext.refl w, Nat.zero_le _⟩ ?_
  rintro s w1 ⟨hE1, hs⟩
  refine wif_d (fun g1 => ?_) (fun g1 => ?_)
  · have hx : l[s]? = some l[s] := List.getElem?_eq_getElem (by omega)
    generalize l[s] = x at hx
    refine draw gx_ok (by kernel_rfl) ?_
    refine index_sl (h1.ext hE1) (by omega) (fun ad u hA hu hcell => ?_)
    rw [natsV_get hx] at hu
    cases hu
    refine qload (fun w' hw' => hw'.cell hcell) ?_
    refine index_sl (h2.ext hE1) (by omega) (fun ad u hA hu hcell => ?_)
    rw [natsV_get hx] at hu
    cases hu
    refine qload (fun w' hw' => hw'.cell hcell) ?_
    intro w2 hE2
    refine wif_nef rfl ?_
    refine norm_i64_to ((s + 1 : Nat) : Int) (by omega) (by omega) ?_
    exact ⟨s + 1, rfl, ⟨hE1.trans hE2, by omega⟩, by show n - (s + 1) < n - s; omega⟩
  · exact ⟨rfl, hE1⟩

def vis (l : List Nat) : List Nat := l.filter fun x => x != 32 && x != 10
theorem visible_fn (s : ByteArray) (w : World) (hs : s.size ≤ 100000000000000) : Fn Try.prog 24 [.string s] w (fun v w' => v = .string (strOf (vis (bytesOf s))) ∧ Ext w w') := by
  refine fn_of_exec (c := c24) gx_ok Try.func24 rfl rfl rfl ?_
  refine at_build0 gx_ok rfl rfl rfl rfl rfl rfl ?_
  intro w1 hE1 hsz1 hB1
  have hown1 : Own w1 w.heap.size 5 1 (some ⟨w.heap.size, 0, none⟩) 0 0 (bytesV []) := Own.empty hB1 (Nat.le_refl _)
  refine loop gx_ok [3, 4] (fun t : Option Addr × Nat × Nat × List Nat => [.slice t.1 t.2.2.2.length t.2.1, .int .i64 t.2.2.1]) (fun t w' => Ext w w' ∧ Own w' w.heap.size 5 1 t.1 t.2.2.2.length t.2.1 (bytesV t.2.2.2) ∧ t.2.2.1 ≤ s.size ∧ t.2.2.2 = vis ((bytesOf s).take t.2.2.1)) (fun t _ => s.size - t.2.2.1) (_, 0, 0, []) rfl ⟨hE1, hown1, Nat.zero_le _, by simp [vis]⟩ ?_
  rintro ⟨B, c, i, l⟩ w2 ⟨hE2, hown2, hi, hl⟩
  dsimp only at hown2 hi hl ⊢
  have hll : l.length ≤ s.size := by
    rw [hl]
    refine Nat.le_trans (List.length_filter_le _ _) ?_
    rw [List.length_take, bytesOf_length]; omega
  have hz2 := hE2.size
  refine wif_d (fun g1 => ?_) (fun g1 => ?_)
  · have hii : i < s.size := by omega
    refine sindex' hii (fun x hx hx8 => ?_)
    have hstep : vis ((bytesOf s).take (i + 1)) = l ++ vis [x] := by
      rw [List.take_add_one, hx, hl]; simp [vis]
    have no : vis [x] = [] → ∀ w3, w2 = w3 → Ext w w3 ∧ Own w3 w.heap.size 5 1 B l.length c (bytesV l) ∧ i + 1 ≤ s.size ∧ l = vis ((bytesOf s).take (i + 1)) := fun h w3 e => by
      subst e
      exact ⟨hE2, hown2, by omega, by rw [hstep, h, List.append_nil]⟩
    refine wif_ne (fun g2 => ?_) (fun g2 => ?_)
    · refine sindex' hii (fun y hy hy8 => ?_)
      have hyx : y = x := Option.some.inj (hy.symm.trans hx)
      subst hyx
      refine wif_ne (fun g3 => ?_) (fun g3 => ?_)
      · refine sindex' hii (fun z hz hz8 => ?_)
        have hzx : z = y := Option.some.inj (hz.symm.trans hx)
        subst hzx
        refine at_build1 gx_ok rfl rfl rfl rfl rfl rfl rfl rfl ?_
        intro w3 hE3 hsz3 hB3
        have hs3 : Sl w3 1 (some ⟨w2.heap.size, 0, none⟩) 1 1 (bytesV [z]) := Sl.own' hB3 rfl (by simp [maxLen])
        refine at_app gx_ok rfl rfl rfl rfl rfl (by decide) rfl rfl ⟨_, rfl⟩ rfl rfl (hown2.ext hE3) hs3 (by simp [bytesV, scalar]) (by unfold maxLen; omega) (by show _ * 1 ≤ _; omega) (by have := hE3.size; omega) ?_
        intro B' c' w4 hm4 hown4 _
        refine norm_i64_to ((i + 1 : Nat) : Int) (by omega) (by omega) ?_
        have hv : vis [z] = [z] := by simp [vis]; omega
        refine ⟨(B', c', i + 1, l ++ [z]), by simp; rfl, ⟨hm4.ext (hE2.trans hE3) (fun k hk => (hown2.rows k hk).1), ?_, by dsimp only; omega, by dsimp only; rw [hstep, hv]⟩, by show s.size - (i + 1) < s.size - i; omega⟩
        rw [List.length_append]
        have e : bytesV (l ++ [z]) = bytesV l ++ bytesV [z] := by simp [bytesV]
        rw [e]
        exact hown4
      · refine norm_i64_to ((i + 1 : Nat) : Int) (by omega) (by omega) ?_
        exact ⟨(B, c, i + 1, l), rfl, no (by simp [vis]; omega) _ rfl, by show s.size - (i + 1) < s.size - i; omega⟩
    · refine norm_i64_to ((i + 1 : Nat) : Int) (by omega) (by omega) ?_
      exact ⟨(B, c, i + 1, l), rfl, no (by simp [vis]; omega) _ rfl, by show s.size - (i + 1) < s.size - i; omega⟩
  · have : i = s.size := by omega
    subst this
    rw [List.take_of_length_le (by rw [bytesOf_length]; omega)] at hl
    refine at_str gx_ok rfl rfl rfl rfl rfl rfl rfl rfl hown2.sl ?_
    exact ⟨by rw [hl], hE2⟩
end Go.Proofs.Ytgaggbmoimablaa
