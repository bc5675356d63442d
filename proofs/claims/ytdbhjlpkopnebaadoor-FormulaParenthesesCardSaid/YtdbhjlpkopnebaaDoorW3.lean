/-
  FormulaParentheses: the walk.
  Conditions: none.
-/
import Derived.Test.YtdbhjlpkopnebaaDoorPl1
import Derived.Test.YtdbhjlpkopnebaaDoorW2
namespace Go.Proofs.YtdbhjlpkopnebaaDoor
open Go Go.RowKit

theorem depP_zero (l : List Nat) : depP (l.take 0) = 0 := rfl
theorem depP_snoc (s : List Nat) (at_ i : Nat) (b : Nat) (ha : at_ ≤ i) (hb : s[i]? = some b) : depP ((s.drop at_).take (i + 1 - at_)) = depP ((s.drop at_).take (i - at_)) + (if b = 40 then 1 else if b = 41 then -1 else 0) := by
  have hg : (s.drop at_)[i - at_]? = some b := by rw [List.getElem?_drop, show at_ + (i - at_) = i by omega]; exact hb
  rw [show i + 1 - at_ = (i - at_) + 1 by omega, List.take_add_one, hg, Option.toList_some, depP_app]
  congr 1
  by_cases h0 : b = 40
  · subst h0; rfl
  · rw [if_neg h0]
    by_cases h1 : b = 41
    · subst h1; rfl
    · rw [if_neg h1]; unfold depP
      rw [List.count_eq_zero_of_not_mem (by simp; omega), List.count_eq_zero_of_not_mem (by simp; omega)]; rfl

theorem closing_fn (s : List Nat) (i0 : Nat) (w : World) (h8 : ∀ x ∈ s, x < 256) (hl : s.length ≤ 1000000) (hb : Bal s) (hi : s[i0]? = some 40) :
    Fn Tryd.prog 22 [.string (strOf s), .int .i64 i0] w (fun v w' => ∃ k : Nat, v = .int .i64 k ∧ i0 < k ∧ s[k]? = some 41 ∧ w = w') := by
  have hsz : (strOf s).size = s.length := strOf_size s
  have hby : bytesOf (strOf s) = s := bytesOf_strOf h8
  have hi0 := (List.getElem?_eq_some_iff.1 hi).1
  refine fn_of_exec (c := { c22 with cuts := [] }) gx_ok Tryd.func22 rfl rfl rfl ?_
  refine loop gx_ok [6, 5] (fun i : Nat => [.int .i64 i, .int .i64 (depP ((s.drop i0).take (i - i0)))]) (fun i w' => w = w' ∧ i0 ≤ i ∧ i ≤ s.length ∧ (i = i0 ∨ 0 < depP ((s.drop i0).take (i - i0)))) (fun i _ => s.length - i) i0 (by rw [Nat.sub_self]; rfl) ⟨rfl, Nat.le_refl _, by omega, .inl rfl⟩ ?_
  rintro i _ ⟨rfl, hi1, hi2, hd⟩
  have bnd : ∀ l : List Nat, l.length ≤ 1000000 → -1000000 ≤ depP l ∧ depP l ≤ 1000000 := fun l hl => by
    unfold depP
    have := List.count_le_length (a := 40) (l := l)
    have := List.count_le_length (a := 41) (l := l)
    omega
  have lt : ((s.drop i0).take (i - i0)).length ≤ 1000000 := by rw [List.length_take, List.length_drop]; omega
  have b1 := bnd _ lt
  refine wif_d (fun h1 => ?_) (fun h1 => ?_)
  · have hgi : s[i]? = some s[i] := List.getElem?_eq_getElem (by omega)
    generalize s[i] = b at hgi
    have hsn := depP_snoc s i0 i b hi1 hgi
    have rd : ∀ {K : Int → Prop}, K (b : Int) → SIndex (strOf s) (i : Int) K := fun k => sindex' (by omega) (fun x hx _ => by
      rw [hby] at hx
      have : x = b := Option.some.inj (hx.symm.trans hgi)
      subst this; exact k)
    refine rd ?_
    have step : depP ((s.drop i0).take (i + 1 - i0)) ≠ 0 → (i + 1 = i0 ∨ 0 < depP ((s.drop i0).take (i + 1 - i0))) := fun hne => by
      right
      rcases hd with hd | hd
      · subst hd
        have : b = 40 := Option.some.inj (hgi.symm.trans hi)
        rw [hsn, if_pos this, Nat.sub_self, depP_zero]; decide
      · rw [hsn] at hne ⊢
        by_cases h0 : b = 40
        · rw [if_pos h0]; omega
        · rw [if_neg h0] at hne ⊢
          by_cases h2 : b = 41
          · rw [if_pos h2] at hne ⊢; omega
          · rw [if_neg h2]; omega
    have done : depP ((s.drop i0).take (i + 1 - i0)) = 0 → i0 < i ∧ s[i]? = some 41 := fun he => by
      rcases hd with hd | hd
      · subst hd
        have : b = 40 := Option.some.inj (hgi.symm.trans hi)
        rw [hsn, if_pos this, Nat.sub_self, depP_zero] at he
        exact absurd he (by decide)
      · rw [hsn] at he
        by_cases h0 : b = 40
        · rw [if_pos h0] at he; omega
        · rw [if_neg h0] at he
          by_cases h2 : b = 41
          · refine ⟨?_, by rw [hgi, h2]⟩
            rcases Nat.lt_or_ge i0 i with h | h
            · exact h
            · have : i = i0 := by omega
              subst this
              rw [Nat.sub_self, depP_zero] at hd; exact absurd hd (by decide)
          · rw [if_neg h2] at he; omega
    have fin : ∀ (K : Prop) (d : Int), d = depP ((s.drop i0).take (i + 1 - i0)) → K → K := fun _ _ _ k => k
    by_cases c1 : b = 40
    · refine wif_eqt (by omega) ?_
      rw [if_pos c1] at hsn
      refine norm_i64_to (depP ((s.drop i0).take (i + 1 - i0))) hsn.symm (by omega) ?_
      refine rd ?_
      refine wif_eqf (by omega) ?_
      refine wif_eq (fun h5 => ?_) (fun h5 => ?_)
      · exact ⟨i, rfl, (done h5).1, (done h5).2, rfl⟩
      · refine norm_i64_to ((i + 1 : Nat) : Int) (by omega) (by omega) ?_
        exact ⟨i + 1, rfl, ⟨rfl, by omega, by omega, step h5⟩, by show s.length - (i + 1) < s.length - i; omega⟩
    · refine wif_eqf (by omega) ?_
      rw [if_neg c1] at hsn
      refine rd ?_
      by_cases c2 : b = 41
      · refine wif_eqt (by omega) ?_
        rw [if_pos c2] at hsn
        refine norm_i64_to (depP ((s.drop i0).take (i + 1 - i0))) (by omega) (by omega) ?_
        refine wif_eq (fun h5 => ?_) (fun h5 => ?_)
        · exact ⟨i, rfl, (done h5).1, (done h5).2, rfl⟩
        · refine norm_i64_to ((i + 1 : Nat) : Int) (by omega) (by omega) ?_
          exact ⟨i + 1, rfl, ⟨rfl, by omega, by omega, step h5⟩, by show s.length - (i + 1) < s.length - i; omega⟩
      · refine wif_eqf (by omega) ?_
        rw [if_neg c2, Int.add_zero] at hsn
        rw [← hsn]
        refine wif_eq (fun h5 => ?_) (fun h5 => ?_)
        · exact ⟨i, rfl, (done h5).1, (done h5).2, rfl⟩
        · refine norm_i64_to ((i + 1 : Nat) : Int) (by omega) (by omega) ?_
          exact ⟨i + 1, rfl, ⟨rfl, by omega, by omega, step h5⟩, by show s.length - (i + 1) < s.length - i; omega⟩
  · have hil : i = s.length := by omega
    subst hil
    rcases hd with hd | hd
    · omega
    · rw [List.take_of_length_le (by rw [List.length_drop]; omega)] at hd
      have e := depP_app (s.take i0) (s.drop i0)
      rw [List.take_append_drop, hb.all] at e
      have := hb.pre i0
      omega

/-- A text without two of its bytes. -/
def without (s : List Nat) (i k : Nat) : List Nat := s.take i ++ (s.take k).drop (i + 1) ++ s.drop (k + 1)
theorem without_count {s : List Nat} {i k : Nat} (hi : s[i]? = some 40) (hk : s[k]? = some 41) (h : i < k) : (without s i k).count 40 + 1 = s.count 40 := by
  have hi' := (List.getElem?_eq_some_iff.1 hi).1
  have hk' := (List.getElem?_eq_some_iff.1 hk).1
  have e1 : s.drop k = 41 :: s.drop (k + 1) := by
    rw [List.drop_eq_getElem_cons hk']
    rw [List.getElem?_eq_getElem hk'] at hk; rw [Option.some.inj hk]
  have hlt : i < (s.take k).length := by rw [List.length_take]; omega
  have e2 : (s.take k).drop i = 40 :: (s.take k).drop (i + 1) := by
    rw [List.drop_eq_getElem_cons hlt]
    rw [List.getElem?_eq_getElem hi'] at hi
    congr 1
    rw [List.getElem_take, Option.some.inj hi]
  have e3 : s = s.take i ++ ((s.take k).drop i ++ s.drop k) := by
    have h1 : s.take i = (s.take k).take i := by rw [List.take_take, Nat.min_eq_left (by omega)]
    rw [h1, ← List.append_assoc, List.take_append_drop, List.take_append_drop]
  unfold without
  conv => rhs; rw [e3, e1, e2]
  simp only [List.count_append, List.count_cons]
  simp
  omega
theorem without_len {s : List Nat} {i k : Nat} : (without s i k).length ≤ s.length + s.length + s.length := by
  unfold without
  rw [List.length_append, List.length_append, List.length_take, List.length_drop, List.length_drop, List.length_take]; omega
theorem without_b8 {s : List Nat} (h8 : ∀ x ∈ s, x < 256) (i k : Nat) : ∀ x ∈ without s i k, x < 256 := fun x hx => by
  unfold without at hx
  simp only [List.mem_append] at hx
  rcases hx with (hx | hx) | hx
  · exact h8 x (List.mem_of_mem_take hx)
  · exact h8 x (List.mem_of_mem_take (List.mem_of_mem_drop hx))
  · exact h8 x (List.mem_of_mem_drop hx)

theorem paren_law (l : List Nat) (A : Option Addr) (n c : Nat) (k : Nat) (w : World) (h : Sl w 1 A n c (bytesV l)) (h8 : ∀ x ∈ l, x ≤ 255) :
    Fn Tryd.prog 6 [.slice A n c, .int .u8 k] w (fun v w' => v = .bool true ∧ Ext w w') := by
  refine fn_of_exec (c := { c6 with cuts := [] }) gx_ok Tryd.func6 rfl rfl rfl ?_
  refine call (sanity_fn w) ?_
  rintro _ w1 ⟨rfl, hE1⟩
  refine call (letters_fn 12 w1 (by decide)) ?_
  rintro _ w2 ⟨LA, lc, rfl, hE2, hL⟩
  have hE02 := hE1.trans hE2
  obtain ⟨lb, lo, ll⟩ := letters_ok 12 (by decide)
  have km : k % 12 < 12 := Nat.mod_lt _ (by decide)
  refine norm_rem (d := 12) (by decide) ?_
  refine norm_i64_to ((k % 12 : Nat) : Int) rfl (by omega) ?_
  refine norm_i64_to ((k % 12 + 1 : Nat) : Int) (by omega) (by omega) ?_
  refine call (made_fn l A n c (k % 12 + 1) w2 (h.ext hE02) h8 (by omega) (by omega)) ?_
  rintro _ w3 ⟨F, m, cF, f, rfl, hE3, hF, hfv, hvo, hfl⟩
  have hM := madeF hfv hvo hfl
  obtain ⟨p1, p2, p3⟩ := lett_print hM (k := 12) (by decide) (by omega)
  refine call (print_fn (letters12.take 12) LA F 12 lc m cF f w3 (hL.ext hE3) lb hF (fun _ _ => by omega)) ?_
  rw [p1]
  rintro _ w4 ⟨rfl, hE4⟩
  have hE24 := hE3.trans hE4
  have hN := nmOk_of lb lo
  have hlex := lex_prF hN (treeOf f) (by rw [ll]; exact hM.vi.mono (by omega))
  have hpc : (prF (letters12.take 12) 0 (treeOf f)).count 40 = pcF (treeOf f) := by
    have h1 := count_lex _ (prF (letters12.take 12) 0 (treeOf f)) (Nat.le_refl _) (by have := congrArg Prod.snd hlex; exact this)
    have h2 : (lexF (prF (letters12.take 12) 0 (treeOf f)).length (prF (letters12.take 12) 0 (treeOf f))).1 = tkC (letters12.take 12) (treeOf f) := congrArg Prod.fst hlex
    rw [h1, h2]
    exact lpc_print _ (by decide) _
  have hbal : Bal (prF (letters12.take 12) 0 (treeOf f)) := by
    unfold prF
    exact (bal_print (by decide) (treeOf f)).par _
  generalize prF (letters12.take 12) 0 (treeOf f) = s at p1 p2 p3 hlex hpc hbal
  have hsz : (strOf s).size = s.length := strOf_size s
  have hby : bytesOf (strOf s) = s := bytesOf_strOf p3
  refine wif_nef rfl ?_
  refine loop gx_ok [10] (fun i : Nat => [.int .i64 i]) (fun i w' => Ext w4 w' ∧ i ≤ s.length) (fun i _ => s.length - i) 0 rfl ⟨Ext.refl w4, Nat.zero_le _⟩ ?_
  rintro i w5 ⟨hE5, hi⟩
  refine wif_d (fun h1 => ?_) (fun h1 => ?_)
  · have h1' : i < s.length := by simp only [strOf_size] at h1; omega
    have hgi : s[i]? = some s[i] := List.getElem?_eq_getElem h1'
    generalize s[i] = b at hgi
    refine sindex' (by omega) (fun x hx _ => ?_)
    rw [hby] at hx
    have hxb : x = b := Option.some.inj (hx.symm.trans hgi)
    subst hxb
    by_cases hx40 : x = 40
    · subst hx40
      refine wif_nef rfl ?_
      refine call (closing_fn s i w5 p3 (by omega) hbal hgi) ?_
      rintro _ _ ⟨kk, rfl, hik, hgk, rfl⟩
      have hkl := (List.getElem?_eq_some_iff.1 hgk).1
      have hsl : (strOf s).size = s.length := hsz
      have hsl' : (strOf (s, (0 : Int)).fst).size = s.length := hsz
      refine draw_plan gx_ok (Ext w5) 15 [(true, 0), (true, 1), (true, 2), (true, 3), (true, 4), (true, 5), (true, 6), (true, 7), (true, 8), (true, 9), (true, 10), (true, 11), (true, 12), (true, 13), (true, 14)] (by kernel_rfl) (Ext.drew w5) ?_
      refine need_to (v' := .string (strOf (s.take i))) ⟨by omega, by omega, by omega⟩ (by simp only [Int.toNat_natCast, Int.toNat_zero]; rw [strOf_extract, List.drop_zero]) ?_
      refine norm_i64_to ((i + 1 : Nat) : Int) (by omega) (by omega) ?_
      refine need_to (v' := .string (strOf ((s.take kk).drop (i + 1)))) ⟨by omega, by omega, by omega⟩ (by simp only [Int.toNat_natCast]; rw [strOf_extract]) ?_
      refine need_to (v' := .string (strOf (s.take i ++ (s.take kk).drop (i + 1)))) (by rw [strOf_size, strOf_size, List.length_take, List.length_drop, List.length_take]; simp only [maxLen]; omega) (by rw [strOf_append]) ?_
      refine norm_i64_to ((kk + 1 : Nat) : Int) (by omega) (by omega) ?_
      refine need_to (v' := .string (strOf (s.drop (kk + 1)))) ⟨by omega, by omega, by omega⟩ (by simp only [Int.toNat_natCast]; rw [hsl, strOf_extract, List.take_of_length_le (Nat.le_refl _)]) ?_
      refine need_to (v' := .string (strOf (without s i kk))) (by rw [strOf_size, strOf_size, List.length_append, List.length_take, List.length_drop, List.length_take, List.length_drop]; simp only [maxLen]; omega) (by rw [strOf_append]; rfl) ?_
      have hEd := hE5.trans (Ext.drew w5)
      have hwl := without_len (s := s) (i := i) (k := kk)
      refine call (parse_fn (letters12.take 12) LA 12 lc (without s i kk) w5.drew (hL.ext (hE24.trans hEd)) lb (without_b8 p3 i kk) (by omega)) ?_
      rintro _ w6 ⟨G, mg, cG, rfl, hE6, hG⟩
      have hE46 := hEd.trans hE6
      have hno : ∀ r, parseP (letters12.take 12) (without s i kk) = (r, 0) → r ≠ postF (treeOf f) 0 := fun r hr e => by
        subst e
        have h1 := paren_min lo hr
        have h2 := without_count hgi hgk hik
        omega
      refine wif_eq (fun h5 => ?_) (fun h5 => ?_)
      · refine call (postorder_fn F m cF f w6 (hF.ext (hE4.trans hE46)) hfv) ?_
        rintro _ w7 ⟨PA, pc, rfl, hE7, hP⟩
        refine call (rsamef_fn G PA mg cG _ pc _ _ w7 (hG.ext hE7) hP) ?_
        rintro _ w8 ⟨rfl, hE8⟩
        refine wif_df (hno _ (Prod.ext rfl h5)) ?_
        refine norm_i64_to ((i + 1 : Nat) : Int) (by omega) (by omega) ?_
        exact ⟨i + 1, rfl, ⟨hE46.trans (hE7.trans hE8), by omega⟩, by show s.length - (i + 1) < s.length - i; omega⟩
      · refine norm_i64_to ((i + 1 : Nat) : Int) (by omega) (by omega) ?_
        exact ⟨i + 1, rfl, ⟨hE46, by omega⟩, by show s.length - (i + 1) < s.length - i; omega⟩
    · refine wif_net (by omega) ?_
      refine norm_i64_to ((i + 1 : Nat) : Int) (by omega) (by omega) ?_
      exact ⟨i + 1, rfl, ⟨hE5, by omega⟩, by show s.length - (i + 1) < s.length - i; omega⟩
  · exact ⟨rfl, hE02.trans (hE24.trans hE5)⟩
end Go.Proofs.YtdbhjlpkopnebaaDoor
