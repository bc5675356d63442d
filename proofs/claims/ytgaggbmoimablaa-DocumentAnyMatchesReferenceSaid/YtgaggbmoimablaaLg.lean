/-
  The laws MatchesReference and AnyMatchesReference: the walks.
  Conditions: none.
-/
import Derived.Test.YtgaggbmoimablaaLa
namespace Go.Proofs.Ytgaggbmoimablaa
open Go Go.RowKit

theorem matches_law (L F : Option Addr) (n cl m cf : Nat) (bs : List Nat) (fl : List Bool) (width : Int) (w : World) (hL : Sl w 1 L n cl (u8V bs)) (hb : ∀ b ∈ bs, b ≤ 255) (hF : Sl w 1 F m cf (boolsV fl)) (hw : -9223372036854775808 ≤ width ∧ width ≤ 9223372036854775807) :
    Fn Try.prog 3 [.slice L n cl, .slice F m cf, .int .i64 width] w (fun v w' => v = .bool true ∧ Ext w w') := by
  have hfl : fl.length = m := by have := hF.len; rw [boolsV_length] at this; omega
  refine fn_of_exec (c := { c3 with cuts := [6] }) gx_ok Try.func3 rfl rfl rfl ?_
  refine call (sanity_fn w) ?_
  rintro v w1 ⟨rfl, hE1⟩
  refine call (made_dr 40 (hL.ext hE1) hb (by decide) (by decide)) ?_
  rintro v w2 ⟨t, ho, A, c, d, rfl, hE2, hd⟩
  have hE02 := hE1.trans hE2
  have hv := hd.rep.valid
  have hdl := hd.len
  have htm : ∀ x ∈ d, x.t.size ≤ maxLen := fun x hx => by have := hd.rep.txt x hx; unfold maxLen; omega
  refine call (groups_fn A d.length c d w2 hd.sd) ?_
  rintro v w3 ⟨B, M, cB, rfl, hE3, hs3⟩
  refine call (rgroups_fn A d.length c d w3 (hd.ext hE3).sd htm) ?_
  rintro v w4 ⟨B4, M4, cB4, rfl, hE4, hs4⟩
  have hMM : M4 = M := by
    have h1 := hs3.len
    have h2 := hs4.len
    omega
  subst hMM
  have hM : M4 = ng t := by
    have h1 := hs3.len
    rw [natsV_length, grp_ok hv, G_ng hv.ok, hd.rep.tree] at h1
    omega
  have hMd : M4 ≤ d.length := by
    have h1 := hs3.len
    rw [natsV_length, grp_ok hv] at h1
    have h2 := G_len hv (d.length - 1)
    have h3 := hv.2.1
    omega
  rw [chk_ok hv]
  have hE04 := hE02.trans (hE3.trans hE4)
  refine at_build0 gx_ok rfl rfl rfl rfl rfl rfl ?_
  intro w5 hE5 hsz5 hB5
  have hown5 : Own w5 w4.heap.size 4 1 (some ⟨w4.heap.size, 0, none⟩) 0 0 (boolsV []) := Own.empty hB5 (Nat.le_refl _)
  refine cutIn [] gx_ok [13] (fun s : Option Addr × Nat × List Bool => [.slice s.1 s.2.2.length s.2.1]) (fun s w' => Ext w4 w' ∧ Own w' w4.heap.size 4 1 s.1 s.2.2.length s.2.1 (boolsV s.2.2) ∧ s.2.2.length = M4) ?_ ?_
  · refine loop gx_ok [13, 14] (fun s : Option Addr × Nat × List Bool => [.slice s.1 s.2.2.length s.2.1, .int .i64 s.2.2.length]) (fun s w' => Ext w4 w' ∧ Own w' w4.heap.size 4 1 s.1 s.2.2.length s.2.1 (boolsV s.2.2) ∧ s.2.2.length ≤ M4) (fun s _ => M4 - s.2.2.length) (_, 0, []) rfl ⟨hE5, hown5, Nat.zero_le _⟩ ?_
    rintro ⟨C, cp, l⟩ w6 ⟨hE6, hown6, hl⟩
    dsimp only at hown6 hl ⊢
    have fin : ∀ (b : Bool) (w7 w8 : World) (A' : Option Addr) (c' : Nat), Ext w6 w7 → Mod (rowS C) w7 w8 → Own w8 w4.heap.size 4 1 A' (l.length + 1) c' (boolsV l ++ [Value.bool b]) → Ext w4 w8 ∧ Own w8 w4.heap.size 4 1 A' (l ++ [b]).length c' (boolsV (l ++ [b])) := fun b w7 w8 A' c' h1 h2 h3 =>
      ⟨h2.ext (hE6.trans h1) (fun k hk => (hown6.rows k hk).1), by rw [List.length_append]; simpa [boolsV] using h3⟩
    refine wif_d (fun h1 => ?_) (fun h1 => ?_)
    · refine wif_d (fun h2 => ?_) (fun h2 => ?_)
      · have hfs : fl[l.length]? = some fl[l.length] := List.getElem?_eq_getElem (by omega)
        generalize fl[l.length] = b at hfs
        refine index_sl (hF.ext (hE04.trans hE6)) (by omega) (fun ad u hA hu hcell => ?_)
        rw [boolsV_get hfs] at hu
        cases hu
        refine load hcell ?_
        refine at_build1 gx_ok rfl rfl rfl rfl rfl rfl rfl rfl ?_
        intro w7 hE7 hsz7 hB7
        refine at_app gx_ok rfl rfl rfl rfl rfl (by decide) rfl rfl ⟨_, rfl⟩ rfl rfl (hown6.ext hE7) (Sl.own' hB7 rfl (by simp [maxLen])) (by simp [scalar]) (by unfold maxLen; omega) (by show _ * 1 ≤ _; omega) (by have := hE6.size; have := hE7.size; omega) ?_
        intro A' c' w8 hm8 hown8 _
        have hf := fin b w7 w8 A' c' hE7 hm8 hown8
        refine norm_i64_to ((l.length + 1 : Nat) : Int) (by omega) (by omega) ?_
        exact ⟨(A', c', l ++ [b]), by simp; rfl, ⟨hf.1, hf.2, by simp; omega⟩, by simp; omega⟩
      · refine at_build1 gx_ok rfl rfl rfl rfl rfl rfl rfl rfl ?_
        intro w7 hE7 hsz7 hB7
        refine at_app gx_ok rfl rfl rfl rfl rfl (by decide) rfl rfl ⟨_, rfl⟩ rfl rfl (hown6.ext hE7) (Sl.own' hB7 rfl (by simp [maxLen])) (by simp [scalar]) (by unfold maxLen; omega) (by show _ * 1 ≤ _; omega) (by have := hE6.size; have := hE7.size; omega) ?_
        intro A' c' w8 hm8 hown8 _
        have hf := fin false w7 w8 A' c' hE7 hm8 hown8
        refine norm_i64_to ((l.length + 1 : Nat) : Int) (by omega) (by omega) ?_
        exact ⟨(A', c', l ++ [false]), by simp; rfl, ⟨hf.1, hf.2, by simp; omega⟩, by simp; omega⟩
    · exact ⟨(C, cp, l), rfl, hE6, hown6, by dsimp only; omega⟩
  rintro ⟨C, cp, X⟩ w6 ⟨hE6, hown6, hX⟩
  dsimp only at hown6 hX ⊢
  have hd6 := hd.ext (hE3.trans (hE4.trans hE6))
  have hE06 := hE04.trans hE6
  refine call (render_dr X hd6 hown6.sl) ?_
  rintro v w7 ⟨rfl, hE7⟩
  refine call (rrender_dr X (hd6.ext hE7) (hown6.ext hE7).sl) ?_
  rintro v w8 ⟨rfl, hE8⟩
  have hE68 := hE7.trans hE8
  refine call (choice_dr (hd6.ext hE68) (hF.ext (hE06.trans hE68))) ?_
  rintro v w9 ⟨D9, c9, rfl, hE9, hs9⟩
  have hE69 := hE68.trans hE9
  refine call (render_dr (choose fl t) (hd6.ext hE69) hs9) ?_
  rintro v w10 ⟨rfl, hE10⟩
  have hE610 := hE69.trans hE10
  refine call (choice_dr (hd6.ext hE610) (hF.ext (hE06.trans hE610))) ?_
  rintro v w11 ⟨D11, c11, rfl, hE11, hs11⟩
  have hE611 := hE610.trans hE11
  refine call (rrender_dr (choose fl t) (hd6.ext hE611) hs11) ?_
  rintro v w12 ⟨rfl, hE12⟩
  have hE612 := hE611.trans hE12
  rw [rndT_choose]
  have hlim := txt_lim hd.rep fl
  refine call (cost_fn (strOf (txt t fl)) width w12 (by rw [strOf_size]; omega) (by omega)) ?_
  rintro v w13 ⟨rfl, hE13⟩
  refine call (rcost_fn (strOf (txt t fl)) width w13 (by rw [strOf_size]; omega)) ?_
  rintro v w14 ⟨rfl, hE14⟩
  have hE614 := hE612.trans (hE13.trans hE14)
  refine wif_eqt rfl ?_
  refine call (same_fn _ _ _ _ _ (grp d) w14 ((hs3.ext hE4).ext (hE6.trans hE614)) (hs4.ext (hE6.trans hE614)) (by omega)) ?_
  rintro v w15 ⟨rfl, hE15⟩
  refine wif_t (by simp) ?_
  refine wif_t (by simp) ?_
  refine wif_t (by simp) ?_
  refine wif_t (by simp) ?_
  refine wif_t (by simp) ?_
  refine wif_t (by simp) ?_
  have hE615 := hE614.trans hE15
  refine call (check_fn A d.length c d w15 (hd6.ext hE615).sd) ?_
  rintro v w16 ⟨rfl, hE16⟩
  refine call (rcheck_fn A d.length c d w16 (hd6.ext (hE615.trans hE16)).sd htm) ?_
  rintro v w17 ⟨rfl, hE17⟩
  refine wif_eqt rfl ?_
  exact ⟨rfl, hE06.trans (hE615.trans (hE16.trans hE17))⟩

theorem any_law (A F : Option Addr) (n c m cf : Nat) (d : List Nd) (fl : List Bool) (s : ByteArray) (w : World) (h : SD w A n c d) (hmx : ∀ x ∈ d, x.t.size ≤ maxLen) (hF : Sl w 1 F m cf (boolsV fl)) (hs : s.size ≤ maxLen) :
    Fn Try.prog 4 [.slice A n c, .slice F m cf, .string s] w (fun v w' => v = .bool true ∧ Ext w w') := by
  have hlen := h.2
  have hfl : fl.length = m := by have := hF.len; rw [boolsV_length] at this; omega
  have hmc := hF.le
  have hcm := hF.cap
  unfold maxLen at hcm
  refine fn_of_exec (c := { c4 with cuts := [4] }) gx_ok Try.func4 rfl rfl rfl ?_
  refine call (sanity_fn w) ?_
  rintro v w1 ⟨rfl, hE1⟩
  refine wif_d (fun g => ⟨rfl, hE1⟩) (fun hn => ?_)
  refine wif_d (fun g => ⟨rfl, hE1⟩) (fun hs2 => ?_)
  refine cut0In [] gx_ok (fun w' => w1 = w' ∧ ∀ x ∈ d, x.t.size ≤ 20) ?_ ?_
  · refine loop gx_ok [8] (fun s : Nat => [.int .i64 s]) (fun s w' => w1 = w' ∧ s ≤ n ∧ ∀ x ∈ d.take s, x.t.size ≤ 20) (fun s _ => n - s) 0 rfl ⟨rfl, Nat.zero_le _, by simp⟩ ?_
    rintro i _ ⟨rfl, hi, hall⟩
    refine wif_d (fun g1 => ?_) (fun g1 => ?_)
    · refine index_sls nd_len (h.ext hE1) rfl (by omega) (fun p x hx hc => ?_)
      refine load (hc 1 _ rfl) ?_
      refine wif_d (fun g2 => ⟨rfl, hE1⟩) (fun g2 => ?_)
      refine norm_i64_to ((i + 1 : Nat) : Int) (by omega) (by omega) ?_
      refine ⟨i + 1, rfl, ⟨rfl, (by omega : i + 1 ≤ n), ?_⟩, by show n - (i + 1) < n - i; omega⟩
      intro y hy
      rw [List.take_add_one, hx] at hy
      simp only [List.mem_append, Option.toList_some, List.mem_singleton] at hy
      rcases hy with hy | rfl
      · exact hall y hy
      · omega
    · rw [List.take_of_length_le (by omega)] at hall
      exact ⟨rfl, rfl, hall⟩
  rintro _ ⟨rfl, hall⟩
  have htx : TxtOk d := fun x hx => by have := hall x hx; omega
  have hgn : (grp d).length ≤ 24 := by
    by_cases hv : Valid d
    · rw [grp_ok hv]
      have h2 := G_len hv (d.length - 1)
      have h3 := hv.2.1
      omega
    · rw [grp_no (fun e => hv (chk_zero.1 e))]; simp
  refine call (groups_fn A n c d w1 (h.ext hE1)) ?_
  rintro v w3 ⟨B, M, cB, rfl, hE3, hs3⟩
  refine call (rgroups_fn A n c d w3 (h.ext (hE1.trans hE3)) hmx) ?_
  rintro v w4 ⟨B4, M4, cB4, rfl, hE4, hs4⟩
  have hMM : M4 = M := by
    have h1 := hs3.len
    have h2 := hs4.len
    omega
  subst hMM
  have hM24 : M4 ≤ 24 := by
    have h1 := hs3.len
    rw [natsV_length] at h1
    omega
  have hE04 := hE1.trans (hE3.trans hE4)
  refine call (render_fn A F n c m cf d fl w4 (h.ext hE04) (hF.ext hE04) htx) ?_
  rintro v w5 ⟨rfl, hE5⟩
  have hE05 := hE04.trans hE5
  refine call (rrender_fn A F n c m cf d fl w5 (h.ext hE05) (hF.ext hE05) htx) ?_
  rintro v w6 ⟨rfl, hE6⟩
  have hE06 := hE05.trans hE6
  refine call (cost_fn s m w6 (by omega) (by omega)) ?_
  rintro v w7 ⟨rfl, hE7⟩
  refine call (rcost_fn s m w7 (by omega)) ?_
  rintro v w8 ⟨rfl, hE8⟩
  refine wif_t (by simp) ?_
  refine call (cost_fn s (-1) w8 (by omega) (by omega)) ?_
  rintro v w9 ⟨rfl, hE9⟩
  refine call (rcost_fn s (-1) w9 (by omega)) ?_
  rintro v w10 ⟨rfl, hE10⟩
  have hE010 := hE06.trans (hE7.trans (hE8.trans (hE9.trans hE10)))
  refine call (check_fn A n c d w10 (h.ext hE010)) ?_
  rintro v w11 ⟨rfl, hE11⟩
  refine call (rcheck_fn A n c d w11 (h.ext (hE010.trans hE11)) hmx) ?_
  rintro v w12 ⟨rfl, hE12⟩
  have hE012 := hE010.trans (hE11.trans hE12)
  have hE412 := hE5.trans (hE6.trans (hE7.trans (hE8.trans (hE9.trans (hE10.trans (hE11.trans hE12))))))
  refine wif_eqt rfl ?_
  refine wif_eqt rfl ?_
  refine call (same_fn _ _ _ _ _ (grp d) w12 ((hs3.ext hE4).ext hE412) (hs4.ext hE412) (by omega)) ?_
  rintro v w13 ⟨rfl, hE13⟩
  refine wif_t (by simp) ?_
  refine wif_t (by simp) ?_
  refine wif_t (by simp) ?_
  refine wif_t (by simp) ?_
  exact ⟨rfl, hE012.trans hE13⟩
end Go.Proofs.Ytgaggbmoimablaa
