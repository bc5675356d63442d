/-
  The law Indentation: the walk.
  Conditions: none.
-/
import Derived.Test.YtgaggbmoimablaaLa
namespace Go.Proofs.Ytgaggbmoimablaa
open Go Go.RowKit

theorem last10_at {l : List Nat} {i y : Nat} (h : l[i]? = some y) : last10 false (l.take (i + 1)) = decide (y = 10) := by
  rw [List.take_add_one, h, last10_app]; rfl
theorem last10_no (l : List Nat) (h : 10 ∉ l) : last10 false l = false := by
  by_cases hn : l = []
  · subst hn; rfl
  · exact last10_z false h hn
theorem insF_step (k : Nat) {l : List Nat} {i x : Nat} (h : l[i]? = some x) : insF k false (l.take (i + 1)) = insF k false (l.take i) ++ (if last10 false (l.take i) = true ∧ x ≠ 10 then List.replicate k 32 else []) ++ [x] := by
  rw [List.take_add_one, h, insF_app]
  simp [insF]
theorem insF_pre (k : Nat) (l : List Nat) (i : Nat) : (insF k false (l.take i)).length ≤ (insF k false l).length := by
  conv => rhs; rw [← List.take_append_drop i l, insF_app]
  simp

theorem indent_law (L F : Option Addr) (n cl m cf : Nat) (bs : List Nat) (fl : List Bool) (b : Nat) (w : World) (hL : Sl w 1 L n cl (u8V bs)) (hb : ∀ b ∈ bs, b ≤ 255) (hF : Sl w 1 F m cf (boolsV fl)) (hb2 : b ≤ 255) :
    Fn Try.prog 9 [.slice L n cl, .slice F m cf, .int .u8 b] w (fun v w' => v = .bool true ∧ Ext w w') := by
  refine fn_of_exec (c := { c9 with cuts := [14] }) gx_ok Try.func9 rfl rfl rfl ?_
  refine call (sanity_fn w) ?_
  rintro v w1 ⟨rfl, hE1⟩
  refine call (made_dr 50 (hL.ext hE1) hb (by decide) (by decide)) ?_
  rintro v w2 ⟨t, ho, A, c, d, rfl, hE2, hd⟩
  have hE02 := hE1.trans hE2
  refine call (has_dr 5 hd (by decide)) ?_
  rintro v _ ⟨hasb, rfl, hiff, rfl⟩
  rw [hd.rep.align] at hiff
  refine wif (fun h1 => ?_) (fun h1 => ?_)
  · exact ⟨rfl, hE02⟩
  have ha : hasAlign t = false := by cases e : hasAlign t; rfl; exact absurd (hiff.2 e) (by rw [h1]; decide)
  refine norm_i64_to ((b : Nat) : Int) rfl (by omega) ?_
  refine rem_c 20 rfl (by decide) ?_
  have hk : b % 20 < 20 := Nat.mod_lt _ (by decide)
  generalize b % 20 = k at hk
  refine call (lrender_dr hd (hF.ext hE02)) ?_
  rintro v w3 ⟨rfl, hE3⟩
  refine call (nest_dr k (hd.ext hE3) (by omega) (by decide)) ?_
  rintro v w4 ⟨A4, c4, d4, rfl, hE4, h4⟩
  refine call (lrender_dr h4 (hF.ext (hE02.trans (hE3.trans hE4)))) ?_
  rintro v w5 ⟨rfl, hE5⟩
  have hlim := txt_lim hd.rep fl
  have hlim4 := txt_lim h4.rep fl
  rw [indent_plain k ho ha fl] at hlim4 ⊢
  generalize txt t fl = a at hlim hlim4 ⊢
  have hE05 := hE02.trans (hE3.trans (hE4.trans hE5))
  refine need ⟨by omega, by omega, ?_⟩ ?_
  · show ((k : Nat) : Int) ≤ ((20 : Nat) : Int); omega
  have hsp : bytesOf (ByteArray.extract ⟨#[32, 32, 32, 32, 32, 32, 32, 32, 32, 32, 32, 32, 32, 32, 32, 32, 32, 32, 32, 32]⟩ 0 k) = List.replicate k 32 := by
    rw [bytesOf_extract, show bytesOf ⟨#[32, 32, 32, 32, 32, 32, 32, 32, 32, 32, 32, 32, 32, 32, 32, 32, 32, 32, 32, 32]⟩ = List.replicate 20 32 from rfl, List.drop_zero, List.take_replicate, Nat.min_eq_left (by omega)]
  show putK _ _ _ (.v (.string (ByteArray.extract _ 0 k))) _
  generalize ByteArray.extract ⟨#[32, 32, 32, 32, 32, 32, 32, 32, 32, 32, 32, 32, 32, 32, 32, 32, 32, 32, 32, 32]⟩ 0 k = sp at hsp ⊢
  have hspl : sp.size = k := by rw [← bytesOf_length, hsp]; simp
  refine at_build0 gx_ok rfl rfl rfl rfl rfl rfl ?_
  intro w6 hE6 hsz6 hB6
  have hown6 : Own w6 w.heap.size 5 1 (some ⟨w5.heap.size, 0, none⟩) 0 0 (bytesV []) := Own.empty hB6 hE05.size
  have hal : (strOf a).size = a.length := strOf_size a
  have hpre := insF_pre k a
  refine loop gx_ok [13, 14, 15] (fun u : Option Addr × Nat × List Nat × Bool × Nat => [.slice u.1 u.2.2.1.length u.2.1, .bool u.2.2.2.1, .int .i64 u.2.2.2.2]) (fun u w' => Ext w w' ∧ Own w' w.heap.size 5 1 u.1 u.2.2.1.length u.2.1 (bytesV u.2.2.1) ∧ u.2.2.1 = insF k false (a.take u.2.2.2.2) ∧ (u.2.2.2.1 = true ↔ 10 ∉ a.take u.2.2.2.2) ∧ u.2.2.2.2 ≤ a.length) (fun u _ => a.length - u.2.2.2.2) (_, 0, [], true, 0) rfl ⟨hE05.trans hE6, hown6, by simp [insF], by simp, Nat.zero_le _⟩ ?_
  rintro ⟨B, cb, out, fst, i⟩ w7 ⟨hE7, hown7, hout, hfst, hi⟩
  dsimp only at hown7 hout hfst hi ⊢
  have hz7 := hE7.size
  refine wif_d (fun g1 => ?_) (fun g1 => ?_)
  · rw [hal] at g1
    have hii : i < (strOf a).size := by omega
    have hxi : a[i]? = some a[i] := List.getElem?_eq_getElem (by omega)
    have hx8 := hlim.2 a[i] (List.getElem_mem _)
    generalize a[i] = x at hxi hx8
    have hstep := insF_step k hxi
    have hl1 := hpre (i + 1)
    rw [hstep] at hl1
    rw [← hout] at hstep hl1
    simp only [List.length_append, List.length_singleton] at hl1
    have hget : ∀ y, (bytesOf (strOf a))[i]? = some y → y = x := fun y hy => by
      rw [bytesOf_strOf hlim.2, hxi] at hy; exact (Option.some.inj hy).symm
    refine cutIn [14] gx_ok [13, 14] (fun u : Option Addr × Nat × List Nat × Bool => [.slice u.1 u.2.2.1.length u.2.1, .bool u.2.2.2]) (fun u w' => Ext w w' ∧ Own w' w.heap.size 5 1 u.1 u.2.2.1.length u.2.1 (bytesV u.2.2.1) ∧ u.2.2.1 = insF k false (a.take (i + 1)) ∧ (u.2.2.2 = true ↔ 10 ∉ a.take (i + 1))) ?_ ?_
    · skip
      refine cutIn [] gx_ok [13] (fun u : Option Addr × Nat × List Nat => [.slice u.1 u.2.2.length u.2.1]) (fun u w' => Ext w w' ∧ Own w' w.heap.size 5 1 u.1 u.2.2.length u.2.1 (bytesV u.2.2) ∧ u.2.2 = out ++ (if last10 false (a.take i) = true ∧ x ≠ 10 then List.replicate k 32 else [])) ?_ ?_
      · have no : ¬ (last10 false (a.take i) = true ∧ x ≠ 10) → Ext w w7 ∧ Own w7 w.heap.size 5 1 B out.length cb (bytesV out) ∧ out = out ++ (if last10 false (a.take i) = true ∧ x ≠ 10 then List.replicate k 32 else []) := fun h => ⟨hE7, hown7, by rw [if_neg h]; simp⟩
        refine wif_not ?_
        refine wif (fun hf => ?_) (fun hf => ?_)
        · exact ⟨(B, cb, out), rfl, no (fun h => by rw [last10_no _ (hfst.1 hf)] at h; exact absurd h.1 (by decide))⟩
        have hm10 : 10 ∈ a.take i := by
          by_cases h : 10 ∈ a.take i
          · exact h
          · exact absurd (hfst.2 h) (by rw [hf]; decide)
        have hi0 : 0 < i := by
          by_cases h : i = 0
          · subst h; simp at hm10
          · omega
        refine sindex' hii (fun y hy _ => ?_)
        have hyx := hget y hy
        subst hyx
        refine wif_ne (fun g2 => ?_) (fun g2 => ?_)
        · obtain ⟨j, rfl⟩ : ∃ j, i = j + 1 := ⟨i - 1, by omega⟩
          refine norm_i64_to ((j : Nat) : Int) (by omega) (by omega) ?_
          have hxj : a[j]? = some a[j] := List.getElem?_eq_getElem (by omega)
          generalize a[j] = z at hxj
          have hl10 := last10_at hxj
          refine sindex' (by omega) (fun z' hz' _ => ?_)
          have hzz : z' = z := by rw [bytesOf_strOf hlim.2, hxj] at hz'; exact (Option.some.inj hz').symm
          subst hzz
          refine wif_eq (fun g3 => ?_) (fun g3 => ?_)
          · have hcond : last10 false (a.take (j + 1)) = true ∧ y ≠ 10 := ⟨by rw [hl10]; exact decide_eq_true (by omega), by omega⟩
            rw [if_pos hcond] at hl1 ⊢
            simp only [List.length_replicate] at hl1
            refine at_app_str gx_ok rfl rfl rfl rfl rfl rfl rfl rfl rfl rfl rfl hown7 (by omega) (by omega) ?_
            intro A' c' w8 hm8 hown8 _
            refine ⟨(A', c', out ++ List.replicate k 32), by simp [hspl]; rfl, hm8.ext hE7 (fun k hk => (hown7.rows k hk).1), ?_, rfl⟩
            have e : bytesV out ++ Lib.strCells sp = bytesV (out ++ List.replicate k 32) := by
              rw [← hsp]; simp [bytesV, Lib.strCells, bytesOf]
            rw [e, hspl] at hown8
            simpa using hown8
          · exact ⟨(B, cb, out), rfl, no (fun h => by rw [hl10] at h; have := of_decide_eq_true h.1; omega)⟩
        · exact ⟨(B, cb, out), rfl, no (fun h => h.2 (by omega))⟩
      rintro ⟨B2, cb2, out2⟩ w8 ⟨hE8, hown8, hout2⟩
      dsimp only at hown8 hout2 ⊢
      have hl2 : out2.length + 1 ≤ 70368744177664 := by
        rw [hout2, List.length_append]; omega
      rw [← hout2] at hstep
      have hz8 := hE8.size
      have hmem : 10 ∉ a.take (i + 1) ↔ 10 ∉ a.take i ∧ x ≠ 10 := by
        rw [List.take_add_one, hxi]
        simp only [List.mem_append, Option.toList_some, List.mem_singleton, not_or]
        constructor
        · exact fun h => ⟨h.1, fun e => h.2 e.symm⟩
        · exact fun h => ⟨h.1, fun e => h.2 e.symm⟩
      refine wif (fun hf => ?_) (fun hf => ?_)
      · refine sindex' hii (fun y hy _ => ?_)
        have hyx := hget y hy
        subst hyx
        refine sindex' hii (fun y2 hy2 _ => ?_)
        have hyx2 := hget y2 hy2
        subst hyx2
        refine at_build1 gx_ok rfl rfl rfl rfl rfl rfl rfl rfl ?_
        intro w9 hE9 hsz9 hB9
        have hs9 : Sl w9 1 (some ⟨w8.heap.size, 0, none⟩) 1 1 (bytesV [y2]) := Sl.own' hB9 rfl (by simp [maxLen])
        refine at_app gx_ok rfl rfl rfl rfl rfl (by decide) rfl rfl ⟨_, rfl⟩ rfl rfl (hown8.ext hE9) hs9 (by simp [bytesV, scalar]) (by unfold maxLen; omega) (by show _ * 1 ≤ _; omega) (by have := hE9.size; omega) ?_
        intro A' c' w10 hm10 hown10 _
        refine ⟨(A', c', out2 ++ [y2], ((y2 : Int) != 10)), by simp; rfl, hm10.ext (hE8.trans hE9) (fun k hk => (hown8.rows k hk).1), ?_, hstep.symm, ?_⟩
        · rw [List.length_append]
          have e : bytesV (out2 ++ [y2]) = bytesV out2 ++ bytesV [y2] := by simp [bytesV]
          rw [e]; exact hown10
        · dsimp only
          rw [hmem]
          constructor
          · intro h; exact ⟨hfst.1 hf, by simp at h; omega⟩
          · intro h; simp; have := h.2; omega
      · refine sindex' hii (fun y2 hy2 _ => ?_)
        have hyx2 := hget y2 hy2
        subst hyx2
        refine at_build1 gx_ok rfl rfl rfl rfl rfl rfl rfl rfl ?_
        intro w9 hE9 hsz9 hB9
        have hs9 : Sl w9 1 (some ⟨w8.heap.size, 0, none⟩) 1 1 (bytesV [y2]) := Sl.own' hB9 rfl (by simp [maxLen])
        refine at_app gx_ok rfl rfl rfl rfl rfl (by decide) rfl rfl ⟨_, rfl⟩ rfl rfl (hown8.ext hE9) hs9 (by simp [bytesV, scalar]) (by unfold maxLen; omega) (by show _ * 1 ≤ _; omega) (by have := hE9.size; omega) ?_
        intro A' c' w10 hm10 hown10 _
        refine ⟨(A', c', out2 ++ [y2], false), by simp; rfl, hm10.ext (hE8.trans hE9) (fun k hk => (hown8.rows k hk).1), ?_, hstep.symm, ?_⟩
        · rw [List.length_append]
          have e : bytesV (out2 ++ [y2]) = bytesV out2 ++ bytesV [y2] := by simp [bytesV]
          rw [e]; exact hown10
        · dsimp only
          rw [hmem]
          constructor
          · intro h; cases h
          · intro h; have := hfst.2 h.1; rw [hf] at this; cases this
    rintro ⟨B3, cb3, out3, fst3⟩ w9 ⟨hE9, hown9, hout3, hfst3⟩
    refine norm_i64_to ((i + 1 : Nat) : Int) (by omega) (by omega) ?_
    exact ⟨(B3, cb3, out3, fst3, i + 1), rfl, ⟨hE9, hown9, hout3, hfst3, (by omega : i + 1 ≤ a.length)⟩, by show a.length - (i + 1) < a.length - i; omega⟩
  · rw [hal] at g1
    have : i = a.length := by omega
    subst this
    rw [List.take_length] at hout
    refine at_str gx_ok rfl rfl rfl rfl rfl rfl rfl rfl hown7.sl ?_
    rw [hout]
    refine wif_t (by simp) ?_
    exact ⟨rfl, hE7⟩
end Go.Proofs.Ytgaggbmoimablaa
