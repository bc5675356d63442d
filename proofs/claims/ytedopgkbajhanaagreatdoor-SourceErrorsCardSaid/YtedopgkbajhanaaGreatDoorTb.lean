/-
  SourcePlain.
  Conditions: none.
-/
import Derived.Test.YtedopgkbajhanaaGreatDoorS6
import Derived.Test.YtedopgkbajhanaaGreatDoorZt
namespace Go.Proofs.YtedopgkbajhanaaGreatDoor
open Go Go.RowKit

/-! ### Lines without directives -/
theorem txt_dir {s : List Nat} (h : s.head? ≠ some 35) : dirOf s = .txt := by
  unfold dirOf
  cases s with
  | nil => rfl
  | cons b t =>
    have hb : b ≠ 35 := fun e => h (by rw [e]; rfl)
    have e1 : pIf.isPrefixOf (b :: t) = false := by simp [pIf, List.isPrefixOf, hb.symm]
    have e2 : pInc.isPrefixOf (b :: t) = false := by simp [pInc, List.isPrefixOf, hb.symm]
    have e3 : pElif.isPrefixOf (b :: t) = false := by simp [pElif, List.isPrefixOf, hb.symm]
    rw [e1, e2, e3, if_neg (by decide), if_neg (by decide), if_neg (by decide), if_neg (by simp [lElse, hb]), if_neg (by simp [lEnd, hb])]
theorem addG_on {s : List Nat} {n p : Nat} {k : BF} {g : Gs} {l : List Sg} {x : Sg} (hf : g.fr = false) (hs : g.sg = l ++ [x]) (hl : g.tx.length + s.length ≤ 1048576) : addG s n p k g = some ⟨g.tx ++ s, l ++ [{ x with t := g.tx.length + s.length }], false⟩ := by
  unfold addG
  rw [if_neg (by rw [hf]; intro hh; rcases hh with hh | ⟨hh, _⟩; omega; cases hh), hf, if_neg (by decide), hs, setTo_snoc]
theorem addG_new {s : List Nat} {n p : Nat} {k : BF} {g : Gs} (hf : g.fr = true) (hs : g.sg.length ≠ 65536) (hl : g.tx.length + s.length ≤ 1048576) : addG s n p k g = some ⟨g.tx ++ s, g.sg ++ [⟨g.tx.length, g.tx.length + s.length, n, p, k⟩], false⟩ := by
  unfold addG
  rw [if_neg (by intro hh; rcases hh with hh | ⟨_, hh⟩; omega; exact hs hh), if_pos hf, setTo_snoc]
theorem rdL_tx1 {nm : List (List Nat)} {fl d0 : Nat} {inc : IncF} {s : List Nat} {ls : List (List Nat)} {ln at_ : Nat} {k : BF} {op : List Se} {g g' : Gs} (hd : dirOf s = .txt) (ha : addG (s ++ [10]) fl at_ k g = some g') :
    rdL nm fl d0 inc (s :: ls) ln at_ k op g = rdL nm fl d0 inc ls (ln + 1) (at_ + s.length + 1) k op g' := by
  rw [rdL.eq_def]; simp only [hd, ha]
/-- Lines of text go on with the open segment. -/
theorem rdL_more {nm : List (List Nat)} {fl d0 : Nat} {inc : IncF} {k : BF} {op : List Se} : ∀ (ls : List (List Nat)) (rest : List (List Nat)) (ln at_ : Nat) (g : Gs) (l : List Sg) (x : Sg), (∀ s ∈ ls, dirOf s = .txt) → g.fr = false → g.sg = l ++ [x] → x.t = g.tx.length → g.tx.length + (unl ls).length ≤ 1048576 →
    rdL nm fl d0 inc (ls ++ rest) ln at_ k op g = rdL nm fl d0 inc rest (ln + ls.length) (at_ + (unl ls).length) k op ⟨g.tx ++ unl ls, l ++ [{ x with t := g.tx.length + (unl ls).length }], false⟩
  | [], rest, ln, at_, g, l, x, _, hf, hs, ht, _ => by
    obtain ⟨tx, sg, fr⟩ := g
    simp only at hf hs ht
    subst hf; subst hs
    obtain ⟨a, b, c, d, e⟩ := x
    simp only at ht
    subst ht
    simp [unl]
  | s :: ls, rest, ln, at_, g, l, x, hd, hf, hs, ht, hl => by
    rw [unl_cons] at hl
    simp only [List.length_append, List.length_cons] at hl
    have ha := addG_on (s := s ++ [10]) (n := fl) (p := at_) (k := k) hf hs (by simp; omega)
    rw [List.cons_append, rdL_tx1 (hd s (by simp)) ha]
    rw [rdL_more ls rest (ln + 1) (at_ + s.length + 1) _ l _ (fun t ht => hd t (by simp [ht])) rfl rfl (by simp) (by simp; omega)]
    have e1 : g.tx ++ (s ++ [10]) ++ unl ls = g.tx ++ unl (s :: ls) := by rw [unl_cons]; simp
    have e2 : (unl (s :: ls)).length = s.length + 1 + (unl ls).length := by rw [unl_cons]; simp; omega
    have e3 : (g.tx ++ (s ++ [10])).length = g.tx.length + (s.length + 1) := by simp
    simp only [e1, e2, e3, List.length_cons]
    rw [show ln + 1 + ls.length = ln + (ls.length + 1) by omega, show at_ + s.length + 1 + (unl ls).length = at_ + (s.length + 1 + (unl ls).length) by omega, show g.tx.length + (s.length + 1) + (unl ls).length = g.tx.length + (s.length + 1 + (unl ls).length) by omega]
theorem rdL_plain {nm : List (List Nat)} {fl d0 : Nat} {inc : IncF} {k : BF} {op : List Se} (s : List Nat) (ls rest : List (List Nat)) (ln at_ : Nat) (g : Gs) (hd : ∀ t ∈ s :: ls, dirOf t = .txt) (hf : g.fr = true) (hsg : g.sg.length ≠ 65536) (hl : g.tx.length + (unl (s :: ls)).length ≤ 1048576) :
    rdL nm fl d0 inc (s :: ls ++ rest) ln at_ k op g = rdL nm fl d0 inc rest (ln + (s :: ls).length) (at_ + (unl (s :: ls)).length) k op ⟨g.tx ++ unl (s :: ls), g.sg ++ [⟨g.tx.length, g.tx.length + (unl (s :: ls)).length, fl, at_, k⟩], false⟩ := by
  rw [unl_cons] at hl
  simp only [List.length_append, List.length_cons] at hl
  have ha := addG_new (s := s ++ [10]) (n := fl) (p := at_) (k := k) hf hsg (by simp; omega)
  rw [List.cons_append, rdL_tx1 (hd s (by simp)) ha]
  rw [rdL_more ls rest (ln + 1) (at_ + s.length + 1) _ g.sg _ (fun t ht => hd t (by simp [ht])) rfl rfl (by simp) (by simp; omega)]
  have e1 : g.tx ++ (s ++ [10]) ++ unl ls = g.tx ++ unl (s :: ls) := by rw [unl_cons]; simp
  have e2 : (unl (s :: ls)).length = s.length + 1 + (unl ls).length := by rw [unl_cons]; simp; omega
  have e3 : (g.tx ++ (s ++ [10])).length = g.tx.length + (s.length + 1) := by simp
  simp only [e1, e2, e3, List.length_cons]
  rw [show ln + 1 + ls.length = ln + (ls.length + 1) by omega, show at_ + s.length + 1 + (unl ls).length = at_ + (s.length + 1 + (unl ls).length) by omega, show g.tx.length + (s.length + 1) + (unl ls).length = g.tx.length + (s.length + 1 + (unl ls).length) by omega]
def otherF : List Nat × List Nat := ([111, 116, 104, 101, 114], [35, 101, 110, 100, 10])
def abN : List Nat := [97, 32, 98]
def plG (ls : List (List Nat)) : Gs := ⟨unl ls, if ls = [] then [] else [⟨0, (unl ls).length, 1, 0, fun _ => true⟩], true⟩
theorem textB_unl (ls : List (List Nat)) : textB (unl ls) = true := by
  unfold textB
  rcases unl_ok ls with h | h
  · rw [h]; rfl
  · rw [h]; simp
theorem plain_read {ls : List (List Nat)} (hd : ∀ t ∈ ls, dirOf t = .txt) (hL : Lines ls) (hl : (unl ls).length ≤ 1048576) : readE [] [otherF, (abN, unl ls)] abN = .ok (plG ls) := by
  unfold readE
  rw [if_neg (by decide)]
  have hf : filesE [otherF, (abN, unl ls)] = none := by
    unfold filesE
    rw [if_neg (by simp)]
    unfold chkFs
    rw [if_neg (by decide), if_neg (by decide)]
    unfold chkFs
    have ht := textB_unl ls
    rw [if_neg (fun hh => hh ⟨(show fnameOk abN = true by decide), (show abN ∉ [] ++ [otherF.1] by decide), ht⟩), if_neg (by simp only; omega)]
    rfl
  rw [hf]
  have hix : ixN ([otherF, (abN, unl ls)].map (·.1)) abN = some 1 := by
    show ixN [otherF.1, abN] abN = some 1
    decide
  simp only [hix]
  rw [rdF]
  simp only [List.getElem?_cons_succ, List.getElem?_cons_zero, Option.map_some, Option.getD_some]
  rw [linesOf_unl hL]
  cases ls with
  | nil => rw [rdL.eq_def]; rfl
  | cons s ls =>
    have e : ∀ inc, rdL [] 1 0 inc (s :: ls) 0 0 (fun _ => true) [] ⟨[], [], true⟩ = .ok (plG (s :: ls)) := fun inc => by
      have e := rdL_plain (nm := []) (fl := 1) (d0 := 0) (inc := inc) (k := fun _ => true) (op := []) s ls [] 0 0 ⟨[], [], true⟩ hd rfl (by simp) (by simpa using hl)
      rw [List.append_nil] at e
      rw [e, rdL.eq_def]
      unfold plG
      rw [if_neg (by simp)]
      simp
    exact e _
theorem plain_b8 {ls : List (List Nat)} (h : ∀ s ∈ ls, ∀ x ∈ s, x < 256) : ∀ x ∈ unl ls, x < 256 := fun x hx => by
  unfold unl at hx
  obtain ⟨s, hs, hxs⟩ := List.mem_flatMap.1 hx
  rcases List.mem_append.1 hxs with hxs | hxs
  · exact h s hs x hxs
  · simp only [List.mem_singleton] at hxs; subst hxs; decide
theorem unl_snoc (ls : List (List Nat)) (s : List Nat) : unl (ls ++ [s]) = unl ls ++ (s ++ [10]) := by simp [unl]

/-! ### The law -/
set_option maxHeartbeats 1600000 in
theorem plain_law (A : Option Addr) (n c : Nat) (lines : List (List Nat)) (x : Nat) (w : World) (h : Sl w 1 A n c (strsV lines)) (hb : NamesOk lines) (hx : x ≤ 18446744073709551615) :
    Fn Tryz.prog 11 [.slice A n c, .int .u64 x] w (fun v w' => v = .bool true ∧ Ext w w') := by
  have hn : lines.length = n := by have := h.len; rw [strsV_length] at this; omega
  refine fn_of_exec (c := { c11 with cuts := [3, 7] }) gx_ok Tryz.func11 rfl rfl rfl ?_
  refine call (sanity7_fn w) ?_
  rintro _ w1 ⟨rfl, hE1⟩
  refine cutIn [7] gx_ok [6] (fun ls : List (List Nat) => [.string (strOf (unl ls))]) (fun ls w' => Ext w w' ∧ (unl ls).length ≤ 328 ∧ (∀ t ∈ ls, dirOf t = .txt ∧ 10 ∉ t) ∧ ∀ t ∈ ls, t ∈ lines) ?_ ?_
  · refine loop gx_ok [7, 6] (fun s : Nat => [.int .i64 s, .string (strOf (unl (lines.take s)))]) (fun s w' => Ext w1 w' ∧ s ≤ n ∧ s ≤ 8 ∧ (unl (lines.take s)).length ≤ 41 * s ∧ ∀ t ∈ lines.take s, dirOf t = .txt ∧ 10 ∉ t) (fun s _ => n - s) 0 rfl ⟨Ext.refl _, Nat.zero_le _, by decide, by simp [unl], fun t ht => by simp at ht⟩ ?_
    rintro s w2 ⟨hE2, hsn, hs8, hlen, hall⟩
    have hE02 := hE1.trans hE2
    refine wif_d (fun c1 => ?_) (fun c1 => ?_)
    · refine wif_d (fun c2 => ?_) (fun c2 => ?_)
      · have hs : s < n := by omega
        have hg : lines[s]? = some lines[s] := List.getElem?_eq_getElem (by omega)
        have hlb := hb _ (List.mem_of_getElem? hg)
        generalize lines[s] = l at *
        refine index_sl (h.ext hE02) hs (fun ad u hA hu hcell => ?_)
        rw [strsV_get hg] at hu
        cases hu
        refine load hcell ?_
        have hls := strOf_size l
        refine cut0In [] gx_ok (fun w3 => w2 = w3 ∧ l.head? ≠ some 35 ∧ l.length ≤ 40) ?_ ?_
        · refine wif_d (fun c3 => ?_) (fun c3 => ?_)
          · exact ⟨rfl, hE02⟩
          cases l with
          | nil =>
            refine wif_f rfl ?_
            exact ⟨rfl, rfl, (by simp), by omega⟩
          | cons b t =>
            refine wif_t ?_ ?_
            · have : strOf (b :: t) ≠ (⟨#[]⟩ : ByteArray) := fun e => by
                have := congrArg ByteArray.size e
                rw [hls] at this
                cases this
              simpa using this
            refine sindex' (j := 0) (by rw [hls]; simp) (fun z hz _ => ?_)
            rw [bytesOf_strOf hlb.1] at hz
            simp only [List.getElem?_cons_zero, Option.some.injEq] at hz
            subst hz
            refine wif_eq (fun c4 => ?_) (fun c4 => ?_)
            · exact ⟨rfl, hE02⟩
            · exact ⟨rfl, rfl, by simp only [List.head?_cons, ne_eq, Option.some.injEq]; omega, by omega⟩
        rintro _ ⟨rfl, hh, h40⟩
        refine loop gx_ok [9] (fun k : Nat => [.int .i64 k]) (fun k w' => Ext w2 w' ∧ k ≤ l.length ∧ 10 ∉ l.take k) (fun k _ => l.length - k) 0 rfl ⟨Ext.refl _, Nat.zero_le _, by simp⟩ ?_
        rintro k w3 ⟨hE3, hk, hk10⟩
        have hE03 := hE02.trans hE3
        refine wif_d (fun d1 => ?_) (fun d1 => ?_)
        · have hkl : k < l.length := by rw [hls] at d1; omega
          refine sindex' (by rw [hls]; exact hkl) (fun z hz _ => ?_)
          rw [bytesOf_strOf hlb.1] at hz
          refine wif_eq (fun c4 => ?_) (fun c4 => ?_)
          · exact ⟨rfl, hE03⟩
          · refine norm_i64_to ((k + 1 : Nat) : Int) (by omega) (by omega) ?_
            refine ⟨k + 1, rfl, ⟨hE3, hkl, ?_⟩, by show l.length - (k + 1) < l.length - k; omega⟩
            rw [List.take_add_one, hz]
            simp only [Option.toList_some, List.mem_append, List.mem_singleton, not_or]
            exact ⟨hk10, by omega⟩
        · have hkl : k = l.length := by rw [hls] at d1; omega
          rw [hkl, List.take_length] at hk10
          have htk : lines.take (s + 1) = lines.take s ++ [l] := by rw [List.take_add_one, hg]; rfl
          have hts := strOf_size (unl (lines.take s))
          refine need_to (v' := .string (strOf (unl (lines.take s) ++ l))) (by rw [hls, hts]; unfold maxLen; omega) (by rw [strOf_append]) ?_
          have hts2 := strOf_size (unl (lines.take s) ++ l)
          rw [List.length_append] at hts2
          refine need_to (v' := .string (strOf (unl (lines.take (s + 1))))) (by rw [hts2]; show _ + 1 ≤ _; unfold maxLen; omega) (by rw [htk, unl_snoc, ← List.append_assoc, ← strOf_append (unl (lines.take s) ++ l) [10]]; rfl) ?_
          refine norm_i64_to ((s + 1 : Nat) : Int) (by show ((s : Nat) : Int) + 1 = _; omega) (by omega) ?_
          refine ⟨s + 1, rfl, ⟨hE2.trans hE3, (show s + 1 ≤ n by omega), (show s + 1 ≤ 8 by omega), ?_, fun t ht => ?_⟩, by show n - (s + 1) < n - s; omega⟩
          · rw [htk, unl_snoc]; simp only [List.length_append, List.length_cons, List.length_nil]; omega
          · rw [htk] at ht
            rcases List.mem_append.1 ht with ht | ht
            · exact hall t ht
            · simp only [List.mem_singleton] at ht; subst ht; exact ⟨txt_dir hh, hk10⟩
      · exact ⟨lines.take s, rfl, hE02, by omega, hall, fun t ht => List.mem_of_mem_take ht⟩
    · exact ⟨lines.take s, rfl, hE02, by omega, hall, fun t ht => List.mem_of_mem_take ht⟩
  rintro ls w2 ⟨hE2, hlen, hall, hmem⟩
  have h8 : ∀ x ∈ unl ls, x < 256 := plain_b8 (fun s hs => (hb s (hmem s hs)).1)
  have hr := plain_read (fun t ht => (hall t ht).1) (fun t ht => (hall t ht).2) (by omega)
  refine at_buildN gx_ok [fileC otherF, fileC (abN, unl ls)] rfl rfl rfl rfl rfl ⟨rfl, rfl, rfl, rfl, ⟨⟩⟩ rfl (fun cs h => by simp only [List.mem_cons, List.not_mem_nil, or_false] at h; rcases h with rfl | rfl <;> rfl) rfl (by decide) (by decide) ?_
  intro w3 hE3 hz3 hB3
  have hF3 : SlS fileC 2 w3 (some ⟨w2.heap.size, 0, none⟩) 2 2 [otherF, (abN, unl ls)] := ⟨Sl.own (sz := 2) (n := 2) hB3 (Nat.le_refl _) (by decide) (by simp [fileC]), rfl⟩
  refine call (sread_fn [] none 0 0 [otherF, (abN, unl ls)] _ 2 2 abN w3 (Sl.nil w3 1) (fun s hs => by cases hs) (by decide) hF3 (fun x hx => by
    simp only [List.mem_cons, List.not_mem_nil, or_false] at hx
    rcases hx with rfl | rfl
    · exact ⟨by decide, by decide, by decide, by decide⟩
    · exact ⟨(show ∀ b ∈ abN, b < 256 by decide), h8, (show abN.length ≤ _ by decide), by simp only; omega⟩) (by decide) (by decide)) ?_
  rw [hr]
  rintro _ w4 ⟨hE4, hg, RA, rc, RL, rfl, hS4⟩
  have hI4 := srcIn_read (by decide) hr hg hS4
  have hE04 := (hE2.trans hE3).trans hE4
  refine new (fun w5 hE5 hz5 hB5 => ?_)
  refine new (fun w6 hE6 hz6 hB6 => ?_)
  refine storeN_blk0 (hB5.ext hE6) rfl (sc rfl) (fun w7 hg7 _ hB7 => ?_)
  have hM7 : Mod (· = w4.heap.size) w6 w7 := Mod.of_grown hg7 rfl
  refine storeN_blk0 (hB6.mod hM7 (by omega)) rfl (sc rfl) (fun w8 hg8 _ hB8 => ?_)
  have hM8 : Mod (· = w5.heap.size) w7 w8 := Mod.of_grown hg8 rfl
  have hB7' := hB7.mod hM8 (by omega)
  have hE48 : Ext w4 w8 := hM8.ext (hM7.ext (hE5.trans hE6) (fun i hi => by omega)) (fun i hi => by omega)
  have hI8 := hI4.ext hE48
  have hE08 := hE04.trans hE48
  refine loadN_blk0 hB8 rfl ?_
  refine wif_f rfl ?_
  refine load_blk0 hB7' rfl ?_
  refine wif_f (by simp [plG]) ?_
  refine loadN_blk0 hB7' rfl ?_
  refine call (rsel_fn hI8 x hx) ?_
  rintro _ w9 ⟨rfl, hE9⟩
  have hsel : selG (plG ls).tx (plG ls).sg (bitE x) = unl ls := by
    unfold plG selG onG
    by_cases h0 : ls = []
    · subst h0; rfl
    · simp [h0, pieceG]
  refine wif_f (by rw [hsel]; simp) ?_
  have hE09 := hE08.trans hE9
  by_cases h0 : ls = []
  · subst h0
    refine wif_t rfl ?_
    refine load_blk (hB7'.ext hE9) rfl ?_
    refine wif_t rfl ?_
    exact ⟨rfl, hE09⟩
  · obtain ⟨s, ls', rfl⟩ := List.exists_cons_of_ne_nil h0
    have hpl : plG (s :: ls') = ⟨unl (s :: ls'), [⟨0, (unl (s :: ls')).length, 1, 0, fun _ => true⟩], true⟩ := by unfold plG; rw [if_neg h0]
    have hB9 := hB7'.ext hE9
    have hI9 := hI8.ext hE9
    obtain ⟨M, hX, hA, hck⟩ := hI9.ex
    rw [hpl] at hB9 hX hA
    have hne : strOf (unl (s :: ls')) ≠ (⟨#[]⟩ : ByteArray) := fun e => by
      have := congrArg ByteArray.size e
      rw [strOf_size, unl_cons] at this
      simp at this
      have h0 : (⟨#[]⟩ : ByteArray).size = 0 := rfl
      omega
    refine wif_f (by simpa using hne) ?_
    refine draw_plan gx_ok (Ext w9) 43 [(true, 0), (true, 1), (true, 2), (true, 3), (true, 4), (true, 5), (true, 6), (true, 7), (true, 8), (true, 9), (true, 10), (true, 11), (true, 12), (true, 13), (true, 14), (true, 15), (true, 16), (true, 17), (true, 18), (true, 19), (true, 20), (true, 21), (true, 22), (true, 23), (true, 24), (true, 25), (true, 26), (true, 27), (true, 28), (true, 29), (true, 30), (true, 31), (true, 32), (true, 33), (true, 34), (true, 35), (false, 36), (false, 37), (true, 38), (true, 39), (true, 40), (true, 41), (true, 42)] (by kernel_rfl) (Ext.drew w9) ?_
    refine qload (v := .slice RA 1 rc) (fun w' hw' => by rw [(hB9.ext hw').cell]; rfl) ?_
    refine wif_t rfl ?_
    refine qload (v := .slice RA 1 rc) (fun w' hw' => by rw [(hB9.ext hw').cell]; rfl) ?_
    refine index_sls (j := 0) sx_len hX.sl rfl (by simp) (fun p y hy hcl => ?_)
    obtain ⟨y1, y2, y3, y4, y5⟩ := hA.get (i := 0) rfl hy
    simp only at y1 y2 y3 y4 y5
    refine qload (v := .int .i64 y.fl) (fun w' hw' => hw'.cell (hcl 2 _ rfl)) ?_
    refine wif_t (by rw [y3]; rfl) ?_
    refine qload (v := .slice RA 1 rc) (fun w' hw' => by rw [(hB9.ext hw').cell]; rfl) ?_
    refine index_sls (j := 0) sx_len hX.sl rfl (by simp) (fun p' y' hy' hcl' => ?_)
    rw [hy] at hy'
    cases hy'
    refine qload (v := .int .i64 y.at_) (fun w' hw' => hw'.cell (hcl' 3 _ rfl)) ?_
    refine wif_t (by rw [y4]; rfl) ?_
    refine qload (v := .slice RA 1 rc) (fun w' hw' => by rw [(hB9.ext hw').cell]; rfl) ?_
    refine index_sls (j := 0) sx_len hX.sl rfl (by simp) (fun p2 y2' hy2 hcl2 => ?_)
    rw [hy] at hy2
    cases hy2
    refine qload (v := .int .i64 y.t) (fun w' hw' => hw'.cell (hcl2 1 _ rfl)) ?_
    refine wif_t (by rw [y2, strOf_size]; simp) ?_
    refine qload (v := .slice RA 1 rc) (fun w' hw' => by rw [(hB9.ext hw').cell]; rfl) ?_
    refine index_sls (j := 0) sx_len hX.sl rfl (by simp) (fun p3 y3' hy3 hcl3 => ?_)
    rw [hy] at hy3
    cases hy3
    refine qloadN (vs := [.slice y.x.A y.x.n y.x.c, .int .i64 y.x.r]) rfl (fun w' hw' j v hj => by
      rw [Addr.add_add]
      exact hw'.cell ((hcl3 (4 + j) v (by match j, hj with | 0, hj => exact hj | 1, hj => exact hj)))) ?_
    have hd9 := Ext.drew w9
    refine call (rconst_fn true _) ?_
    rintro _ w10 ⟨rfl, hE10⟩
    have hE910 := hd9.trans hE10
    refine ⟨hE910, ?_⟩
    have hym := List.mem_of_getElem? hy
    refine call (rsame_fn y.x.A none y.x.n y.x.c 0 0 y.x.nd [] y.x.r 1 w10 ((hX.dg y hym).ext hE910) (SlS.nil _)) ?_
    rintro _ w11 ⟨rfl, hE11⟩
    have hE911 := hE910.trans hE11
    refine ⟨hE911, ?_⟩
    have huq : (y.x.nd, y.x.r) = (([] : List Br), (1 : Int)) := y5.unique (const_set 0 true) (fun _ => rfl)
    refine wif_t (decide_eq_true huq) ?_
    exact ⟨rfl, hE09.trans hE911⟩
end Go.Proofs.YtedopgkbajhanaaGreatDoor
