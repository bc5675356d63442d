/-
  source: checkFiles; what Read defers.
  source.Read: what it defers.
  source.Read.
  Conditions: none.
-/
import Derived.Test.YtedopgkbajhanaaGreatDoorS3
namespace Go.Proofs.YtedopgkbajhanaaGreatDoor
section
open Go Go.RowKit

/-! ### The files' first error -/
structure FileB (x : List Nat × List Nat) : Prop where
  n8 : ∀ b ∈ x.1, b < 256
  t8 : ∀ b ∈ x.2, b < 256
  nl : x.1.length ≤ 9223372036854775807
  tl : x.2.length ≤ 9223372036854775807
def plC (q : Pl) : List Value := [.int .i64 q.e, .int .i64 q.f, .int .i64 q.l]
def plO (o : Option Pl) : Pl := o.getD ⟨0, 0, 0⟩
def badB (b : Nat) : Bool := decide (b < 32) || b == 34 || b == 127
theorem fnameOk_eq (s : List Nat) : fnameOk s = (decide (s ≠ []) && !(s.any badB)) := by
  unfold fnameOk
  congr 1
  rw [List.any_eq_not_all_not, Bool.not_not]
  congr 1
  funext b
  unfold badB
  have e : decide (32 ≤ b) = !decide (b < 32) := by by_cases h : b < 32 <;> simp [h] <;> omega
  rw [e]
  by_cases h1 : b = 34 <;> by_cases h2 : b = 127 <;> by_cases h3 : b < 32 <;> simp [h1, h2, h3, bne]
def bad0 (x : List Nat × List Nat) (seen : List (List Nat)) : Bool := decide (x.1 = []) || decide (x.1 ∈ seen) || (decide (x.2 ≠ []) && x.2.getLast? != some 10)
theorem bad_all (x : List Nat × List Nat) (seen : List (List Nat)) : (bad0 x seen || x.1.any badB) = true ↔ ¬ (fnameOk x.1 = true ∧ x.1 ∉ seen ∧ textB x.2 = true) := by
  rw [fnameOk_eq]
  unfold bad0 textB
  by_cases h1 : x.1 = [] <;> by_cases h2 : x.1 ∈ seen <;> by_cases h3 : x.2 = [] <;> by_cases h4 : x.2.getLast? = some 10 <;> simp [h1, h2, h3, h4]
structure CkI (w0 : World) (q : Nat) (fs : List (List Nat × List Nat)) (res : Option Pl) (i : Nat) (w : World) : Prop where
  e : Ext w0 w
  mp : ∃ m, MapAt strK w q m ∧ ∀ s : List Nat, (∀ x ∈ s, x < 256) → assoc (strOf s) m = if s ∈ (fs.take i).map (·.1) then some (.bool true) else none
  rs : chkFs (fs.drop i) ((fs.take i).map (·.1)) i = res
  le : i ≤ fs.length
  qo : w0.heap.size ≤ q
theorem CkI.ext {w0 w w' : World} {q : Nat} {fs : List (List Nat × List Nat)} {res : Option Pl} {i : Nat} (h : CkI w0 q fs res i w) (k : Ext w w') : CkI w0 q fs res i w' := ⟨h.e.trans k, let ⟨m, h1, h2⟩ := h.mp; ⟨m, h1.ext k, h2⟩, h.rs, h.le, h.qo⟩

set_option maxHeartbeats 800000 in
theorem checkfiles_fn (fs : List (List Nat × List Nat)) (FA : Option Addr) (nf cf : Nat) (w : World) (h : SlS fileC 2 w FA nf cf fs) (hb : ∀ x ∈ fs, FileB x) (hnf : nf ≤ 1000000000000) :
    Fn Tryz.prog 44 [.slice FA nf cf] w (fun u w' => u = .agg (plC (plO (filesE fs))).toArray ∧ Ext w w') := by
  have hlen := h.2
  refine fn_of_exec (c := { c44 with cuts := [] }) gx_ok Tryz.func44 rfl rfl rfl ?_
  refine new (fun w1 hE1 hz1 hB1 => ?_)
  refine wif_d (fun c1 => ?_) (fun c1 => ?_)
  · refine storeN_blk0 hB1 rfl (sc rfl) (fun w2 hg2 _ hB2 => ?_)
    refine loadN_blk0 hB2 rfl ?_
    refine ⟨?_, newBox hE1 hB1 hg2⟩
    unfold filesE
    rw [if_pos (by omega)]; rfl
  have hfe : filesE fs = chkFs fs [] 0 := by unfold filesE; rw [if_neg (by omega)]
  refine at_makeMap gx_ok strK rfl (fun w2 hE2 hz2 hm2 => ?_)
  have hE02 := hE1.trans hE2
  refine loop gx_ok [15] (fun i : Nat => [.int .i64 i]) (fun i w' => CkI w1 w1.heap.size fs (filesE fs) i w') (fun i _ => fs.length - i) 0 rfl ⟨hE2, ⟨[], hm2, fun s _ => by simp [assoc]⟩, by rw [hfe]; rfl, Nat.zero_le _, Nat.le_refl _⟩ ?_
  rintro i w3 hI
  have hE03 : Ext w w3 := hE1.trans hI.e
  refine wif_d (fun c2 => ?_) (fun c2 => ?_)
  · have hi : i < nf := by omega
    refine index_sls file_len (h.ext hE03) rfl hi (fun pp x hx hc => ?_)
    refine loadN_at (vs := fileC x) rfl hc ?_
    refine new (fun w4 hE4 hz4 hB4 => ?_)
    refine storeN_blk0 hB4 rfl (sc rfl) (fun w5 hg5 _ hB5 => ?_)
    have hE35 : Ext w3 w5 := newBox hE4 hB4 hg5
    have hI5 := hI.ext hE35
    obtain ⟨m, hm5, hlk⟩ := hI5.mp
    have hxb := hb x (List.mem_of_getElem? hx)
    have hns := strOf_size x.1
    have hts := strOf_size x.2
    have hnl := hxb.nl
    refine load_blk hB5 rfl ?_
    by_cases p1 : x.1 = []
    · refine wif_dt (by rw [p1]; rfl) ?_
      refine load_blk hB5 rfl ?_
      have e0 : bad0 x ((fs.take i).map (·.1)) = true := by simp [bad0, p1]
      refine loop gx_ok [47, 6] (fun s : Nat × Bool => [.int .i64 s.1, .bool s.2]) (fun s w' => Ext w5 w' ∧ s.1 ≤ x.1.length ∧ s.2 = (bad0 x ((fs.take i).map (·.1)) || (x.1.take s.1).any badB)) (fun s _ => x.1.length - s.1) (0, true) rfl ⟨Ext.refl _, Nat.zero_le _, by rw [e0]; simp⟩ ?_
      rintro ⟨k, b⟩ w6 ⟨hE56, hk, hbv⟩
      simp only at hk hbv
      have hI6 := hI5.ext hE56
      have hB6 := hB5.ext hE56
      refine wif_d (fun c3 => ?_) (fun c3 => ?_)
      · have hkl : k < x.1.length := by rw [hns] at c3; simp only at c3; omega
        obtain ⟨y, hy⟩ : ∃ y, x.1[k]? = some y := ⟨_, List.getElem?_eq_getElem hkl⟩
        have hstep : (x.1.take (k + 1)).any badB = ((x.1.take k).any badB || badB y) := by
          rw [List.take_add_one, hy]; simp
        have fin : ∀ b', b' = (b || badB y) → b' = (bad0 x ((fs.take i).map (·.1)) || (x.1.take (k + 1)).any badB) := fun b' e => by rw [e, hbv, hstep, Bool.or_assoc]
        cases b with
        | true =>
          refine wif_t rfl ?_
          refine norm_i64_to ((k + 1 : Nat) : Int) (by show ((k : Nat) : Int) + 1 = _; omega) (by omega) ?_
          exact ⟨(k + 1, true), rfl, ⟨hE56, hkl, fin true rfl⟩, by show x.1.length - (k + 1) < x.1.length - k; omega⟩
        | false =>
          have idx : ∀ K : Int → Prop, K (y : Int) → SIndex (strOf x.1) ((k : Nat) : Int) K := fun K hK => by
            refine sindex' (by rw [hns]; exact hkl) (fun z hz _ => ?_)
            rw [bytesOf_strOf hxb.n8, hy] at hz
            cases hz; exact hK
          refine wif_f rfl ?_
          refine load_blk hB6 rfl ?_
          refine idx _ ?_
          refine wif_d (fun d1 => ?_) (fun d1 => ?_)
          · refine norm_i64_to ((k + 1 : Nat) : Int) (by show ((k : Nat) : Int) + 1 = _; omega) (by omega) ?_
            exact ⟨(k + 1, true), rfl, ⟨hE56, hkl, fin true (by have : y < 32 := by omega
                                                                simp [badB, this])⟩, by show x.1.length - (k + 1) < x.1.length - k; omega⟩
          refine load_blk hB6 rfl ?_
          refine idx _ ?_
          refine wif_eq (fun d2 => ?_) (fun d2 => ?_)
          · refine norm_i64_to ((k + 1 : Nat) : Int) (by show ((k : Nat) : Int) + 1 = _; omega) (by omega) ?_
            exact ⟨(k + 1, true), rfl, ⟨hE56, hkl, fin true (by have : y = 34 := by omega
                                                                simp [badB, this])⟩, by show x.1.length - (k + 1) < x.1.length - k; omega⟩
          refine load_blk hB6 rfl ?_
          refine idx _ ?_
          refine norm_i64_to ((k + 1 : Nat) : Int) (by show ((k : Nat) : Int) + 1 = _; omega) (by omega) ?_
          refine ⟨(k + 1, ((y : Int) == 127)), rfl, ⟨hE56, hkl, fin _ ?_⟩, by show x.1.length - (k + 1) < x.1.length - k; omega⟩
          have n1 : ¬ y < 32 := by omega
          have n2 : ¬ y = 34 := by omega
          by_cases n3 : y = 127
          · subst n3; rfl
          · have : ((y : Int) == 127) = false := by simp; omega
            rw [this]; simp [badB, n1, n2, n3]
      · have hkl : k = x.1.length := by rw [hns] at c3; simp only at c3; omega
        subst hkl
        rw [List.take_length] at hbv
        have hall := bad_all x ((fs.take i).map (·.1))
        have hdrop : fs.drop i = x :: fs.drop (i + 1) := by
          rw [List.drop_eq_getElem_cons (by omega)]
          congr 1
          exact Option.some.inj ((List.getElem?_eq_getElem (by omega)).symm.trans hx)
        have hrs := hI6.rs
        rw [hdrop, chkFs] at hrs
        have hB16 := ((hB1.ext hI.e).ext hE35).ext hE56
        refine wif (fun d1 => ?_) (fun d1 => ?_)
        · have d1 : b = true := d1
          rw [if_pos (hall.1 (by rw [← hbv, d1]))] at hrs
          refine storeN_blk0 hB16 rfl (sc rfl) (fun w7 hg7 _ hB7 => ?_)
          refine loadN_blk0 hB7 rfl ?_
          have hM7 : Mod (· = w.heap.size) w6 w7 := Mod.of_grown hg7 rfl
          exact ⟨by rw [← hrs]; rfl, hM7.ext (hE1.trans hI6.e) (fun i hi => by omega)⟩
        have d1 : b = false := d1
        have hok := fun hh => (hall.2 hh).symm.trans (hbv.symm.trans d1)
        rw [if_neg (fun hh => by have := hok hh; cases this)] at hrs
        refine load_blk hB6 rfl ?_
        refine wif_d (fun d2 => ?_) (fun d2 => ?_)
        · rw [if_pos (by omega)] at hrs
          refine storeN_blk0 hB16 rfl (sc rfl) (fun w7 hg7 _ hB7 => ?_)
          refine loadN_blk0 hB7 rfl ?_
          have hM7 : Mod (· = w.heap.size) w6 w7 := Mod.of_grown hg7 rfl
          exact ⟨by rw [← hrs]; rfl, hM7.ext (hE1.trans hI6.e) (fun i hi => by omega)⟩
        rw [if_neg (by omega)] at hrs
        refine load_blk hB6 rfl ?_
        have hm6 := hm5.ext hE56
        refine at_mapUpdate (kv := strK) (a := strOf x.1) gx_ok rfl rfl rfl rfl rfl KeyV.str rfl rfl rfl hm6 (fun w7 hg7 hz7 hm7 => ?_)
        have hM7 : Mod (· = w1.heap.size) w6 w7 := Mod.of_grown hg7 rfl
        refine norm_i64_to ((i + 1 : Nat) : Int) (by show ((i : Nat) : Int) + 1 = _; omega) (by omega) ?_
        have htk : (fs.take (i + 1)).map (·.1) = (fs.take i).map (·.1) ++ [x.1] := by rw [List.take_add_one, hx]; simp
        refine ⟨i + 1, rfl, ⟨hM7.ext hI6.e (fun i hi => by omega), ⟨_, hm7, fun s hs => ?_⟩, by rw [htk]; exact hrs, by omega, Nat.le_refl _⟩, by show fs.length - (i + 1) < fs.length - i; omega⟩
        rw [assoc_set, htk]
        by_cases hsx : s = x.1
        · subst hsx; simp
        · rw [if_neg (fun e => hsx (strOf_inj hs hxb.n8 e)), hlk s hs]
          simp [hsx]
    refine wif_df (fun e => p1 (strOf_inj hxb.n8 (by simp) e)) ?_
    refine load_blk hB5 rfl ?_
    refine at_lookup' (kv := strK) (a := strOf x.1) (v := .bool (decide (x.1 ∈ (fs.take i).map (·.1)))) gx_ok rfl rfl rfl rfl rfl KeyV.str rfl rfl hm5 (by
      rw [hlk x.1 hxb.n8]
      by_cases hm : x.1 ∈ (fs.take i).map (·.1)
      · rw [if_pos hm, decide_eq_true hm]; rfl
      · rw [if_neg hm, decide_eq_false hm]; rfl) ?_
    by_cases p2 : x.1 ∈ (fs.take i).map (·.1)
    · refine wif_dt p2 ?_
      refine load_blk hB5 rfl ?_
      have e0 : bad0 x ((fs.take i).map (·.1)) = true := by unfold bad0; rw [decide_eq_true p2]; simp
      refine loop gx_ok [47, 6] (fun s : Nat × Bool => [.int .i64 s.1, .bool s.2]) (fun s w' => Ext w5 w' ∧ s.1 ≤ x.1.length ∧ s.2 = (bad0 x ((fs.take i).map (·.1)) || (x.1.take s.1).any badB)) (fun s _ => x.1.length - s.1) (0, true) rfl ⟨Ext.refl _, Nat.zero_le _, by rw [e0]; simp⟩ ?_
      rintro ⟨k, b⟩ w6 ⟨hE56, hk, hbv⟩
      simp only at hk hbv
      have hI6 := hI5.ext hE56
      have hB6 := hB5.ext hE56
      refine wif_d (fun c3 => ?_) (fun c3 => ?_)
      · have hkl : k < x.1.length := by rw [hns] at c3; simp only at c3; omega
        obtain ⟨y, hy⟩ : ∃ y, x.1[k]? = some y := ⟨_, List.getElem?_eq_getElem hkl⟩
        have hstep : (x.1.take (k + 1)).any badB = ((x.1.take k).any badB || badB y) := by
          rw [List.take_add_one, hy]; simp
        have fin : ∀ b', b' = (b || badB y) → b' = (bad0 x ((fs.take i).map (·.1)) || (x.1.take (k + 1)).any badB) := fun b' e => by rw [e, hbv, hstep, Bool.or_assoc]
        cases b with
        | true =>
          refine wif_t rfl ?_
          refine norm_i64_to ((k + 1 : Nat) : Int) (by show ((k : Nat) : Int) + 1 = _; omega) (by omega) ?_
          exact ⟨(k + 1, true), rfl, ⟨hE56, hkl, fin true rfl⟩, by show x.1.length - (k + 1) < x.1.length - k; omega⟩
        | false =>
          have idx : ∀ K : Int → Prop, K (y : Int) → SIndex (strOf x.1) ((k : Nat) : Int) K := fun K hK => by
            refine sindex' (by rw [hns]; exact hkl) (fun z hz _ => ?_)
            rw [bytesOf_strOf hxb.n8, hy] at hz
            cases hz; exact hK
          refine wif_f rfl ?_
          refine load_blk hB6 rfl ?_
          refine idx _ ?_
          refine wif_d (fun d1 => ?_) (fun d1 => ?_)
          · refine norm_i64_to ((k + 1 : Nat) : Int) (by show ((k : Nat) : Int) + 1 = _; omega) (by omega) ?_
            exact ⟨(k + 1, true), rfl, ⟨hE56, hkl, fin true (by have : y < 32 := by omega
                                                                simp [badB, this])⟩, by show x.1.length - (k + 1) < x.1.length - k; omega⟩
          refine load_blk hB6 rfl ?_
          refine idx _ ?_
          refine wif_eq (fun d2 => ?_) (fun d2 => ?_)
          · refine norm_i64_to ((k + 1 : Nat) : Int) (by show ((k : Nat) : Int) + 1 = _; omega) (by omega) ?_
            exact ⟨(k + 1, true), rfl, ⟨hE56, hkl, fin true (by have : y = 34 := by omega
                                                                simp [badB, this])⟩, by show x.1.length - (k + 1) < x.1.length - k; omega⟩
          refine load_blk hB6 rfl ?_
          refine idx _ ?_
          refine norm_i64_to ((k + 1 : Nat) : Int) (by show ((k : Nat) : Int) + 1 = _; omega) (by omega) ?_
          refine ⟨(k + 1, ((y : Int) == 127)), rfl, ⟨hE56, hkl, fin _ ?_⟩, by show x.1.length - (k + 1) < x.1.length - k; omega⟩
          have n1 : ¬ y < 32 := by omega
          have n2 : ¬ y = 34 := by omega
          by_cases n3 : y = 127
          · subst n3; rfl
          · have : ((y : Int) == 127) = false := by simp; omega
            rw [this]; simp [badB, n1, n2, n3]
      · have hkl : k = x.1.length := by rw [hns] at c3; simp only at c3; omega
        subst hkl
        rw [List.take_length] at hbv
        have hall := bad_all x ((fs.take i).map (·.1))
        have hdrop : fs.drop i = x :: fs.drop (i + 1) := by
          rw [List.drop_eq_getElem_cons (by omega)]
          congr 1
          exact Option.some.inj ((List.getElem?_eq_getElem (by omega)).symm.trans hx)
        have hrs := hI6.rs
        rw [hdrop, chkFs] at hrs
        have hB16 := ((hB1.ext hI.e).ext hE35).ext hE56
        refine wif (fun d1 => ?_) (fun d1 => ?_)
        · have d1 : b = true := d1
          rw [if_pos (hall.1 (by rw [← hbv, d1]))] at hrs
          refine storeN_blk0 hB16 rfl (sc rfl) (fun w7 hg7 _ hB7 => ?_)
          refine loadN_blk0 hB7 rfl ?_
          have hM7 : Mod (· = w.heap.size) w6 w7 := Mod.of_grown hg7 rfl
          exact ⟨by rw [← hrs]; rfl, hM7.ext (hE1.trans hI6.e) (fun i hi => by omega)⟩
        have d1 : b = false := d1
        have hok := fun hh => (hall.2 hh).symm.trans (hbv.symm.trans d1)
        rw [if_neg (fun hh => by have := hok hh; cases this)] at hrs
        refine load_blk hB6 rfl ?_
        refine wif_d (fun d2 => ?_) (fun d2 => ?_)
        · rw [if_pos (by omega)] at hrs
          refine storeN_blk0 hB16 rfl (sc rfl) (fun w7 hg7 _ hB7 => ?_)
          refine loadN_blk0 hB7 rfl ?_
          have hM7 : Mod (· = w.heap.size) w6 w7 := Mod.of_grown hg7 rfl
          exact ⟨by rw [← hrs]; rfl, hM7.ext (hE1.trans hI6.e) (fun i hi => by omega)⟩
        rw [if_neg (by omega)] at hrs
        refine load_blk hB6 rfl ?_
        have hm6 := hm5.ext hE56
        refine at_mapUpdate (kv := strK) (a := strOf x.1) gx_ok rfl rfl rfl rfl rfl KeyV.str rfl rfl rfl hm6 (fun w7 hg7 hz7 hm7 => ?_)
        have hM7 : Mod (· = w1.heap.size) w6 w7 := Mod.of_grown hg7 rfl
        refine norm_i64_to ((i + 1 : Nat) : Int) (by show ((i : Nat) : Int) + 1 = _; omega) (by omega) ?_
        have htk : (fs.take (i + 1)).map (·.1) = (fs.take i).map (·.1) ++ [x.1] := by rw [List.take_add_one, hx]; simp
        refine ⟨i + 1, rfl, ⟨hM7.ext hI6.e (fun i hi => by omega), ⟨_, hm7, fun s hs => ?_⟩, by rw [htk]; exact hrs, by omega, Nat.le_refl _⟩, by show fs.length - (i + 1) < fs.length - i; omega⟩
        rw [assoc_set, htk]
        by_cases hsx : s = x.1
        · subst hsx; simp
        · rw [if_neg (fun e => hsx (strOf_inj hs hxb.n8 e)), hlk s hs]
          simp [hsx]
    refine wif_df p2 ?_
    refine load_blk hB5 rfl ?_
    by_cases p3 : x.2 = []
    · refine wif_f (by rw [p3]; rfl) ?_
      refine load_blk hB5 rfl ?_
      have e0 : bad0 x ((fs.take i).map (·.1)) = false := by unfold bad0; rw [decide_eq_false p1, decide_eq_false p2, p3]; rfl
      refine loop gx_ok [47, 6] (fun s : Nat × Bool => [.int .i64 s.1, .bool s.2]) (fun s w' => Ext w5 w' ∧ s.1 ≤ x.1.length ∧ s.2 = (bad0 x ((fs.take i).map (·.1)) || (x.1.take s.1).any badB)) (fun s _ => x.1.length - s.1) (0, false) rfl ⟨Ext.refl _, Nat.zero_le _, by rw [e0]; simp⟩ ?_
      rintro ⟨k, b⟩ w6 ⟨hE56, hk, hbv⟩
      simp only at hk hbv
      have hI6 := hI5.ext hE56
      have hB6 := hB5.ext hE56
      refine wif_d (fun c3 => ?_) (fun c3 => ?_)
      · have hkl : k < x.1.length := by rw [hns] at c3; simp only at c3; omega
        obtain ⟨y, hy⟩ : ∃ y, x.1[k]? = some y := ⟨_, List.getElem?_eq_getElem hkl⟩
        have hstep : (x.1.take (k + 1)).any badB = ((x.1.take k).any badB || badB y) := by
          rw [List.take_add_one, hy]; simp
        have fin : ∀ b', b' = (b || badB y) → b' = (bad0 x ((fs.take i).map (·.1)) || (x.1.take (k + 1)).any badB) := fun b' e => by rw [e, hbv, hstep, Bool.or_assoc]
        cases b with
        | true =>
          refine wif_t rfl ?_
          refine norm_i64_to ((k + 1 : Nat) : Int) (by show ((k : Nat) : Int) + 1 = _; omega) (by omega) ?_
          exact ⟨(k + 1, true), rfl, ⟨hE56, hkl, fin true rfl⟩, by show x.1.length - (k + 1) < x.1.length - k; omega⟩
        | false =>
          have idx : ∀ K : Int → Prop, K (y : Int) → SIndex (strOf x.1) ((k : Nat) : Int) K := fun K hK => by
            refine sindex' (by rw [hns]; exact hkl) (fun z hz _ => ?_)
            rw [bytesOf_strOf hxb.n8, hy] at hz
            cases hz; exact hK
          refine wif_f rfl ?_
          refine load_blk hB6 rfl ?_
          refine idx _ ?_
          refine wif_d (fun d1 => ?_) (fun d1 => ?_)
          · refine norm_i64_to ((k + 1 : Nat) : Int) (by show ((k : Nat) : Int) + 1 = _; omega) (by omega) ?_
            exact ⟨(k + 1, true), rfl, ⟨hE56, hkl, fin true (by have : y < 32 := by omega
                                                                simp [badB, this])⟩, by show x.1.length - (k + 1) < x.1.length - k; omega⟩
          refine load_blk hB6 rfl ?_
          refine idx _ ?_
          refine wif_eq (fun d2 => ?_) (fun d2 => ?_)
          · refine norm_i64_to ((k + 1 : Nat) : Int) (by show ((k : Nat) : Int) + 1 = _; omega) (by omega) ?_
            exact ⟨(k + 1, true), rfl, ⟨hE56, hkl, fin true (by have : y = 34 := by omega
                                                                simp [badB, this])⟩, by show x.1.length - (k + 1) < x.1.length - k; omega⟩
          refine load_blk hB6 rfl ?_
          refine idx _ ?_
          refine norm_i64_to ((k + 1 : Nat) : Int) (by show ((k : Nat) : Int) + 1 = _; omega) (by omega) ?_
          refine ⟨(k + 1, ((y : Int) == 127)), rfl, ⟨hE56, hkl, fin _ ?_⟩, by show x.1.length - (k + 1) < x.1.length - k; omega⟩
          have n1 : ¬ y < 32 := by omega
          have n2 : ¬ y = 34 := by omega
          by_cases n3 : y = 127
          · subst n3; rfl
          · have : ((y : Int) == 127) = false := by simp; omega
            rw [this]; simp [badB, n1, n2, n3]
      · have hkl : k = x.1.length := by rw [hns] at c3; simp only at c3; omega
        subst hkl
        rw [List.take_length] at hbv
        have hall := bad_all x ((fs.take i).map (·.1))
        have hdrop : fs.drop i = x :: fs.drop (i + 1) := by
          rw [List.drop_eq_getElem_cons (by omega)]
          congr 1
          exact Option.some.inj ((List.getElem?_eq_getElem (by omega)).symm.trans hx)
        have hrs := hI6.rs
        rw [hdrop, chkFs] at hrs
        have hB16 := ((hB1.ext hI.e).ext hE35).ext hE56
        refine wif (fun d1 => ?_) (fun d1 => ?_)
        · have d1 : b = true := d1
          rw [if_pos (hall.1 (by rw [← hbv, d1]))] at hrs
          refine storeN_blk0 hB16 rfl (sc rfl) (fun w7 hg7 _ hB7 => ?_)
          refine loadN_blk0 hB7 rfl ?_
          have hM7 : Mod (· = w.heap.size) w6 w7 := Mod.of_grown hg7 rfl
          exact ⟨by rw [← hrs]; rfl, hM7.ext (hE1.trans hI6.e) (fun i hi => by omega)⟩
        have d1 : b = false := d1
        have hok := fun hh => (hall.2 hh).symm.trans (hbv.symm.trans d1)
        rw [if_neg (fun hh => by have := hok hh; cases this)] at hrs
        refine load_blk hB6 rfl ?_
        refine wif_d (fun d2 => ?_) (fun d2 => ?_)
        · rw [if_pos (by omega)] at hrs
          refine storeN_blk0 hB16 rfl (sc rfl) (fun w7 hg7 _ hB7 => ?_)
          refine loadN_blk0 hB7 rfl ?_
          have hM7 : Mod (· = w.heap.size) w6 w7 := Mod.of_grown hg7 rfl
          exact ⟨by rw [← hrs]; rfl, hM7.ext (hE1.trans hI6.e) (fun i hi => by omega)⟩
        rw [if_neg (by omega)] at hrs
        refine load_blk hB6 rfl ?_
        have hm6 := hm5.ext hE56
        refine at_mapUpdate (kv := strK) (a := strOf x.1) gx_ok rfl rfl rfl rfl rfl KeyV.str rfl rfl rfl hm6 (fun w7 hg7 hz7 hm7 => ?_)
        have hM7 : Mod (· = w1.heap.size) w6 w7 := Mod.of_grown hg7 rfl
        refine norm_i64_to ((i + 1 : Nat) : Int) (by show ((i : Nat) : Int) + 1 = _; omega) (by omega) ?_
        have htk : (fs.take (i + 1)).map (·.1) = (fs.take i).map (·.1) ++ [x.1] := by rw [List.take_add_one, hx]; simp
        refine ⟨i + 1, rfl, ⟨hM7.ext hI6.e (fun i hi => by omega), ⟨_, hm7, fun s hs => ?_⟩, by rw [htk]; exact hrs, by omega, Nat.le_refl _⟩, by show fs.length - (i + 1) < fs.length - i; omega⟩
        rw [assoc_set, htk]
        by_cases hsx : s = x.1
        · subst hsx; simp
        · rw [if_neg (fun e => hsx (strOf_inj hs hxb.n8 e)), hlk s hs]
          simp [hsx]
    · have n3 : ¬ strOf x.2 = (⟨#[]⟩ : ByteArray) := fun e => p3 (strOf_inj hxb.t8 (by simp) e)
      refine wif_t (by simp [n3]) ?_
      refine load_blk hB5 rfl ?_
      refine load_blk hB5 rfl ?_
      have htl := hxb.tl
      have hpos : 0 < x.2.length := List.length_pos_iff.2 p3
      refine norm_i64_to ((x.2.length - 1 : Nat) : Int) (by rw [hts]; omega) (by omega) ?_
      refine sindex' (j := x.2.length - 1) (by omega) (fun z hz hz8 => ?_)
      rw [bytesOf_strOf hxb.t8] at hz
      have hlast : x.2.getLast? = some z := by rw [List.getLast?_eq_getElem?]; exact hz
      refine load_blk hB5 rfl ?_
      have e0 : bad0 x ((fs.take i).map (·.1)) = ((z : Int) != 10) := by
        unfold bad0
        rw [decide_eq_false p1, decide_eq_false p2, decide_eq_true p3, hlast]
        by_cases h10 : z = 10
        · subst h10; decide
        · have e1 : ((z : Int) != 10) = true := by simp; omega
          rw [e1]; simp [h10]
      refine loop gx_ok [47, 6] (fun s : Nat × Bool => [.int .i64 s.1, .bool s.2]) (fun s w' => Ext w5 w' ∧ s.1 ≤ x.1.length ∧ s.2 = (bad0 x ((fs.take i).map (·.1)) || (x.1.take s.1).any badB)) (fun s _ => x.1.length - s.1) (0, ((z : Int) != 10)) rfl ⟨Ext.refl _, Nat.zero_le _, by rw [e0]; simp⟩ ?_
      rintro ⟨k, b⟩ w6 ⟨hE56, hk, hbv⟩
      simp only at hk hbv
      have hI6 := hI5.ext hE56
      have hB6 := hB5.ext hE56
      refine wif_d (fun c3 => ?_) (fun c3 => ?_)
      · have hkl : k < x.1.length := by rw [hns] at c3; simp only at c3; omega
        obtain ⟨y, hy⟩ : ∃ y, x.1[k]? = some y := ⟨_, List.getElem?_eq_getElem hkl⟩
        have hstep : (x.1.take (k + 1)).any badB = ((x.1.take k).any badB || badB y) := by
          rw [List.take_add_one, hy]; simp
        have fin : ∀ b', b' = (b || badB y) → b' = (bad0 x ((fs.take i).map (·.1)) || (x.1.take (k + 1)).any badB) := fun b' e => by rw [e, hbv, hstep, Bool.or_assoc]
        cases b with
        | true =>
          refine wif_t rfl ?_
          refine norm_i64_to ((k + 1 : Nat) : Int) (by show ((k : Nat) : Int) + 1 = _; omega) (by omega) ?_
          exact ⟨(k + 1, true), rfl, ⟨hE56, hkl, fin true rfl⟩, by show x.1.length - (k + 1) < x.1.length - k; omega⟩
        | false =>
          have idx : ∀ K : Int → Prop, K (y : Int) → SIndex (strOf x.1) ((k : Nat) : Int) K := fun K hK => by
            refine sindex' (by rw [hns]; exact hkl) (fun z hz _ => ?_)
            rw [bytesOf_strOf hxb.n8, hy] at hz
            cases hz; exact hK
          refine wif_f rfl ?_
          refine load_blk hB6 rfl ?_
          refine idx _ ?_
          refine wif_d (fun d1 => ?_) (fun d1 => ?_)
          · refine norm_i64_to ((k + 1 : Nat) : Int) (by show ((k : Nat) : Int) + 1 = _; omega) (by omega) ?_
            exact ⟨(k + 1, true), rfl, ⟨hE56, hkl, fin true (by have : y < 32 := by omega
                                                                simp [badB, this])⟩, by show x.1.length - (k + 1) < x.1.length - k; omega⟩
          refine load_blk hB6 rfl ?_
          refine idx _ ?_
          refine wif_eq (fun d2 => ?_) (fun d2 => ?_)
          · refine norm_i64_to ((k + 1 : Nat) : Int) (by show ((k : Nat) : Int) + 1 = _; omega) (by omega) ?_
            exact ⟨(k + 1, true), rfl, ⟨hE56, hkl, fin true (by have : y = 34 := by omega
                                                                simp [badB, this])⟩, by show x.1.length - (k + 1) < x.1.length - k; omega⟩
          refine load_blk hB6 rfl ?_
          refine idx _ ?_
          refine norm_i64_to ((k + 1 : Nat) : Int) (by show ((k : Nat) : Int) + 1 = _; omega) (by omega) ?_
          refine ⟨(k + 1, ((y : Int) == 127)), rfl, ⟨hE56, hkl, fin _ ?_⟩, by show x.1.length - (k + 1) < x.1.length - k; omega⟩
          have n1 : ¬ y < 32 := by omega
          have n2 : ¬ y = 34 := by omega
          by_cases n3 : y = 127
          · subst n3; rfl
          · have : ((y : Int) == 127) = false := by simp; omega
            rw [this]; simp [badB, n1, n2, n3]
      · have hkl : k = x.1.length := by rw [hns] at c3; simp only at c3; omega
        subst hkl
        rw [List.take_length] at hbv
        have hall := bad_all x ((fs.take i).map (·.1))
        have hdrop : fs.drop i = x :: fs.drop (i + 1) := by
          rw [List.drop_eq_getElem_cons (by omega)]
          congr 1
          exact Option.some.inj ((List.getElem?_eq_getElem (by omega)).symm.trans hx)
        have hrs := hI6.rs
        rw [hdrop, chkFs] at hrs
        have hB16 := ((hB1.ext hI.e).ext hE35).ext hE56
        refine wif (fun d1 => ?_) (fun d1 => ?_)
        · have d1 : b = true := d1
          rw [if_pos (hall.1 (by rw [← hbv, d1]))] at hrs
          refine storeN_blk0 hB16 rfl (sc rfl) (fun w7 hg7 _ hB7 => ?_)
          refine loadN_blk0 hB7 rfl ?_
          have hM7 : Mod (· = w.heap.size) w6 w7 := Mod.of_grown hg7 rfl
          exact ⟨by rw [← hrs]; rfl, hM7.ext (hE1.trans hI6.e) (fun i hi => by omega)⟩
        have d1 : b = false := d1
        have hok := fun hh => (hall.2 hh).symm.trans (hbv.symm.trans d1)
        rw [if_neg (fun hh => by have := hok hh; cases this)] at hrs
        refine load_blk hB6 rfl ?_
        refine wif_d (fun d2 => ?_) (fun d2 => ?_)
        · rw [if_pos (by omega)] at hrs
          refine storeN_blk0 hB16 rfl (sc rfl) (fun w7 hg7 _ hB7 => ?_)
          refine loadN_blk0 hB7 rfl ?_
          have hM7 : Mod (· = w.heap.size) w6 w7 := Mod.of_grown hg7 rfl
          exact ⟨by rw [← hrs]; rfl, hM7.ext (hE1.trans hI6.e) (fun i hi => by omega)⟩
        rw [if_neg (by omega)] at hrs
        refine load_blk hB6 rfl ?_
        have hm6 := hm5.ext hE56
        refine at_mapUpdate (kv := strK) (a := strOf x.1) gx_ok rfl rfl rfl rfl rfl KeyV.str rfl rfl rfl hm6 (fun w7 hg7 hz7 hm7 => ?_)
        have hM7 : Mod (· = w1.heap.size) w6 w7 := Mod.of_grown hg7 rfl
        refine norm_i64_to ((i + 1 : Nat) : Int) (by show ((i : Nat) : Int) + 1 = _; omega) (by omega) ?_
        have htk : (fs.take (i + 1)).map (·.1) = (fs.take i).map (·.1) ++ [x.1] := by rw [List.take_add_one, hx]; simp
        refine ⟨i + 1, rfl, ⟨hM7.ext hI6.e (fun i hi => by omega), ⟨_, hm7, fun s hs => ?_⟩, by rw [htk]; exact hrs, by omega, Nat.le_refl _⟩, by show fs.length - (i + 1) < fs.length - i; omega⟩
        rw [assoc_set, htk]
        by_cases hsx : s = x.1
        · subst hsx; simp
        · rw [if_neg (fun e => hsx (strOf_inj hs hxb.n8 e)), hlk s hs]
          simp [hsx]
  · have hi : i = fs.length := by have := hI.le; omega
    have hrs := hI.rs
    rw [hi, List.drop_length, chkFs] at hrs
    refine storeN_blk0 (hB1.ext hI.e) rfl (sc rfl) (fun w4 hg4 _ hB4 => ?_)
    refine loadN_blk0 hB4 rfl ?_
    have hM4 : Mod (· = w.heap.size) w3 w4 := Mod.of_grown hg4 rfl
    exact ⟨by rw [← hrs]; rfl, hM4.ext hE03 (fun i hi => by omega)⟩
end

section
open Go Go.RowKit

theorem wpOpsS_recover {P : Program} {ops : Array Oper} {rest : List Nat} {i : Nat} {o : Oper} {Q : Exit → Act → List Frame → World → Prop} {a : Act} {cs cs' : List Frame} {w : World} {v : Value} {d : Nat} (hi : ops[i]? = some o) (h1 : o.op = .call ⟨.builtin .recover, #[], #[]⟩) (hd : o.dst = some d) (hg : o.guard = none)
    (hrec : recoverD cs = some (v, cs') ∨ (recoverD cs = none ∧ v = .nilIface ∧ cs' = cs)) (h : wpOpsS P ops Q rest (a.put (some d) v) cs' w) : wpOpsS P ops Q (i :: rest) a cs w := by
  have e1 : (execOp a.eval o).run P w = .ok .recover w := by
    simp only [execOp, h1, resolve, invoke, builtin]
    simp
  unfold wpOpsS
  rw [hi]
  simp only
  rw [if_pos (by simp [Region.wanted, hg]), e1, hd]
  rcases hrec with hr | ⟨hr, rfl, rfl⟩
  · simp only [hr]; exact h
  · simp only [hr]; exact h
theorem wpOpsS_exec {c : Cx} (hg : c.g.Ok) {P : Program} (hP : c.g.P = P) {ops : Array Oper} {rest : List Nat} {i : Nat} {o : Oper} {Q : Exit → Act → List Frame → World → Prop} {a : Act} {cs : List Frame} {w : World} {S : Env} {K : Env → World → Prop} (hi : ops[i]? = some o) (hgd : o.guard = none) (hf : Fits c.N S a)
    (h : execO c o S w K (fun _ _ _ => False)) (hk : ∀ S' a' w', Fits c.N S' a' → K S' w' → wpOpsS P ops Q rest a' cs w') : wpOpsS P ops Q (i :: rest) a cs w := by
  subst hP
  have h1 := execO_sound hg h hf
  unfold wpOpsS
  rw [hi]
  simp only
  rw [if_pos (by simp [Region.wanted, hgd])]
  have h2 := Oper.wp_mono (K' := fun a' w' => wpOpsS c.g.P ops Q rest a' cs w') (fun a' w' ⟨S', hf', hK⟩ => hk _ _ _ hf' hK) h1
  unfold Oper.wp at h2
  generalize (execOp a.eval o).run c.g.P w = r at *
  cases r with
  | ok n w' =>
    cases n <;> simp only [Oper.upon] at h2 ⊢ <;> first | exact h2 | exact h2.elim | skip
    exact h2.mono fun e w'' he => by
      cases e with
      | returned v => exact he
      | panicked ch => obtain ⟨_, _, he⟩ := he; exact he.elim
      | outgrown => obtain ⟨_, _, _, _, he⟩ := he; exact he.elim
  | halt x w' => cases x <;> simp only [Oper.upon] at h2 ⊢ <;> first | exact h2 | (obtain ⟨_, _, h2⟩ := h2; exact h2.elim) | (obtain ⟨_, _, _, _, h2⟩ := h2; exact h2.elim)

theorem at_assert_st {c : Cx} {o : Oper} {S : Env} {w : World} {K : Env → World → Prop} {Q : Post} {x : Operand} {tx t : Nat} {fs : Array Field} {v : Value} {r : TyRow} (hg : c.g.Ok) (ho : o.op = .typeAssert x tx t true) (hr : rowOf c.g.tys t = some r) (hd : r.d = .struct fs) (hx : S.ev x = some (.iface t v))
    (kk : putK c S o.dst (.v (.tuple #[v, .bool true])) (fun S => K S w)) : AtOp c o S w K Q := by
  have hr' := (hg.row hr).1
  rw [hd] at hr'
  refine at_run (w' := w) (v := .tuple #[v, .bool true]) (fun a hf => ?_) kk
  have e1 := hf.ev hx
  simp only [execOp, ho, e1]
  simp [Instr.typeAssert, run_underlying hr']
theorem at_assert_nil {c : Cx} {o : Oper} {S : Env} {w : World} {K : Env → World → Prop} {Q : Post} {x : Operand} {tx t : Nat} {fs : Array Field} {r : TyRow} (hg : c.g.Ok) (ho : o.op = .typeAssert x tx t true) (hr : rowOf c.g.tys t = some r) (hd : r.d = .struct fs) (hx : S.ev x = some .nilIface)
    (kk : putK c S o.dst (.v (.tuple #[r.z, .bool false])) (fun S => K S w)) : AtOp c o S w K Q := by
  obtain ⟨hr', i, hi, _, _, hz⟩ := hg.row hr
  rw [hd] at hr'
  refine at_run (w' := w) (v := .tuple #[r.z, .bool false]) (fun a hf => ?_) kk
  have e1 := hf.ev hx
  simp only [execOp, ho, e1]
  simp [Instr.typeAssert, run_underlying hr', zeroValue, typeInfo, hi, hz]

/-- Behind a panic of the reader's. -/
def RecPl (f e : Nat) (q : Pl) (w w' : World) : Prop := Blk w' f 29 [.string (strOf []), .slice none 0 0] ∧ Blk w' e 32 (plC q) ∧ Mod (fun i => i = f ∨ i = e) w w'
theorem srec_fn (f e : Nat) (q : Pl) (w : World) (cs1 cs2 : List Value) (hl1 : cs1.length = 2) (hl2 : cs2.length = 3) (hne : f ≠ e) (hf : Blk w f 29 cs1) (he : Blk w e 32 cs2) :
    CallsD Tryz.prog 45 #[.pointer (some ⟨f, 0, none⟩), .pointer (some ⟨e, 0, none⟩)] (.panicking (failPan q.e q.f q.l)) w
      (fun en u' w' => ∃ v, en = .returned v ∧ settle u' = .returning ∧ RecPl f e q w w') := by
  refine callsD_of_wpS Tryz.func45 rfl fun c₀ cs hu => ?_
  have hfit := fits_args (N := Tryz.f45.ntmps) [.pointer (some ⟨f, 0, none⟩), .pointer (some ⟨e, 0, none⟩)] (Nat.le_of_ble_eq_true rfl) [(0, .v (.pointer (some ⟨f, 0, none⟩))), (1, .v (.pointer (some ⟨e, 0, none⟩)))] (by
    intro k x hk
    match k, hk with
    | 0, hk => cases hk; rfl
    | 1, hk => cases hk; rfl
    | k + 2, hk => exact nomatch (show (none : Option Ent) = some x from hk))
  have hf5 := hfit.put (d := 5) (by decide) (.v (.iface 90 (.agg #[.int .i64 q.e, .int .i64 q.f, .int .i64 q.l])))
  refine wpS_seq (wpS_region ?_)
  show wpOpsS _ _ _ [0, 1, 2, 3, 4, 5, 6, 7] _ _ _
  refine wpOpsS_recover (o := _) (cs' := { c₀ with mode := .panicking [{ v := .iface 90 (.agg #[.int .i64 q.e, .int .i64 q.f, .int .i64 q.l]), recovered := true }] } :: cs) (v := .iface 90 (.agg #[.int .i64 q.e, .int .i64 q.f, .int .i64 q.l])) (d := 5) rfl rfl rfl rfl (.inl (by simp [recoverD, hu, failPan])) ?_
  generalize hact : Act.put _ (some 5) _ = act
  have hf5' : Fits c45.N [(5, .v (.iface 90 (.agg #[.int .i64 q.e, .int .i64 q.f, .int .i64 q.l]))), (0, .v (.pointer (some ⟨f, 0, none⟩))), (1, .v (.pointer (some ⟨e, 0, none⟩)))] act := by rw [← hact]; exact hf5
  clear hact hf5 hfit
  generalize hops : #[_, _, _, _, _, _, _, _] = ops0
  have h1 := (congrArg (fun (x : Array Oper) => x[1]?) hops).symm
  have h2 := (congrArg (fun (x : Array Oper) => x[2]?) hops).symm
  have h3 := (congrArg (fun (x : Array Oper) => x[3]?) hops).symm
  have h4 := (congrArg (fun (x : Array Oper) => x[4]?) hops).symm
  have h5 := (congrArg (fun (x : Array Oper) => x[5]?) hops).symm
  have h6 := (congrArg (fun (x : Array Oper) => x[6]?) hops).symm
  have h7 := (congrArg (fun (x : Array Oper) => x[7]?) hops).symm
  clear hops
  refine wpOpsS_exec (c := c45) gx_ok rfl h1 rfl hf5' (K := fun S' w' => S' = [(6, Ent.v (.tuple #[.agg #[.int .i64 q.e, .int .i64 q.f, .int .i64 q.l], .bool true])), (5, .v (.iface 90 (.agg #[.int .i64 q.e, .int .i64 q.f, .int .i64 q.l]))), (0, .v (.pointer (some ⟨f, 0, none⟩))), (1, .v (.pointer (some ⟨e, 0, none⟩)))] ∧ w = w') (at_assert_st gx_ok rfl rfl rfl rfl ⟨rfl, rfl⟩) ?_
  rintro _ a1 _ hf1 ⟨rfl, rfl⟩
  refine wpOpsS_exec (c := c45) gx_ok rfl h2 rfl hf1 (K := fun S' w' => S' = _ ∧ w = w') ⟨rfl, rfl⟩ ?_
  rintro _ a2 _ hf2 ⟨rfl, rfl⟩
  refine wpOpsS_exec (c := c45) gx_ok rfl h3 rfl hf2 (K := fun S' w' => S' = _ ∧ w = w') ⟨rfl, rfl⟩ ?_
  rintro _ a3 _ hf3 ⟨rfl, rfl⟩
  refine wpOpsS_exec (c := c45) gx_ok rfl h4 rfl hf3 (K := fun S' w' => S' = _ ∧ w = w') ⟨rfl, rfl⟩ ?_
  rintro _ a4 _ hf4 ⟨rfl, rfl⟩
  refine wpOpsS_exec (c := c45) gx_ok rfl h5 rfl hf4 (K := fun S' w' => S' = (2, .v (.pointer (some ⟨w.heap.size, 0, none⟩))) :: _ ∧ Ext w w' ∧ w'.heap.size = w.heap.size + 1 ∧ ∃ ps : List Value, Blk w' w.heap.size 90 ps ∧ ps.length = 3) (new (fun w1 hE1 hz1 hB1 => ⟨rfl, hE1, hz1, _, hB1, rfl⟩)) ?_
  rintro _ a5 w5 hf5 ⟨rfl, hE5, hz5, ps, hB5, hps⟩
  refine wpOpsS_exec (c := c45) gx_ok rfl h6 rfl hf5 (K := fun S' w' => S' = _ ∧ Ext w w' ∧ w.heap.size + 1 ≤ w'.heap.size ∧ Blk w' w.heap.size 90 (plC q)) (storeN_blk0 hB5 (by rw [hps]; rfl) (sc rfl) (fun w6 hg6 hz6 hB6 => ⟨rfl, newBox hE5 hB5 hg6, by omega, hB6⟩)) ?_
  rintro _ a6 w6 hf6 ⟨rfl, hE6, hz6, hB6⟩
  refine wpOpsS_exec (c := c45) gx_ok rfl h7 rfl hf6 (K := fun S' w' => S' = _ ∧ w6 = w') ⟨rfl, rfl⟩ ?_
  rintro _ a7 _ hf7 ⟨rfl, rfl⟩
  unfold wpOpsS
  refine wpS_rest (c := c45) gx_ok rfl hf7 ?_
  refine wif_t rfl ?_
  have nf : f ≠ w.heap.size := fun e => by have := hf.lt; omega
  have ne : e ≠ w.heap.size := fun e => by have := he.lt; omega
  have hf6' := hf.ext hE6
  have he6' := he.ext hE6
  refine draw_plan gx_ok (fun w' => Mod (fun i => i = f ∨ i = e) w6 w') 5 [(true, 0), (true, 1), (true, 2), (false, 3), (false, 4)] (by kernel_rfl) (Mod.of_ext _ (Ext.drew w6)) ?_
  refine qloadN (vs := plC q) rfl (fun w' hw' j u hj => by rw [add_add, (hB6.mod hw' (fun hh => hh.elim (fun e => nf e.symm) (fun e => ne e.symm))).cell]; simpa using hj) ?_
  have hd := Ext.drew w6
  refine storeN_blk0 (hf6'.ext hd) (by rw [hl1]; rfl) (sc rfl) (fun w8 hg8 _ hB8 => ?_)
  have hM8 : Mod (· = f) w6.drew w8 := Mod.of_grown hg8 rfl
  have hM8' : Mod (fun i => i = f ∨ i = e) w6 w8 := (Mod.of_ext _ hd).trans hM8 (fun i hi => .inl (.inl hi))
  refine ⟨hM8', ?_⟩
  refine storeN_blk0 ((he6'.ext hd).mod hM8 (fun hh => hne hh.symm)) (by rw [hl2]; rfl) (sc rfl) (fun w9 hg9 _ hB9 => ?_)
  have hM9 : Mod (· = e) w8 w9 := Mod.of_grown hg9 rfl
  have hM9' : Mod (fun i => i = f ∨ i = e) w6 w9 := hM8'.trans hM9 (fun i hi => .inl (.inr hi))
  refine ⟨hM9', ?_⟩
  exact ⟨_, rfl, rfl, hB8.mod hM9 hne, hB9, (Mod.of_ext _ hE6).trans hM9' (fun i hi => .inl hi)⟩

theorem srec_ret_fn (f e : Nat) (w : World) :
    CallsD Tryz.prog 45 #[.pointer (some ⟨f, 0, none⟩), .pointer (some ⟨e, 0, none⟩)] .returning w
      (fun en u' w' => ∃ v, en = .returned v ∧ settle u' = .returning ∧ Ext w w') := by
  refine callsD_of_wpS Tryz.func45 rfl fun c₀ cs hu => ?_
  have hfit := fits_args (N := Tryz.f45.ntmps) [.pointer (some ⟨f, 0, none⟩), .pointer (some ⟨e, 0, none⟩)] (Nat.le_of_ble_eq_true rfl) [(0, .v (.pointer (some ⟨f, 0, none⟩))), (1, .v (.pointer (some ⟨e, 0, none⟩)))] (by
    intro k x hk
    match k, hk with
    | 0, hk => cases hk; rfl
    | 1, hk => cases hk; rfl
    | k + 2, hk => exact nomatch (show (none : Option Ent) = some x from hk))
  have hf5 := hfit.put (d := 5) (by decide) (.v .nilIface)
  refine wpS_seq (wpS_region ?_)
  show wpOpsS _ _ _ [0, 1, 2, 3, 4, 5, 6, 7] _ _ _
  refine wpOpsS_recover (o := _) (cs' := { c₀ with mode := .returning } :: cs) (v := .nilIface) (d := 5) rfl rfl rfl rfl (.inr ⟨by simp [recoverD, hu], rfl, by rw [← hu]⟩) ?_
  generalize hact : Act.put _ (some 5) _ = act
  have hf5' : Fits c45.N [(5, .v .nilIface), (0, .v (.pointer (some ⟨f, 0, none⟩))), (1, .v (.pointer (some ⟨e, 0, none⟩)))] act := by rw [← hact]; exact hf5
  clear hact hf5 hfit
  generalize hops : #[_, _, _, _, _, _, _, _] = ops0
  have h1 := (congrArg (fun (x : Array Oper) => x[1]?) hops).symm
  have h2 := (congrArg (fun (x : Array Oper) => x[2]?) hops).symm
  have h3 := (congrArg (fun (x : Array Oper) => x[3]?) hops).symm
  have h4 := (congrArg (fun (x : Array Oper) => x[4]?) hops).symm
  have h5 := (congrArg (fun (x : Array Oper) => x[5]?) hops).symm
  have h6 := (congrArg (fun (x : Array Oper) => x[6]?) hops).symm
  have h7 := (congrArg (fun (x : Array Oper) => x[7]?) hops).symm
  clear hops
  refine wpOpsS_exec (c := c45) gx_ok rfl h1 rfl hf5' (K := fun S' w' => S' = _ ∧ w = w') (at_assert_nil gx_ok rfl rfl rfl rfl ⟨rfl, rfl⟩) ?_
  rintro _ a1 _ hf1 ⟨rfl, rfl⟩
  refine wpOpsS_exec (c := c45) gx_ok rfl h2 rfl hf1 (K := fun S' w' => S' = _ ∧ w = w') ⟨rfl, rfl⟩ ?_
  rintro _ a2 _ hf2 ⟨rfl, rfl⟩
  refine wpOpsS_exec (c := c45) gx_ok rfl h3 rfl hf2 (K := fun S' w' => S' = _ ∧ w = w') ⟨rfl, rfl⟩ ?_
  rintro _ a3 _ hf3 ⟨rfl, rfl⟩
  refine wpOpsS_exec (c := c45) gx_ok rfl h4 rfl hf3 (K := fun S' w' => S' = _ ∧ w = w') ⟨rfl, rfl⟩ ?_
  rintro _ a4 _ hf4 ⟨rfl, rfl⟩
  refine wpOpsS_exec (c := c45) gx_ok rfl h5 rfl hf4 (K := fun S' w' => S' = (2, .v (.pointer (some ⟨w.heap.size, 0, none⟩))) :: _ ∧ Ext w w' ∧ w'.heap.size = w.heap.size + 1 ∧ ∃ ps : List Value, Blk w' w.heap.size 90 ps ∧ ps.length = 3) (new (fun w1 hE1 hz1 hB1 => ⟨rfl, hE1, hz1, _, hB1, rfl⟩)) ?_
  rintro _ a5 w5 hf5 ⟨rfl, hE5, hz5, ps, hB5, hps⟩
  refine wpOpsS_exec (c := c45) gx_ok rfl h6 rfl hf5 (K := fun S' w' => S' = _ ∧ Ext w w') (storeN_blk0 hB5 (by rw [hps]; rfl) (sc rfl) (fun w6 hg6 hz6 hB6 => ⟨rfl, newBox hE5 hB5 hg6⟩)) ?_
  rintro _ a6 w6 hf6 ⟨rfl, hE6⟩
  refine wpOpsS_exec (c := c45) gx_ok rfl h7 rfl hf6 (K := fun S' w' => S' = _ ∧ w6 = w') ⟨rfl, rfl⟩ ?_
  rintro _ a7 _ hf7 ⟨rfl, rfl⟩
  unfold wpOpsS
  refine wpS_rest (c := c45) gx_ok rfl hf7 ?_
  refine wif_f rfl ?_
  exact ⟨_, rfl, rfl, hE6⟩
end

section
open Go Go.RowKit

theorem parse_true {nm : List (List Nat)} (hb : NamesOk nm) : (parseP nm trueL).2 = if numsOk nm then 0 else 1 := by
  by_cases h : numsOk nm = true
  · rw [if_pos h, show trueL = prF nm 0 (.c true) from rfl, parse_print h (nmOk_of hb h) (.c true) trivial (by decide)]
  · rw [if_neg h]; unfold parseP; rw [if_neg h]

/-- Segments in memory. -/
structure SgIn (w : World) (k : Nat) (A : Option Addr) (n c : Nat) (sg : List Sg) (L : List DV) : Prop where
  sl : Sl w 6 A n c (sgV sg L)
  n : sg.length = n
  len : L.length = sg.length
  dg : ∀ (j : Nat) (s : Sg) (x : DV), sg[j]? = some s → L[j]? = some x → SB w x.A x.n x.c x.nd ∧ Set1 k x.nd x.r s.o
theorem SgIn.ext {w w' : World} {k : Nat} {A : Option Addr} {n c : Nat} {sg : List Sg} {L : List DV} (h : SgIn w k A n c sg L) (hE : Ext w w') : SgIn w' k A n c sg L := ⟨h.sl.ext hE, h.n, h.len, fun j s x h1 h2 => ⟨(h.dg j s x h1 h2).1.ext hE, (h.dg j s x h1 h2).2⟩⟩
/-- What a source is. -/
structure GsOk (g : Gs) : Prop where
  b8 : ∀ x ∈ g.tx, x < 256
  tl : g.tx.length ≤ 1048576
  sl : g.sg.length ≤ 65536
abbrev srcV (tx : List Nat) (A : Option Addr) (n c : Nat) : Value := .agg #[.string (strOf tx), .slice A n c]
/-- What Read answers. -/
def ReadR (k : Nat) (w : World) (r : Except Pl Gs) (u : Value) (w' : World) : Prop := Ext w w' ∧ match r with
  | .error q => u = .tuple #[srcV [] none 0 0, .agg (plC q).toArray]
  | .ok g => GsOk g ∧ ∃ A c L, u = .tuple #[srcV g.tx A g.sg.length c, .agg (plC ⟨0, 0, 0⟩).toArray] ∧ SgIn w' k A g.sg.length c g.sg L

theorem chkFs_ne : ∀ (l : List (List Nat × List Nat)) (seen : List (List Nat)) (i : Nat) (q : Pl), chkFs l seen i = some q → q.e ≠ 0
  | [], _, _, _, h => by cases h
  | x :: l, seen, i, q, h => by
    unfold chkFs at h
    split at h
    · cases h; exact (by decide : (70 : Int) ≠ 0)
    split at h
    · cases h; exact (by decide : (2 : Int) ≠ 0)
    · exact chkFs_ne l _ _ q h
theorem filesE_ne {fs : List (List Nat × List Nat)} {q : Pl} (h : filesE fs = some q) : q.e ≠ 0 := by
  unfold filesE at h
  split at h
  · cases h; decide
  · exact chkFs_ne _ _ _ _ h
theorem chkFs_ok : ∀ (l : List (List Nat × List Nat)) (seen : List (List Nat)) (i : Nat), chkFs l seen i = none → ∀ x ∈ l, fnameOk x.1 = true ∧ textB x.2 = true ∧ x.2.length ≤ 1048576
  | [], _, _, _, x, hx => by cases hx
  | y :: l, seen, i, h, x, hx => by
    unfold chkFs at h
    split at h
    · cases h
    split at h
    · cases h
    · rename_i h1 h2
      have h1 := Decidable.not_not.1 h1
      rcases List.mem_cons.1 hx with rfl | hx
      · exact ⟨h1.1, h1.2.2, by omega⟩
      · exact chkFs_ok l _ _ h x hx
theorem textB_ok {l : List Nat} (h : textB l = true) : TextOk l := by
  unfold textB at h
  rw [Bool.or_eq_true] at h
  rcases h with h | h
  · exact .inl (of_decide_eq_true h)
  · exact .inr (by simpa using h)
theorem filesE_ok {fs : List (List Nat × List Nat)} (h : filesE fs = none) (hb : ∀ x ∈ fs, FileB x) : fs.length ≤ 256 ∧ ∀ x ∈ fs, FileOk x := by
  unfold filesE at h
  split at h
  · cases h
  · rename_i hl
    refine ⟨by omega, fun x hx => ?_⟩
    obtain ⟨h1, h2, h3⟩ := chkFs_ok _ _ _ h x hx
    have hbx := hb x hx
    exact ⟨hbx.n8, hbx.t8, hbx.nl, h3, textB_ok h2⟩

/-- The world in which the numbers' map is full already. -/
theorem virt {w7 w' : World} {nq : Nat} {m : List (ByteArray × Value)} (h : w7.heap.size = nq + 1) (hm : Mod (· = nq) w7 w') (hq : MapAt strK w' nq m) : ∃ w0, Ext w0 w' ∧ w0.heap.size = nq + 1 ∧ MapAt strK w0 nq m ∧ ∀ w, Ext w w7 → w.heap.size ≤ nq → Ext w w0 := by
  obtain ⟨bs, ck, hl, hb⟩ := hq.ex
  refine ⟨{ w7 with heap := w7.heap.setIfInBounds nq (.map (entsOf strK m bs).toArray ck) }, ⟨hm.os, hm.tape, hm.output, ?_, fun i hi _ => ?_⟩, by simp [h], ⟨bs, ck, hl, ?_⟩, fun w hE hle => ⟨hE.os, hE.tape, hE.output, ?_, fun i hi hn => ?_⟩⟩
  · simpa using hm.size
  · simp only [Array.size_setIfInBounds] at hi
    simp only [Array.getElem?_setIfInBounds]
    by_cases e : nq = i
    · subst e
      rw [if_pos rfl, if_pos (by omega), hb]
    · rw [if_neg e]; exact hm.block i hi (fun e2 => e e2.symm)
  · simp [h]
  · simpa using hE.size
  · simp only [Array.getElem?_setIfInBounds]
    rw [if_neg (by omega)]
    exact hE.block i hi hn

set_option maxHeartbeats 1600000 in
theorem sread_fn (nm : List (List Nat)) (NA : Option Addr) (nn nc : Nat) (fs : List (List Nat × List Nat)) (FA : Option Addr) (nf cf : Nat) (root : List Nat) (w : World) (hN : Sl w 1 NA nn nc (strsV nm)) (hnb : NamesOk nm) (hk : nm.length ≤ 12) (hF : SlS fileC 2 w FA nf cf fs) (hfb : ∀ x ∈ fs, FileB x) (hnf : nf ≤ 1000000000000) (hr8 : ∀ x ∈ root, x < 256) :
    Fn Tryz.prog 16 [.slice NA nn nc, .slice FA nf cf, .string (strOf root)] w (ReadR nm.length w (readE nm fs root)) := by
  refine fn_of_G (c := { c16 with cuts := [] }) gx_ok Tryz.func16 rfl rfl rfl ?_
  refine atG_seq (atG_exec gx_ok ?_)
  refine new (fun w1 hE1 hz1 hB1 => ?_)
  refine new (fun w2 hE2 hz2 hB2 => ?_)
  have hE02 := hE1.trans hE2
  refine atG_seq (atG_exec gx_ok ?_)
  refine call (parse_fn nm NA nn nc trueL w2 (hN.ext hE02) hnb (by decide) (by decide)) ?_
  rintro _ w3 ⟨G, mg, cG, rfl, hE3, hG⟩
  have hE03 := hE02.trans hE3
  have hBs := (hB1.ext hE2).ext hE3
  have hBp := hB2.ext hE3
  have hne : w1.heap.size ≠ w.heap.size := by omega
  have hpt := parse_true hnb
  have hrd : readE nm fs root = if numsOk nm = false then .error ⟨30, -1, 0⟩ else match filesE fs with
    | some p => .error p
    | none => match ixN (fs.map (·.1)) root with
      | none => .error ⟨73, -1, 0⟩
      | some n => rdF nm fs 65 [] 0 n (fun _ => true) ⟨[], [], false⟩ := rfl
  rw [hpt]
  cases hok : numsOk nm with
  | false =>
    rw [if_pos hok] at hrd
    refine wif_net (by decide) ?_
    refine storeN_blk0 hBs rfl (sc rfl) (fun w4 hg4 _ hB4 => ?_)
    have hM4 : Mod (· = w.heap.size) w3 w4 := Mod.of_grown hg4 rfl
    refine storeN_blk0 (hBp.mod hM4 hne) rfl (sc rfl) (fun w5 hg5 _ hB5 => ?_)
    have hM5 : Mod (· = w1.heap.size) w4 w5 := Mod.of_grown hg5 rfl
    refine out0 gx_ok rfl (.inl rfl) ?_
    refine loadN_blk0 (hB4.mod hM5 hne.symm) rfl ?_
    refine loadN_blk0 hB5 rfl ?_
    rw [hrd]
    exact ⟨hM5.ext (hM4.ext hE03 (fun i hi => by omega)) (fun i hi => by omega), rfl⟩
  | true =>
    rw [if_neg (by rw [hok]; decide)] at hrd
    refine wif_nef rfl ?_
    refine atG_seq (atG_exec gx_ok ?_)
    refine call (checkfiles_fn fs FA nf cf w3 (hF.ext hE03) hfb hnf) ?_
    rintro _ w4 ⟨rfl, hE4⟩
    refine new (fun w5 hE5 hz5 hB5 => ?_)
    refine storeN_blk0 hB5 rfl (sc rfl) (fun w6 hg6 _ hB6 => ?_)
    have hE46 : Ext w4 w6 := newBox hE5 hB5 hg6
    have hE36 := hE4.trans hE46
    have hE06 := hE03.trans hE36
    have hBs6 := hBs.ext hE36
    have hBp6 := hBp.ext hE36
    refine load_blk hB6 rfl ?_
    cases hfe : filesE fs with
    | some q =>
      rw [hfe] at hrd hB6
      refine wif_net (filesE_ne hfe) ?_
      have n4 : ¬ w4.heap.size = w.heap.size := by have := hE3.size; have := hE4.size; omega
      have n41 : ¬ w4.heap.size = w1.heap.size := by have := hE4.size; have := hE3.size; omega
      have hd := Ext.drew w6
      refine draw_plan gx_ok (fun w' => Mod (fun i => i = w.heap.size ∨ i = w1.heap.size) w6 w') 4 [(true, 0), (true, 1), (false, 2), (false, 3)] (by kernel_rfl) (Mod.of_ext _ hd) ?_
      refine qloadN (vs := plC q) rfl (fun w' hw' j u hj => by rw [(hB6.mod hw' (fun hh => hh.elim n4 n41)).cell]; exact hj) ?_
      refine storeN_blk0 (hBs6.ext hd) rfl (sc rfl) (fun w7 hg7 _ hB7 => ?_)
      have hM7 : Mod (· = w.heap.size) w6.drew w7 := Mod.of_grown hg7 rfl
      have hM7' : Mod (fun i => i = w.heap.size ∨ i = w1.heap.size) w6 w7 := (Mod.of_ext _ hd).trans hM7 (fun i hi => .inl (.inl hi))
      refine ⟨hM7', ?_⟩
      refine storeN_blk0 ((hBp6.ext hd).mod hM7 hne) rfl (sc rfl) (fun w8 hg8 _ hB8 => ?_)
      have hM8 : Mod (· = w1.heap.size) w7 w8 := Mod.of_grown hg8 rfl
      have hM8' := hM7'.trans hM8 (fun i hi => .inl (.inr hi))
      refine ⟨hM8', ?_⟩
      refine out0 gx_ok rfl (.inl rfl) ?_
      refine loadN_blk0 (hB7.mod hM8 hne.symm) rfl ?_
      refine loadN_blk0 hB8 rfl ?_
      rw [hrd]
      exact ⟨hM8'.ext hE06 (fun i hi => by rcases hi with rfl | rfl <;> omega), rfl⟩
    | none =>
    rw [hfe] at hrd
    refine wif_nef rfl ?_
    obtain ⟨hfl, hfok⟩ := filesE_ok hfe hfb
    have hlen := hF.2
    refine atG_seq (atG_exec gx_ok ?_)
    refine at_makeMap gx_ok strK rfl (fun w7 hE7 hz7 hm7 => ?_)
    refine at_makeMap gx_ok intK rfl (fun w8 hE8 hz8 hm8 => ?_)
    refine new (fun w9 hE9 hz9 hB9 => ?_)
    have hE79 := hE8.trans hE9
    have hE69 := hE7.trans hE79
    have hE09 := hE06.trans hE69
    have hq9 := hm8.ext hE9
    have hn9 := hm7.ext hE79
    have hnames : NamesOk (fs.map (·.1)) := fun s hs => by
      obtain ⟨x, hx, rfl⟩ := List.mem_map.1 hs
      exact ⟨(hfb x hx).n8, (hfb x hx).nl⟩
    have nrq : ¬ w8.heap.size = w6.heap.size := by omega
    refine atG_seq (atG_exec gx_ok ?_)
    refine loop gx_ok [40] (fun i : Nat => [.int .i64 i]) (fun i w' => Mod (· = w6.heap.size) w9 w' ∧ MapAt strK w' w6.heap.size (nameM ((fs.map (·.1)).take i) 0 []) ∧ i ≤ fs.length) (fun i _ => fs.length - i) 0 rfl ⟨Mod.refl _ _, hn9, Nat.zero_le _⟩ ?_
    rintro i w10 ⟨hM10, hm10, hi10⟩
    refine wif_d (fun c2 => ?_) (fun c2 => ?_)
    · have hi : i < nf := by omega
      have hE010 : Ext w w10 := hM10.ext hE09 (fun i hi => by have := hE06.size; omega)
      refine index_sls file_len (hF.ext hE010) rfl hi (fun pp x hx hc => ?_)
      refine loadN_at (vs := fileC x) rfl hc ?_
      refine new (fun w11 hE11 hz11 hB11 => ?_)
      refine storeN_blk0 hB11 rfl (sc rfl) (fun w12 hg12 _ hB12 => ?_)
      have hE1012 : Ext w10 w12 := newBox hE11 hB11 hg12
      have hd := Ext.drew w12
      have hBr := ((hB9.mod hM10 nrq).ext hE1012).ext hd
      refine draw_tail gx_ok 7 (by kernel_rfl) ?_
      refine qload (v := .map (some w6.heap.size)) (fun w' hw' => by subst hw'; rw [hBr.cell]; rfl) ?_
      refine qload (v := .string (strOf x.1)) (fun w' hw' => by subst hw'; rw [(hB12.ext hd).cell]; rfl) ?_
      refine at_mapUpdate (kv := strK) (a := strOf x.1) gx_ok rfl rfl rfl rfl rfl KeyV.str rfl rfl rfl ((hm10.ext hE1012).ext hd) (fun w13 hg13 hz13 hm13 => ?_)
      have hM13 : Mod (· = w6.heap.size) w12.drew w13 := Mod.of_grown hg13 rfl
      refine norm_i64_to ((i + 1 : Nat) : Int) (by show ((i : Nat) : Int) + 1 = _; omega) (by omega) ?_
      refine ⟨i + 1, rfl, ⟨(hM10.trans (Mod.of_ext (· = w6.heap.size) (hE1012.trans hd)) (fun i hi => .inl hi)).trans hM13 (fun i hi => .inl hi), ?_, by omega⟩, by show fs.length - (i + 1) < fs.length - i; omega⟩
      rw [nameM_take (s := x.1) (by rw [List.getElem?_map, hx]; rfl)]
      exact hm13
    have hie : i = fs.length := by omega
    rw [hie, List.take_of_length_le (by simp)] at hm10
    have hM710 : Mod (· = w6.heap.size) w7 w10 := (Mod.of_ext _ hE79).trans hM10 (fun i hi => .inl hi)
    obtain ⟨w0, hw0, hws, hwm, hwe⟩ := virt hz7 hM710 hm10
    have hBr10 := hB9.mod hM10 nrq
    have hlook := ixN_ok hnames root hr8
    have nr6 : ¬ w.heap.size = w6.heap.size := by have := hE36.size; have := hE3.size; omega
    have nr61 : ¬ w1.heap.size = w6.heap.size := by have := hE36.size; have := hE3.size; omega
    have hBs10 := (hBs6.ext hE69).mod hM10 nr6
    have hBp10 := (hBp6.ext hE69).mod hM10 nr61
    have hE010 : Ext w w10 := hM10.ext hE09 (fun i hi => by have := hE06.size; omega)
    refine atG_seq (atG_exec gx_ok ?_)
    refine load_blk hBr10 rfl ?_
    refine at_lookup_ok' (kv := strK) (a := strOf root) (v := .int .i64 ((ixN (fs.map (·.1)) root).getD 0 : Nat)) (b := (ixN (fs.map (·.1)) root).isSome) gx_ok rfl rfl rfl rfl rfl KeyV.str rfl rfl hm10 (by rw [hlook]; cases ixN (fs.map (·.1)) root <;> rfl) (by rw [hlook]; cases ixN (fs.map (·.1)) root <;> rfl) ?_
    refine atG_seq (atG_exec gx_ok ?_)
    cases hix : ixN (fs.map (·.1)) root with
    | none =>
      rw [hix] at hrd
      refine wif_t rfl ?_
      refine storeN_blk0 hBs10 rfl (sc rfl) (fun w11 hg11 _ hB11 => ?_)
      have hM11 : Mod (· = w.heap.size) w10 w11 := Mod.of_grown hg11 rfl
      refine storeN_blk0 (hBp10.mod hM11 hne) rfl (sc rfl) (fun w12 hg12 _ hB12 => ?_)
      have hM12 : Mod (· = w1.heap.size) w11 w12 := Mod.of_grown hg12 rfl
      refine out0 gx_ok rfl (.inl rfl) ?_
      refine loadN_blk0 (hB11.mod hM12 hne.symm) rfl ?_
      refine loadN_blk0 hB12 rfl ?_
      rw [hrd]
      exact ⟨hM12.ext (hM11.ext hE010 (fun i hi => by omega)) (fun i hi => by omega), rfl⟩
    | some n =>
    rw [hix] at hrd
    simp only at hrd
    refine wif_f rfl ?_
    have hnl : n < fs.length := by have := ixN_lt hix; simpa using this
    refine atG_seq (atG_defer gx_ok rfl rfl rfl rfl ⟨_, _, _, _, rfl, rfl, ?_⟩)
    refine atG_seq (atG_exec gx_ok ?_)
    refine call (dconst_fn true w10) ?_
    rintro _ w11 ⟨rfl, hE11⟩
    let p : RP := ⟨w8.heap.size, w7.heap.size, w6.heap.size, NA, nn, nc, nm, FA, nf, cf, fs⟩
    let m : RM := ⟨none, 0, none, 0, [], .pointer none, fun i => i = w.heap.size ∨ i = w1.heap.size⟩
    let v : RV := ⟨0, 0, 0, [], ⟨[], [], false⟩⟩
    have hE60 : Ext w6 w0 := hwe w6 hE7 (Nat.le_refl _)
    have hE00 : Ext w w0 := hE06.trans hE60
    have hP : RPok w0 p := ⟨hN.ext hE00, hnb, hk, hF.ext hE00, hfok, hwm⟩
    have hz11 := hE11.size
    have hz910 := hM10.size
    have h11 : Rr w0 w11 w11.heap.size p m v := by
      refine ⟨hw0.trans hE11, ?_, ?_, ?_, ?_, ?_, Nat.le_refl _, .inl rfl, hBr10.ext hE11, Own.nil _ _ _ _, Own.nil _ _ _ _, rfl, (fun j s x hs => by simp [v] at hs), ?_, (Nat.zero_le _), (Nat.zero_le _), (fun x hx => by cases hx), (fun _ => .inr rfl), (fun i hi => by
        have := hE36.size; have := hE3.size
        rcases hi with hi | hi <;> rw [hi] <;> omega)⟩
      · show w0.heap.size ≤ w8.heap.size; omega
      · show w0.heap.size ≤ w7.heap.size; omega
      · show w8.heap.size < w11.heap.size; omega
      · show w7.heap.size < w11.heap.size; omega
      · show w8.heap.size ≠ w7.heap.size; omega
      · refine ⟨[], (hq9.mod hM10 (by show ¬ w7.heap.size = w6.heap.size; omega)).ext hE11, by simp, fun n => by simp [assoc, v]⟩
    have hk11 : DgO w11 (TS p m) p.nm.length ⟨none, 0, 0, [], 1⟩ (fun _ => true) := ⟨SlS.nil _, const_set _ true, fun ad e => by cases e⟩
    have hws0 : w0.heap.size ≤ w11.heap.size := (hw0.trans hE11).size
    have hout : ∀ i, RS p m i → i = w8.heap.size ∨ i = w7.heap.size := fun i hi => by
      rcases hi with hi | hi | ⟨_, e, _⟩ | ⟨_, e, _⟩
      · exact .inl hi
      · exact .inr hi
      · cases e
      · cases e
    have hBs11 := hBs10.ext hE11
    have hBp11 := hBp10.ext hE11
    have hs36 := hE36.size
    have hs3 := hE3.size
    have keep : ∀ w', Mod (RS p m) w11 w' → Ext w w' ∧ Blk w' w.heap.size 29 (cellsL (.agg #[.string ByteArray.empty, .slice none 0 0])) ∧ Blk w' w1.heap.size 32 (plC ⟨0, 0, 0⟩) := fun w' hm => by
      refine ⟨hm.ext (hE010.trans hE11) (fun i hi => ?_), hBs11.mod hm (fun hi => ?_), hBp11.mod hm (fun hi => ?_)⟩
      · have := hE06.size
        rcases hout i hi with rfl | rfl <;> omega
      · rcases hout _ hi with e | e <;> omega
      · rcases hout _ hi with e | e <;> omega
    refine callP (read_fn w0 w11.heap.size p hP hws0 65 m v n ⟨none, 0, 0, [], 1⟩ (fun _ => true) w11 h11 hk11 hnl (fun hh => by cases hh) (Nat.zero_le _) (Nat.le_refl _)) ?_ ?_
    rotate_left
    · rintro ch w12 ⟨q, hq, rfl, hm12⟩
      have hq : rdF nm fs 65 [] 0 n (fun _ => true) ⟨[], [], false⟩ = .error q := hq
      rw [hq] at hrd
      obtain ⟨hE12, hs12, hp12⟩ := keep w12 hm12
      refine out1p gx_ok rfl rfl (args := #[.pointer (some ⟨w.heap.size, 0, none⟩), .pointer (some ⟨w1.heap.size, 0, none⟩)]) (by simp) ((srec_fn _ _ q w12 _ _ rfl rfl hne.symm hs12 hp12).mono ?_)
      rintro e u' w13 ⟨v, rfl, hs13, hR13⟩
      refine ⟨v, rfl, hs13, ?_⟩
      refine loadN_blk0 hR13.1 rfl ?_
      refine loadN_blk0 hR13.2.1 rfl ?_
      rw [hrd]
      exact ⟨hR13.2.2.ext hE12 (fun i hi => by rcases hi with rfl | rfl <;> omega), rfl⟩
    rintro _ w12 ⟨g', hg', m', hT', h12, hm12, _, _⟩
    have hg' : rdF nm fs 65 [] 0 n (fun _ => true) ⟨[], [], false⟩ = .ok g' := hg'
    rw [hg'] at hrd
    obtain ⟨hE12, hs12, hp12⟩ := keep w12 hm12
    refine atG_seq (atG_exec gx_ok ?_)
    have nb := h12.nrow.2
    have hb12 := h12.rb
    have ht12 := h12.top
    have hrl : ∀ i, rowS m'.BA i → w11.heap.size ≤ i := fun i hi => (h12.txt.rows i hi).1
    have nprs : ¬ (rowS m'.BA w8.heap.size ∨ w8.heap.size = w.heap.size ∨ w8.heap.size = w1.heap.size) := fun hh => by
      rcases hh with hh | hh | hh
      · exact nb hh
      · omega
      · omega
    have hd := Ext.drew w12
    refine draw_plan gx_ok (Mod (fun i => rowS m'.BA i ∨ i = w.heap.size ∨ i = w1.heap.size) w12) 12 [(true, 0), (true, 1), (true, 2), (true, 4), (true, 5), (true, 6), (true, 7), (true, 9), (false, 3), (true, 8), (false, 10), (false, 11)] (by kernel_rfl) (Mod.of_ext _ hd) ?_
    refine qload (v := .slice m'.OA g'.sg.length m'.oc) (fun w' hw' => by rw [(h12.blk.mod hw' nprs).cell]; rfl) ?_
    have htl := h12.tl
    refine call (stringO_fn w11.heap.size w8.heap.size 88 5 (rdC p m' { v with g := g' }) m'.BA m'.bc g'.tx w12.drew (h12.blk.ext hd) rfl (h12.txt.ext hd) h12.b8 (by simp only at htl; omega)) ?_
    rintro _ w13 ⟨rfl, hm13⟩
    have hM13 : Mod (fun i => rowS m'.BA i ∨ i = w.heap.size ∨ i = w1.heap.size) w12 w13 := (Mod.of_ext _ hd).trans hm13 (fun i hi => .inl (.inl hi))
    refine ⟨hM13, ?_⟩
    have nsB : ¬ rowS m'.BA w.heap.size := fun hh => by have := hrl _ hh; omega
    have npB : ¬ rowS m'.BA w1.heap.size := fun hh => by have := hrl _ hh; omega
    refine storeN_blk0 ((hs12.ext hd).mod hm13 nsB) rfl (sc rfl) (fun w14 hg14 _ hB14 => ?_)
    have hM14 : Mod (· = w.heap.size) w13 w14 := Mod.of_grown hg14 rfl
    have hM14' := hM13.trans hM14 (fun i hi => .inl (.inr (.inl hi)))
    refine ⟨hM14', ?_⟩
    refine storeN_blk0 (((hp12.ext hd).mod hm13 npB).mod hM14 hne) rfl (sc rfl) (fun w15 hg15 _ hB15 => ?_)
    have hM15 : Mod (· = w1.heap.size) w14 w15 := Mod.of_grown hg15 rfl
    have hM15' := hM14'.trans hM15 (fun i hi => .inl (.inr (.inr hi)))
    refine ⟨hM15', ?_⟩
    have hBs15 := hB14.mod hM15 hne.symm
    refine atG_exec gx_ok ?_
    refine out1 gx_ok rfl rfl (.inl rfl) (args := #[.pointer (some ⟨w.heap.size, 0, none⟩), .pointer (some ⟨w1.heap.size, 0, none⟩)]) (by simp) ((srec_ret_fn _ _ w15).mono ?_)
    rintro e u' w16 ⟨u, rfl, hs16, hE16⟩
    refine ⟨u, rfl, hs16, ?_⟩
    refine loadN_blk0 (hBs15.ext hE16) rfl ?_
    refine loadN_blk0 (hB15.ext hE16) rfl ?_
    rw [hrd]
    have hE15 : Ext w w15 := hM15'.ext hE12 (fun i hi => by
      rcases hi with hi | rfl | rfl
      · have := hrl _ hi; omega
      · exact Nat.le_refl _
      · omega)
    have nO : ∀ i, rowS m'.OA i → ¬ (rowS m'.BA i ∨ i = w.heap.size ∨ i = w1.heap.size) := fun i hi hh => by
      have := (h12.out.rows i hi).1
      rcases hh with hh | rfl | rfl
      · exact h12.out.apart h12.txt (by decide) hi hh
      · omega
      · omega
    refine ⟨hE15.trans hE16, ⟨h12.b8, h12.tl, h12.sl⟩, m'.OA, m'.oc, m'.L, rfl, SgIn.ext ⟨(h12.out.mod hM15' nO).sl, rfl, h12.len, fun j s x h1 h2 => ?_⟩ hE16⟩
    have hdg := h12.dgs j s x h1 h2
    refine ⟨SB.modo hdg.sb hM15' (fun ad e h0 hh => ?_), hdg.st⟩
    rcases hh with hh | hh | hh
    · exact hdg.off ad e h0 (.inl (.inr (.inr (.inr hh))))
    · exact hdg.off ad e h0 (.inr (by rw [hT']; exact .inl hh))
    · exact hdg.off ad e h0 (.inr (by rw [hT']; exact .inr hh))
end
end Go.Proofs.YtedopgkbajhanaaGreatDoor
