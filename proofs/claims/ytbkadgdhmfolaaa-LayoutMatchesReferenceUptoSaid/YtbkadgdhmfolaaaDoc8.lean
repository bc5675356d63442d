/-
  The reference's writer: the contracts of its methods.
  Conditions: none.
-/
import Derived.Test.YtbkadgdhmfolaaaDoc7
namespace Go.Proofs.Ytbkadgdhmfolaaa
open Go Go.RowKit

structure RH where
  A : Option Addr
  n : Nat
  c : Nat
  B : Option Addr
  m : Nat
  cb : Nat
  F : Option Addr
  mf : Nat
  cf : Nat

def RCells (h : RH) (st : Ws) : List Value := [.slice h.A h.n h.c, .slice h.B h.m h.cb, .slice h.F h.mf h.cf, .string (strOf st.out), .int .i64 st.col, .int .i64 st.pend, .bool st.wrong]
abbrev RW (w : World) (g : Nat) (h : RH) (st : Ws) : Prop := Blk w g 103 (RCells h st)

/-- How many bytes stand behind the last line feed. -/
def tailN (l : List Nat) : Nat := (l.reverse.takeWhile (· != 10)).length
def CI (st : Ws) : Prop := st.col = tailN st.out

theorem takeWhile_app {p : Nat → Bool} : ∀ (l m : List Nat), (∀ x ∈ l, p x = true) → (l ++ m).takeWhile p = l ++ m.takeWhile p
  | [], m, _ => rfl
  | x :: l, m, h => by
    rw [List.cons_append, List.takeWhile_cons, if_pos (h x (by simp)), takeWhile_app l m (fun y hy => h y (by simp [hy]))]
    rfl
theorem tailN_app (l s : List Nat) (h : 10 ∉ s) : tailN (l ++ s) = tailN l + s.length := by
  unfold tailN
  rw [List.reverse_append, takeWhile_app _ _ (fun x hx => by
    have : x ≠ 10 := fun e => h (by rw [← e]; exact List.mem_reverse.1 hx)
    simpa using this)]
  simp [Nat.add_comm]
theorem tailN_feed (l : List Nat) : tailN (l ++ [10]) = 0 := by simp [tailN]

theorem wadd_ci {st : Ws} (h : CI st) {s : List Nat} (hs : 10 ∉ s) : CI (wadd s st) := by
  unfold CI at *
  unfold wadd
  split
  · exact h
  · unfold wput wind
    split
    · rename_i h0
      dsimp only
      rw [List.append_assoc, tailN_app, ← h, h0]
      · simp
      · rw [List.mem_append]
        rintro (hm | hm)
        · have := List.eq_of_mem_replicate hm; omega
        · exact hs hm
    · dsimp only
      rw [tailN_app _ _ hs, ← h]
theorem wfeed_ci (st : Ws) (i : Nat) : CI (wfeed i st) := by
  unfold CI wfeed
  dsimp only
  rw [tailN_feed]

def NoNl : Ft → Prop
  | .text s => 10 ∉ bytesOf s
  | .line s => 10 ∉ bytesOf s
  | .hard => True
  | .seq a b => NoNl a ∧ NoNl b
  | .nest _ a => NoNl a
  | .align a => NoNl a
  | .group a _ => NoNl a

theorem wr_ci : ∀ (t : Ft) (ind : Nat) (flat : Bool) (st : Ws), NoNl t → CI st → CI (wr t ind flat st)
  | .text s, ind, flat, st, hn, h => wadd_ci h hn
  | .line s, ind, flat, st, hn, h => by
    unfold wr; split
    · exact wadd_ci h hn
    · exact wfeed_ci _ _
  | .hard, ind, flat, st, hn, h => wfeed_ci _ _
  | .seq a b, ind, flat, st, hn, h => wr_ci b ind flat _ hn.2 (wr_ci a ind flat st hn.1 h)
  | .nest n a, ind, flat, st, hn, h => wr_ci a (ind + n) flat st hn h
  | .align a, ind, flat, st, hn, h => wr_ci a _ flat st hn h
  | .group a f, ind, flat, st, hn, h => wr_ci a ind (flat || f) st hn h

theorem FT_nonl {d : List Nd} (hd : NodesOk d) (f : Nat → Bool) : ∀ (i : Nat), NoNl (FT d f i) := by
  intro i
  induction i using Nat.strongRecOn with
  | _ i ih =>
    cases hx : d[i]? with
    | none =>
      have : FT d f i = .hard := by unfold FT ftr; simp [hx]
      rw [this]; trivial
    | some x =>
      have hn := hd i x hx
      have har := arI_of (k := x.k)
      rw [FT_eq hd f hx]
      split
      · exact hn.2.1.2.1
      split
      · exact hn.2.1.2.1
      split
      · rename_i h3
        have h4 := har.2.2.2.1 h3
        exact ⟨ih _ (hn.a_lt (by omega)).2, ih _ (hn.b_lt (by omega)).2⟩
      split
      · rename_i h3
        have h4 := har.2.2.2.2.1 h3
        exact ih _ (hn.a_lt (by omega)).2
      split
      · rename_i h3
        have h4 := har.2.2.2.2.2.1 h3
        exact ih _ (hn.a_lt (by omega)).2
      split
      · rename_i h3
        have h4 := har.2.2.2.2.2.2 h3
        exact ih _ (hn.a_lt (by omega)).2
      · trivial

theorem spaces_fn (n : Nat) (w : World) (hn : n ≤ 140737488355328) : Fn Try.prog 74 [.int .i64 n] w (fun v w' => v = .string (strOf (List.replicate n 32)) ∧ Ext w w') := by
  refine fn_of_exec (c := { c74 with cuts := [2] }) gx_ok Try.func74 rfl rfl rfl ?_
  refine at_make gx_ok rfl rfl rfl rfl rfl rfl rfl rfl (by show 1 * n ≤ _; omega) (by unfold maxLen; omega) (fun w1 hE1 hsz1 hB1 => ?_)
  have hB1' : Blk w1 w.heap.size 5 (bytesV (List.replicate 0 32 ++ List.replicate (n - 0) 0)) := by
    have e : List.replicate n (Value.int .u8 0) = bytesV (List.replicate 0 32 ++ List.replicate (n - 0) 0) := by simp [bytesV]
    rw [← e]; exact hB1
  clear hB1
  refine cut0 gx_ok (fun w' => Ext w w' ∧ Blk w' w.heap.size 5 (bytesV (List.replicate n 32))) ?_ ?_
  · refine loop gx_ok [4] (fun s : Nat => [.int .i64 s]) (fun s w' => Ext w w' ∧ s ≤ n ∧ Blk w' w.heap.size 5 (bytesV (List.replicate s 32 ++ List.replicate (n - s) 0))) (fun s _ => n - s) 0 rfl ⟨hE1, Nat.zero_le _, hB1'⟩ ?_
    rintro s w2 ⟨hE2, hs, hB2⟩
    refine wif_d (fun h2 => ?_) (fun h2 => ?_)
    · refine index (by omega) ?_
      refine store_blk hB2 (by rw [bytesV_length]; simp; omega) (fun w3 hg3 hB3 => ?_)
      refine norm_i64_to ((s + 1 : Nat) : Int) (by omega) (by omega) ?_
      refine ⟨s + 1, rfl, ⟨hE2.own hg3 (Nat.le_refl _), by omega, ?_⟩, by show n - (s + 1) < n - s; omega⟩
      have e : (bytesV (List.replicate s 32 ++ List.replicate (n - s) 0)).set s (.int .u8 32) = bytesV (List.replicate (s + 1) 32 ++ List.replicate (n - (s + 1)) 0) := by
        rw [show (Value.int .u8 32) = .int .u8 ((32 : Nat) : Int) from rfl, ← bytesV_set]
        congr 1
        rw [List.set_append_right _ _ (by simp)]
        simp only [List.length_replicate, Nat.sub_self]
        rw [show n - s = (n - (s + 1)) + 1 by omega, List.replicate_succ, List.set_cons_zero, List.replicate_succ', List.append_assoc]
        rfl
      rw [← e]; exact hB3
    · have : s = n := by omega
      subst this
      exact ⟨rfl, hE2, by simpa using hB2⟩
  rintro w2 ⟨hE2, hB2⟩
  have hs2 : Sl w2 1 (some ⟨w.heap.size, 0, none⟩) n n (bytesV (List.replicate n 32)) := Sl.own' hB2 (by simp [bytesV_length]) (by unfold maxLen; omega)
  refine at_str gx_ok rfl rfl rfl rfl rfl rfl rfl rfl hs2 ?_
  exact ⟨rfl, hE2⟩

theorem rline_fn (g : Nat) (h : RH) (st : Ws) (ind : Nat) (w : World) (hb : RW w g h st) (hs : st.out.length + 1 ≤ 140737488355328) :
    Fn Try.prog 65 [.pointer (some ⟨g, 0, none⟩), .int .i64 ind] w (fun _ w' => RW w' g h (wfeed ind st) ∧ Mod (· = g) w w') := by
  refine fn_of_exec (c := c65) gx_ok Try.func65 rfl rfl rfl ?_
  refine load_blk hb rfl ?_
  refine need (by rw [strOf_size]; show _ + 1 ≤ _; unfold maxLen; omega) ?_
  refine store_mod hb (by simp [RCells]) (fun w1 hm1 hB1 => ?_)
  refine store_mod hB1 (by simp [RCells]) (fun w2 hm2 hB2 => ?_)
  refine store_mod hB2 (by simp [RCells]) (fun w3 hm3 hB3 => ?_)
  refine ⟨?_, (hm1.trans hm2 (fun i hi => .inl hi)).trans hm3 (fun i hi => .inl hi)⟩
  have e : strOf st.out ++ ⟨#[10]⟩ = strOf (st.out ++ [10]) := by rw [← strOf_append]; rfl
  show Blk _ _ _ [_, _, _, .string (strOf (st.out ++ [10])), _, _, _]
  rw [← e]
  exact hB3

theorem chosen_fn (g : Nat) (h : RH) (st : Ws) (i : Nat) (G : List Nat) (flat : List Bool) (w : World) (hb : RW w g h st) (hG : Sl w 1 h.B h.m h.cb (natsV G)) (hF : Sl w 1 h.F h.mf h.cf (boolsV flat)) (hl : h.m = h.mf) (hm : h.m ≤ 65536) :
    Fn Try.prog 66 [.pointer (some ⟨g, 0, none⟩), .int .i64 i] w (fun v w' => v = .bool (chF (G.zip flat) i) ∧ w = w') := by
  have hGl : G.length = h.m := by have := hG.len; rw [natsV_length] at this; omega
  have hFl : flat.length = h.mf := by have := hF.len; rw [boolsV_length] at this; omega
  refine fn_of_exec (c := { c66 with cuts := [1] }) gx_ok Try.func66 rfl rfl rfl ?_
  refine cut0 gx_ok (fun w' => w = w' ∧ chF (G.zip flat) i = false) ?_ ?_
  · refine loop gx_ok [5] (fun s : Nat => [.int .i64 s]) (fun s w' => w = w' ∧ s ≤ h.m ∧ chF (G.zip flat) i = chF ((G.zip flat).drop s) i) (fun s _ => h.m - s) 0 rfl ⟨rfl, Nat.zero_le _, rfl⟩ ?_
    rintro s w' ⟨rfl, hs, hc⟩
    refine load_blk hb rfl ?_
    refine wif_d (fun h2 => ?_) (fun h2 => ?_)
    · have hgs : G[s]? = some G[s] := List.getElem?_eq_getElem (by omega)
      have hfs : flat[s]? = some flat[s] := List.getElem?_eq_getElem (by omega)
      have hz : (G.zip flat).drop s = (G[s], flat[s]) :: (G.zip flat).drop (s + 1) := by
        rw [List.drop_eq_getElem_cons (by simp; omega), List.getElem_zip]
      generalize G[s] = j at hgs hz
      generalize flat[s] = b at hfs hz
      refine load_blk hb rfl ?_
      refine index_sl hG (by omega) (fun ad u hA hu hcell => ?_)
      rw [natsV_get hgs] at hu
      cases hu
      refine load hcell ?_
      refine wif_eq (fun h3 => ?_) (fun h3 => ?_)
      · refine load_blk hb rfl ?_
        refine index_sl hF (by omega) (fun ad u hA hu hcell => ?_)
        rw [boolsV_get hfs] at hu
        cases hu
        refine load hcell ?_
        refine ⟨?_, rfl⟩
        rw [hc, hz, chF, if_pos (by omega)]
      · refine norm_i64_to ((s + 1 : Nat) : Int) (by omega) (by omega) ?_
        refine ⟨s + 1, rfl, ⟨rfl, by omega, ?_⟩, by show h.m - (s + 1) < h.m - s; omega⟩
        rw [hc, hz, chF, if_neg (by omega)]
    · refine ⟨rfl, rfl, ?_⟩
      rw [hc, List.drop_of_length_le (by simp; omega)]; rfl
  rintro w' ⟨rfl, hc⟩
  exact ⟨by rw [hc], rfl⟩

theorem tailN_le (l : List Nat) : tailN l ≤ l.length := by
  unfold tailN
  have := (List.takeWhile_prefix (· != 10) (l := l.reverse)).length_le
  simpa using this

theorem rtext_fn (g : Nat) (h : RH) (st : Ws) (s : ByteArray) (w : World) (hb : RW w g h st) (hc : CI st) (hs : 10 ∉ bytesOf s) (h8 : ∀ x ∈ st.out, x < 256) (hl : st.out.length + st.pend + st.col + s.size ≤ 140737488355328) :
    Fn Try.prog 64 [.pointer (some ⟨g, 0, none⟩), .string s] w (fun _ w' => RW w' g h (wadd (bytesOf s) st) ∧ Mod (· = g) w w') := by
  refine fn_of_exec (c := { c64 with cuts := [1] }) gx_ok Try.func64 rfl rfl rfl ?_
  refine wif_d (fun h0 => ?_) (fun h0 => ?_)
  · exact ⟨by rw [wadd, if_pos (bytesOf_nil h0)]; exact hb, Mod.refl _ _⟩
  have hne := bytesOf_ne h0
  have hw1 : wadd (bytesOf s) st = wput (bytesOf s) (wind st) := by rw [wadd, if_neg hne]
  refine cut0 gx_ok (fun w' => Mod (· = g) w w' ∧ Blk w' g 103 (RCells h { wind st with col := st.col })) ?_ ?_
  · refine load_blk hb rfl ?_
    refine wif_eq (fun h1 => ?_) (fun h1 => ?_)
    · have h1' : st.col = 0 := by omega
      refine draw_plan gx_ok (Ext w) 11 [(true, 0), (true, 1), (true, 2), (true, 3), (true, 4), (true, 5), (true, 6), (true, 7), (true, 8), (false, 9), (true, 10)] (by kernel_rfl) (Ext.drew w) ?_
      refine qload (v := .string (strOf st.out)) (fun w' hw' => by rw [(hb.ext hw').cell]; rfl) ?_
      refine qload (v := .int .i64 st.pend) (fun w' hw' => by rw [(hb.ext hw').cell]; rfl) ?_
      refine call (spaces_fn st.pend _ (by omega)) ?_
      rintro v w2 ⟨rfl, hE2⟩
      refine ⟨(Ext.drew w).trans hE2, ?_⟩
      refine need (by rw [strOf_size, strOf_size]; unfold maxLen; simp; omega) ?_
      refine store_mod (hb.ext ((Ext.drew w).trans hE2)) (by simp [RCells]) (fun w3 hm3 hB3 => ?_)
      refine ⟨rfl, (Mod.of_ext (· = g) ((Ext.drew w).trans hE2)).trans hm3 (fun i hi => .inl hi), ?_⟩
      rw [wind, if_pos h1']
      show Blk _ _ _ [_, _, _, .string (strOf (st.out ++ List.replicate st.pend 32)), _, _, _]
      rw [← strOf_append]
      exact hB3
    · have h1' : ¬ st.col = 0 := by omega
      exact ⟨rfl, Mod.refl _ _, by rw [wind, if_neg h1']; exact hb⟩
  rintro w1 ⟨hm1, hB1⟩
  rw [hw1]
  have hc1 : CI (wput (bytesOf s) (wind st)) := by rw [← hw1]; exact wadd_ci hc hs
  have h81 : ∀ x ∈ (wput (bytesOf s) (wind st)).out, x < 256 := by rw [← hw1]; exact wadd_u8 h8 s
  have hlen1 : (wind st).out.length ≤ st.out.length + st.pend := by unfold wind; split <;> simp
  refine load_blk hB1 rfl ?_
  refine need (by rw [strOf_size]; unfold maxLen; dsimp only; omega) ?_
  refine store_mod hB1 (by simp [RCells]) (fun w2 hm2 hB2 => ?_)
  refine store_mod hB2 (by simp [RCells]) (fun w3 hm3 hB3 => ?_)
  have hout : strOf (wind st).out ++ s = strOf (wput (bytesOf s) (wind st)).out := by
    show _ = strOf ((wind st).out ++ bytesOf s)
    rw [← strOf_append, strOf_bytesOf]
  have hB3' : Blk w3 g 103 (RCells h { wput (bytesOf s) (wind st) with col := 0 }) := by
    unfold RCells
    dsimp only
    rw [← hout]
    exact hB3
  have hol : (wput (bytesOf s) (wind st)).out.length ≤ st.out.length + st.pend + s.size := by
    simp only [wput, List.length_append, bytesOf_length]; omega
  generalize wput (bytesOf s) (wind st) = st2 at *
  have hm13 := (hm1.trans hm2 (fun i hi => .inl hi)).trans hm3 (fun i hi => .inl hi)
  clear hB3 hB2 hB1 hm1 hm2 hm3
  refine load_blk hB3' rfl ?_
  refine norm_i64_to ((st2.out.length : Int) - 1) (by show ((strOf st2.out).size : Int) - 1 = _; rw [strOf_size]) (by omega) ?_
  have htl := tailN_le st2.out
  refine loop gx_ok [4] (fun k : Nat => [.int .i64 ((st2.out.length : Int) - 1 - k)]) (fun k w' => Mod (· = g) w w' ∧ Blk w' g 103 (RCells h { st2 with col := k }) ∧ k ≤ st2.out.length ∧ tailN st2.out = k + ((st2.out.reverse.drop k).takeWhile (· != 10)).length) (fun k _ => st2.out.length - k) 0 (by simp; rfl) ⟨hm13, hB3', Nat.zero_le _, by simp [tailN]⟩ ?_
  rintro k w4 ⟨hm4, hB4, hk, htk⟩
  have fin : (st2.out.reverse.drop k).takeWhile (· != 10) = [] → RW w4 g h st2 := fun e => by
    rw [e] at htk
    have : st2.col = k := by rw [hc1, htk]; rfl
    rw [← this] at hB4
    exact hB4
  refine wif_d (fun h2 => ?_) (fun h2 => ?_)
  · refine load_blk hB4 rfl ?_
    have hki : (st2.out.length : Int) - 1 - k = ((st2.out.length - 1 - k : Nat) : Int) := by omega
    rw [hki]
    refine sindex' (by rw [strOf_size]; dsimp only; omega) (fun x hx hx8 => ?_)
    dsimp only at hx
    rw [bytesOf_strOf h81] at hx
    have hdr : st2.out.reverse.drop k = x :: st2.out.reverse.drop (k + 1) := by
      rw [List.drop_eq_getElem_cons (by simp; omega), List.getElem_reverse]
      congr 1
      have := (List.getElem?_eq_some_iff.1 hx).2
      exact this
    refine wif_ne (fun h3 => ?_) (fun h3 => ?_)
    · refine load_blk hB4 rfl ?_
      refine norm_i64_to ((k + 1 : Nat) : Int) (by simp) (by omega) ?_
      refine store_mod hB4 (by simp [RCells]) (fun w5 hm5 hB5 => ?_)
      refine norm_i64_to ((st2.out.length : Int) - 1 - ((k + 1 : Nat) : Int)) (by omega) (by omega) ?_
      refine ⟨k + 1, rfl, ⟨hm4.trans hm5 (fun i hi => .inl hi), hB5, by omega, ?_⟩, by show st2.out.length - (k + 1) < st2.out.length - k; omega⟩
      rw [htk, hdr, List.takeWhile_cons, if_pos (by simp; omega)]
      simp only [List.length_cons]
      omega
    · refine ⟨fin ?_, hm4⟩
      rw [hdr, List.takeWhile_cons, if_neg (by simp; omega)]
  · refine ⟨fin ?_, hm4⟩
    have : k = st2.out.length := by omega
    rw [List.drop_of_length_le (by simp; omega)]; rfl
end Go.Proofs.Ytbkadgdhmfolaaa
