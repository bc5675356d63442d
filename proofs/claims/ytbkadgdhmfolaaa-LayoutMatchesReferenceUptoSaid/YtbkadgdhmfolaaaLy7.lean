/-
  layout: best.
  Conditions: none.
-/
import Derived.Test.YtbkadgdhmfolaaaLr
namespace Go.Proofs.Ytbkadgdhmfolaaa
open Go Go.RowKit

theorem blk_add (a : Addr) (n : Nat) : (a.add n).block = a.block := by unfold Addr.add; split <;> rfl
theorem Sl.mod1 {w w' : World} {mm sz n c : Nat} {A : Option Addr} {cs : List Value} (h : Sl w sz A n c cs) (k : Mod (· = mm) w w') (hn : ¬ rowS A mm) : Sl w' sz A n c cs :=
  ⟨h.len, h.le, h.cap, fun h0 => by
    obtain ⟨ad, rfl, hc⟩ := h.at_ h0
    exact ⟨ad, rfl, fun j u hu => World.grownBy.cell (k.grown (row := some mm) (fun i hi => by rw [hi])) (hc j u hu) (fun e => hn ⟨ad, rfl, by rw [← blk_add ad j]; simpa using e⟩)⟩⟩
theorem SlS.mod1 {α : Type} {f : α → List Value} {w w' : World} {mm sz n c : Nat} {A : Option Addr} {l : List α} (h : SlS f sz w A n c l) (k : Mod (· = mm) w w') (hn : ¬ rowS A mm) : SlS f sz w' A n c l := ⟨h.1.mod1 k hn, h.2⟩

/-- The layouter in memory, with the lists of the nodes' groups and of their hard line breaks. -/
structure LyW (w : World) (g W n : Nat) (d : List Nd) (mm : Nat) (L : List (Sta × Value)) : Prop where
  ex : ∃ A c G cG H cH, LyAt w g (.slice A n c) W (.slice G n cG) (.slice H n cH) (.map (some mm)) ∧ SD w A n c d ∧ Sl w 1 G n cG (natsV ((List.range n).map fun i => ng (T d i))) ∧ Sl w 1 H n cH (boolsV ((List.range n).map fun i => hasHard (T d i)))
  memo : Memo W n d w mm L
  -- the memo's block is none of those that are read
  off : g ≠ mm

/-- A block that no entry of the memo names. -/
def offM (L : List (Sta × Value)) (b : Nat) : Prop := ∀ s, (s, Value.map (some b)) ∉ L
theorem Memo.off {W n : Nat} {d : List Nd} {w : World} {mm b : Nat} {L : List (Sta × Value)} (h : Memo W n d w mm L) (hb : w.heap.size ≤ b) : offM L b := fun s hs => by
  obtain ⟨_, q, m, h2, _, h4, _⟩ := h.ent _ _ hs
  cases h2
  have := h4.lt
  omega
theorem Memo.mod {S : Nat → Prop} {W n : Nat} {d : List Nd} {w w' : World} {mm : Nat} {L : List (Sta × Value)} (h : Memo W n d w mm L) (k : Mod S w w') (hn : ¬ S mm) (ho : ∀ b, S b → offM L b) : Memo W n d w' mm L :=
  ⟨h.map.mod k hn, fun s v hs => by
    obtain ⟨h1, q, m, rfl, h3, h4, h5⟩ := h.ent s v hs
    exact ⟨h1, q, m, rfl, h3, h4.mod k (fun hS => ho q hS s hs), h5⟩⟩
theorem offM.put {L : List (Sta × Value)} {b q : Nat} {s : Sta} (h : offM L b) (hq : q ≠ b) : offM (assocSet s (.map (some q)) L) b := fun s' hs' => by
  rcases mem_assocSet hs' with ⟨_, e⟩ | hs'
  · cases e; exact hq rfl
  · exact h s' hs'

def BestRes (W n : Nat) (d : List Nd) (mm : Nat) (s : Sta) (L : List (Sta × Value)) (w : World) (v : Value) (w' : World) : Prop :=
  ∃ q m L', v = .map (some q) ∧ MapQ plV w' q (toV m) ∧ q ≠ mm ∧ IsBest W (T d s.1) s.2.1 s.2.2 m ∧ Memo W n d w' mm L' ∧ Mod (· = mm) w w' ∧ ∀ b, b < w.heap.size → offM L b → offM L' b ∧ q ≠ b

theorem best_fn (g W n : Nat) (A G H : Option Addr) (c cG cH : Nat) (d : List Nd) (mm : Nat) (hd : NodesOk d) (hW : W ≤ 1000) (hn : n ≤ 65536) (hgm : g ≠ mm) (w0 : World) (hL0 : LyAt w0 g (.slice A n c) W (.slice G n cG) (.slice H n cH) (.map (some mm))) (hS0 : SD w0 A n c d)
    (hG0 : Sl w0 1 G n cG (natsV ((List.range n).map fun i => ng (T d i)))) (hH0 : Sl w0 1 H n cH (boolsV ((List.range n).map fun i => hasHard (T d i)))) (hA : ¬ rowS A mm) (hG : ¬ rowS G mm) (hH : ¬ rowS H mm) :
    ∀ (i : Nat) (ind : Nat) (p : Pl) (L : List (Sta × Value)) (w : World), i < n → Mod (· = mm) w0 w → Memo W n d w mm L → ind + wtT (T d i) ≤ 1000000000000 ∧ p.1 + wtT (T d i) ≤ 1000000000000 ∧ nnT (T d i) ≤ 65536 →
    Fn Try.prog 51 [.pointer (some ⟨g, 0, none⟩), staV (i, ind, p)] w (BestRes W n d mm (i, ind, p) L w) := by
  intro i
  induction i using Nat.strongRecOn with
  | _ i ih =>
    intro ind p L w hi hm0 hM hb
    have hlen := hS0.2
    have hgl := hL0.blk.lt
    have hLw := hL0.blk.mod hm0 hgm
    have hz0 := hm0.size
    refine fn_of_exec (c := { c51 with cuts := [6] }) gx_ok Try.func51 rfl rfl rfl ?_
    refine new (fun w1 hE1 hz1 hB1 => ?_)
    have hq4 : ∀ w', Ext w1 w' → w'.cell? ((⟨g, 0, none⟩ : Addr).add 4) = some (.map (some mm)) := fun w' hw' => by
      rw [((hLw.ext hE1).ext hw').cell]; rfl
    have hqs : ∀ w', Ext w1 w' → ∀ (j : Nat) (v : Value), (cellsL (staV (i, ind, p)))[j]? = some v → w'.cell? ((⟨w.heap.size, 0, none⟩ : Addr).add j) = some v := fun w' hw' j v hj => by
      rw [(hB1.ext hw').cell]; exact hj
    refine draw_plan gx_ok (Ext w1) 11 [(true, 0), (true, 1), (true, 2), (true, 3), (true, 4), (true, 5), (true, 6), (true, 7), (true, 8), (true, 9), (true, 10)] (by kernel_rfl) (Ext.drew w1) ?_
    refine qload hq4 ?_
    refine qloadN (vs := cellsL (staV (i, ind, p))) rfl (fun w' hw' j v hj => hqs w' hw' j v hj) ?_
    refine top_lookupQ_ok (kv := staV) (a := ((i, ind, p) : Sta)) gx_ok rfl rfl rfl rfl staKey rfl rfl (fun w' hw' => ((hM.ext hE1).ext hw').map) rfl ?_
    cases ha : assoc ((i, ind, p) : Sta) L with
    | some v =>
      obtain ⟨_, q, m, rfl, h3, h4, h5⟩ := hM.ent _ _ (assoc_mem ha)
      refine wif_t rfl ?_
      have hE := hE1.trans (Ext.drew w1)
      exact ⟨q, m, L, rfl, h4.ext hE, h3, h5, hM.ext hE, Mod.of_ext _ hE, fun b _ hL => ⟨hL, fun e => hL _ (e ▸ assoc_mem ha)⟩⟩
    | none =>
      refine wif_f rfl ?_
      have hE1d := hE1.trans (Ext.drew w1)
      refine at_makeMapQ gx_ok plV rfl ?_
      intro w2 hE2 hz2 hO2
      have hE02 := hE1d.trans hE2
      have hS2 := (hS0.mod1 hm0 hA).ext hE02
      have hL2 := hLw.ext hE02
      have hSt2 := (hB1.ext (Ext.drew w1)).ext hE2
      have hx : d[i]? = some d[i] := List.getElem?_eq_getElem (by omega)
      refine draw_plan gx_ok (Ext w2) 10 [(true, 0), (true, 1), (true, 2), (true, 3), (true, 4), (true, 5), (true, 6), (true, 7), (false, 8), (false, 9)] (by kernel_rfl) (Ext.drew w2) ?_
      refine qload (fun w' hw' => by rw [(hL2.ext hw').cell]; rfl) ?_
      refine qload (v := .int .i64 i) (fun w' hw' => by rw [(hSt2.ext hw').cell]; rfl) ?_
      refine index_sls nd_len hS2 rfl hi (fun ad x hx hc => ?_)
      refine qloadN (vs := x.cells) rfl (fun w' hw' j v hj => hw'.cell (hc j v hj)) ?_
      refine new (fun w3 hE3 hz3 hB3 => ?_)
      have hE23 := (Ext.drew w2).trans hE3
      refine ⟨hE23, ?_⟩
      refine storeN_blk0 hB3 rfl (by simp [Nd.cells, scalar]) (fun w4 hg4 _ hX => ?_)
      have hE24 := (Ext.drew w2).trans (newBox hE3 hB3 hg4)
      refine ⟨hE24, ?_⟩
      have hnx := hd i x hx
      have hkd := arI_kind hnx.1
      have har := arI_of (k := x.k)
      have hT := T_eq hd hx
      have hE04 := hE02.trans hE24
      have hO4 := hO2.ext hE24
      have hSt4 := hSt2.ext hE24
      have hM4 := hM.ext hE04
      refine cutIn [] gx_ok [7] (fun q : Nat => [.map (some q)]) (fun q w' => ∃ m L', MapQ plV w' q (toV m) ∧ q ≠ mm ∧ IsBest W (T d i) ind p m ∧ Memo W n d w' mm L' ∧ Mod (· = mm) w w' ∧ Blk w' w.heap.size 96 (cellsL (staV (i, ind, p))) ∧ ∀ b, b < w.heap.size → offM L b → offM L' b ∧ q ≠ b) ?_ ?_
      · have qp : ∀ (w' : World), Ext w4 w' → ∀ {K : List Value → Prop}, K (cellsL (plV p)) → LoadN w' ((⟨w.heap.size, 0, none⟩ : Addr).add 2) 2 K := fun w' hw' {K} k =>
          loadN_blk (vs := cellsL (plV p)) (hSt4.ext hw') rfl (fun j v hj => by
            match j, hj with
            | 0, hj => exact hj
            | 1, hj => exact hj
            | k + 2, hj => simp [plV, cellsL] at hj) k
        have hLy4 : LyAt w4 g (.slice A n c) W (.slice G n cG) (.slice H n cH) (.map (some mm)) := ⟨hL2.ext hE24⟩
        have hmmq : w1.drew.heap.size ≠ mm := by
          have h1 := (hM.ext hE1d).map.lt
          omega
        have hqo : ∀ b, b < w.heap.size → w1.drew.heap.size ≠ b := fun b hb => by
          have := hE1d.size
          omega
        refine load_blk hX rfl ?_
        refine wif_eq (fun k0 => ?_) (fun k0 => ?_)
        · rw [if_pos k0] at hT
          have hwt : wtT (T d i) = (bytesOf x.t).length := by rw [hT]; rfl
          rw [bytesOf_length] at hwt
          refine qp w4 (Ext.refl _) ?_
          refine load_blk hX rfl ?_
          refine call (write_fn2 g W _ _ _ _ p x.t w4 hLy4 hW (by omega) (by omega)) ?_
          rintro v w5 ⟨rfl, hE5⟩
          refine new (fun w6 hE6 hz6 hB6 => ?_)
          refine new (fun w7 hE7 hz7 hB7 => ?_)
          refine storeN_blk0 (hB6.ext hE7) rfl (by simp [scalar]) (fun w8 hg8 _ hB8 => ?_)
          have hm8 : Mod (· = w5.heap.size) w7 w8 := Mod.of_grown hg8 rfl
          refine storeN_blk0 (hB7.mod hm8 (by omega)) rfl (sc rfl) (fun w9 hg9 _ hB9 => ?_)
          have hm9 : Mod (· = w6.heap.size) w8 w9 := Mod.of_grown hg9 rfl
          have hz56 := hE6.size
          have hE59 : Ext w5 w9 := hm9.ext (hm8.ext (hE6.trans hE7) (fun i hi => by omega)) (fun i hi => by omega)
          have hE49 := hE5.trans hE59
          refine loadN_blk0 (hB8.mod hm9 (by omega)) rfl ?_
          refine loadN_blk0 hB9 rfl ?_
          refine at_mapUpdateQ (kv := plV) (a := (plW W p x.t.size).1) (v := rsV ⟨(plW W p x.t.size).2, 0, []⟩) gx_ok rfl rfl rfl rfl plKey rfl rfl rfl (hO4.ext hE49) (fun w10 hm10 _ hO10 => ?_)
          have hm : Mod (· = mm) w w10 := Mod.of_ext _ (hm10.ext (hE04.trans hE49) (fun i hi => by have := hE1d.size; omega))
          refine ⟨w1.drew.heap.size, rfl, [((plW W p x.t.size).1, ⟨(plW W p x.t.size).2, 0, []⟩)], L, hO10, hmmq, ?_, ?_, hm, ?_, fun b hb hL => ⟨hL, hqo b hb⟩⟩
          · have := IsBest.leaf (W := W) (t := T d i) (ind := ind) (p := p) (by rw [hT]; rfl)
            rw [hT] at this ⊢
            simp only [runT, resR, bytesOf_length] at this
            exact this
          · exact hM.ext (hm10.ext (hE04.trans hE49) (fun i hi => by have := hE1d.size; omega))
          · exact (hSt4.ext hE49).mod hm10 (by have := (Ext.drew w1).size; omega)
        rw [if_neg k0] at hT
        refine wif_eq (fun k1 => ?_) (fun k1 => ?_)
        · rw [if_pos k1] at hT
          refine load_blk hSt4 rfl ?_
          refine at_mapUpdateQ (kv := plV) (a := ((ind, false) : Pl)) (v := rsV ⟨0, 1, []⟩) gx_ok rfl rfl rfl rfl plKey rfl rfl rfl hO4 (fun w10 hm10 _ hO10 => ?_)
          have hE10 : Ext w w10 := hm10.ext hE04 (fun i hi => by have := hE1d.size; omega)
          refine ⟨w1.drew.heap.size, rfl, [((ind, false), ⟨0, 1, []⟩)], L, hO10, hmmq, ?_, hM.ext hE10, Mod.of_ext _ hE10, hSt4.mod hm10 (by have := (Ext.drew w1).size; omega), fun b hb hL => ⟨hL, hqo b hb⟩⟩
          have := IsBest.leaf (W := W) (t := T d i) (ind := ind) (p := p) (by rw [hT]; rfl)
          rw [hT] at this ⊢
          exact this
        rw [if_neg k1] at hT
        refine wif_eq (fun k2 => ?_) (fun k2 => ?_)
        · rw [if_neg (by omega), if_neg (by omega), if_neg (by omega), if_neg (by omega)] at hT
          refine load_blk hSt4 rfl ?_
          refine at_mapUpdateQ (kv := plV) (a := ((ind, false) : Pl)) (v := rsV ⟨0, 1, []⟩) gx_ok rfl rfl rfl rfl plKey rfl rfl rfl hO4 (fun w10 hm10 _ hO10 => ?_)
          have hE10 : Ext w w10 := hm10.ext hE04 (fun i hi => by have := hE1d.size; omega)
          refine ⟨w1.drew.heap.size, rfl, [((ind, false), ⟨0, 1, []⟩)], L, hO10, hmmq, ?_, hM.ext hE10, Mod.of_ext _ hE10, hSt4.mod hm10 (by have := (Ext.drew w1).size; omega), fun b hb hL => ⟨hL, hqo b hb⟩⟩
          have := IsBest.leaf (W := W) (t := T d i) (ind := ind) (p := p) (by rw [hT]; rfl)
          rw [hT] at this ⊢
          exact this
        refine wif_eq (fun k3 => ?_) (fun k3 => ?_)
        · rw [if_pos k3] at hT
          have ha := hnx.a_lt (by have := har.2.2.2.1 k3; omega)
          have hbb := hnx.b_lt (by have := har.2.2.2.1 k3; omega)
          have hai : x.a = ((x.a.toNat : Nat) : Int) := by omega
          have hbi : x.b = ((x.b.toNat : Nat) : Int) := by omega
          rw [hT] at hb
          simp only [wtT, nnT] at hb
          refine load_blk hX rfl ?_
          refine load_blk hSt4 rfl ?_
          refine qp w4 (Ext.refl _) ?_
          have hf := ih x.a.toNat ha.2 ind p L w4 (by omega) (hm0.trans (Mod.of_ext (· = mm) hE04) (fun i hi => .inl hi)) hM4 (by omega)
          unfold staV at hf
          rw [← hai] at hf
          refine call hf ?_
          rintro v w5 ⟨q', m', L', rfl, hO5, hq5, hB5, hM5, hm5, hoff5⟩
          dsimp only at hB5
          have hsz5 := hm5.size
          have hsz4 := hE04.size
          have hsz1 := hE1d.size
          have hz1d := (Ext.drew w1).size
          have hz2d := (Ext.drew w2).size
          have hql := hO4.lt
          have hmml := hM.map.lt
          have hLq : offM L w1.drew.heap.size := hM.off (by omega)
          have hoq := hoff5 _ hql hLq
          have hm05 : Mod (· = mm) w w5 := (Mod.of_ext (· = mm) hE04).trans hm5 (fun i hi => .inl hi)
          refine at_rangeQ gx_ok rfl rfl rfl rfl hO5 (fun w6 hE6 hz6 hR6 => ?_)
          have hitq : w5.heap.size ≠ q' := by have := hO5.lt; omega
          have hm46 : Mod (· = mm) w4 w6 := hm5.trans (Mod.of_ext (fun _ => False) hE6) (fun i hi => hi.elim)
          refine loop gx_ok [] (fun _ : List (Pl × Rs) × List (Pl × Rs) × List (Pl × Rs) × List (Sta × Value) => []) (fun t w' => Mod (fun i => i = mm ∨ i = w5.heap.size ∨ i = w1.drew.heap.size) w6 w' ∧ (∃ cur, RangeQ plV w' w5.heap.size q' (toV m') (toV t.1) cur) ∧ MapQ plV w' w1.drew.heap.size (toV t.2.2.1) ∧ SeqInv W (T d x.a.toNat) (T d x.b.toNat) ind p t.2.1 t.2.2.1 ∧ (t.2.1 ++ t.1).Perm m' ∧ Memo W n d w' mm t.2.2.2 ∧
            (∀ b, b < w.heap.size → offM L b → offM t.2.2.2 b) ∧ offM t.2.2.2 w1.drew.heap.size ∧ offM t.2.2.2 w5.heap.size) (fun t _ => t.1.length) (m', [], [], L') rfl ⟨Mod.refl _ _, ⟨_, hR6⟩, (hO4.mod hm5 hmmq).ext hE6, SeqInv.nil _ _ _ _ _, List.Perm.refl _, hM5.ext hE6, fun b hb hL => (hoff5 b (by omega) hL).1, hoq.1, hM5.off (Nat.le_refl _)⟩ ?_
          rintro ⟨Lc, dn, mo, Lm⟩ w7 ⟨hm7, ⟨cur, hR7⟩, hO7, hI7, hP7, hM7, hof7, hoo7, hoi7⟩
          dsimp only at hR7 hO7 hI7 hP7 hM7 hof7 hoo7 hoi7
          have hm47 : Mod (fun i => i = mm ∨ i = w1.drew.heap.size) w4 w7 := (hm46.mono (S' := fun i => i = mm ∨ i = w1.drew.heap.size) (fun i hi => .inl (.inl hi))).trans hm7 (fun i hi => by
            rcases hi with rfl | rfl | rfl
            · exact .inl (.inl rfl)
            · exact .inr hsz5
            · exact .inl (.inr rfl))
          have hm07 : Mod (· = mm) w w7 := (Mod.of_ext (· = mm) hE04).trans hm47 (fun i hi => by
            rcases hi with rfl | rfl
            · exact .inl rfl
            · exact .inr hsz1)
          have hSt7 := hSt4.mod hm47 (by omega)
          have hX7 := hX.mod hm47 (by omega)
          refine at_nextQ gx_ok rfl rfl hR7 hitq (fun hnil => ?_) (fun L1 pv L2 w8 hsp hm8 hz8 hR8 => ?_)
          · have hL0 := toV_nil hnil
            subst hL0
            have hPm : dn.Perm m' := by simpa using hP7
            refine wif_f rfl ?_
            refine ⟨w1.drew.heap.size, rfl, mo, Lm, hO7, hmmq, ?_, hM7, hm07, hSt7, fun b hb hL => ⟨hof7 b hb hL, hqo b hb⟩⟩
            rw [hT]
            exact hI7.best hB5 (fun y hy => hPm.mem_iff.2 hy)
          · obtain ⟨M1, xx, M2, rfl, rfl, rfl, rfl⟩ := toV_split hsp
            rw [toV_app] at hR8
            have hP8 := perm_shift hP7
            have hxm : xx ∈ m' := hP7.subset (by simp)
            have hlim := hB5.lim (by omega) hxm
            refine wif_t rfl ?_
            refine at_entryQ gx_ok rfl rfl hR8 ?_
            refine new (fun w9 hE9 hz9 hB9 => ?_)
            refine new (fun w10 hE10 hz10 hB10 => ?_)
            refine storeN_blk0 (hB9.ext hE10) rfl (by simp [scalar]) (fun w11 hg11 _ hB11 => ?_)
            have hm11 : Mod (· = w8.heap.size) w10 w11 := Mod.of_grown hg11 rfl
            refine storeN_blk0 (hB10.mod hm11 (by omega)) rfl (by simp [scalar]) (fun w12 hg12 _ hB12 => ?_)
            have hm12 : Mod (· = w9.heap.size) w11 w12 := Mod.of_grown hg12 rfl
            have hz89 := hE9.size
            have hE812 : Ext w8 w12 := hm12.ext (hm11.ext (hE9.trans hE10) (fun i hi => by omega)) (fun i hi => by omega)
            have hB11' := hB11.mod hm12 (by omega)
            have hz67 := hm7.size
            have hz78 := hm8.size
            have hz812 := hE812.size
            have hlt11 := hB11'.lt
            have hlt12 := hB12.lt
            have hm712 : Mod (· = w5.heap.size) w7 w12 := hm8.trans (Mod.of_ext (fun _ => False) hE812) (fun i hi => hi.elim)
            refine load_blk (hX7.mod hm712 (by omega)) rfl ?_
            refine load_blk (hSt7.mod hm712 (by omega)) rfl ?_
            refine loadN_blk0 hB11' rfl ?_
            have hM12 := hM7.mod hm712 (by have := hM5.map.lt; omega) (fun b hb => hb ▸ hoi7)
            have hm012 : Mod (· = mm) w w12 := hm07.trans hm712 (fun i hi => .inr (by omega))
            have hf2 := ih x.b.toNat hbb.2 ind xx.1 Lm w12 (by omega) (hm0.trans hm012 (fun i hi => .inl hi)) hM12 (by split at hlim <;> omega)
            unfold staV at hf2
            rw [← hbi] at hf2
            refine call hf2 ?_
            rintro v w13 ⟨qb, mb, Lb, rfl, hO13, hq13, hB13, hM13, hm13, hoff13⟩
            dsimp only at hB13
            have hz1213 := hm13.size
            have hoo13 := hoff13 w1.drew.heap.size (by omega) hoo7
            have hoi13 := hoff13 w5.heap.size (by omega) hoi7
            refine at_rangeQ gx_ok rfl rfl rfl rfl hO13 (fun w14 hE14 hz14 hR14 => ?_)
            have hitb : w13.heap.size ≠ qb := by have := hO13.lt; omega
            have hmmlt := hM5.map.lt
            have hO14 := (((hO7.mod hm712 (by omega)).mod hm13 hmmq).ext hE14)
            refine loop gx_ok [] (fun _ : List (Pl × Rs) × List (Pl × Rs) × List (Pl × Rs) => []) (fun t w' => Mod (fun i => i = w13.heap.size ∨ i = w1.drew.heap.size) w14 w' ∧ (∃ cur, RangeQ plV w' w13.heap.size qb (toV mb) (toV t.1) cur) ∧ MapQ plV w' w1.drew.heap.size (toV t.2.2) ∧ SeqIn W (T d x.a.toNat) (T d x.b.toNat) ind p dn xx.1 xx.2 t.2.1 t.2.2 ∧ (t.2.1 ++ t.1).Perm mb) (fun t _ => t.1.length) (mb, [], mo) rfl ⟨Mod.refl _ _, ⟨_, hR14⟩, hO14, SeqIn.start hI7, List.Perm.refl _⟩ ?_
            rintro ⟨Ld, db, mp⟩ w15 ⟨hm15, ⟨cur2, hR15⟩, hO15, hI15, hP15⟩
            dsimp only at hR15 hO15 hI15 hP15
            have hz1415 := hm15.size
            refine at_nextQ gx_ok rfl rfl hR15 hitb (fun hnil => ?_) (fun L1 pv L2 w16 hsp hm16 hz16 hR16 => ?_)
            · have hL0 := toV_nil hnil
              subst hL0
              have hPm : db.Perm mb := by simpa using hP15
              refine wif_f rfl ?_
              have hm1315 : Mod (· = w1.drew.heap.size) w13 w15 := (Mod.of_ext (· = w1.drew.heap.size) hE14).trans hm15 (fun i hi => by
                rcases hi with rfl | rfl
                · exact .inr (Nat.le_refl _)
                · exact .inl rfl)
              refine ⟨(M1 ++ M2, xx :: dn, mp, Lb), rfl, ⟨?_, ⟨_, (((hR8.ext hE812).mod hm13 (by omega) hq5).mod hm1315 (by omega) hoq.2)⟩, hO15, hI15.done hB13 (fun y hy => hPm.mem_iff.2 hy), hP8.2, hM13.mod hm1315 (fun e => hmmq e.symm) (fun b hb => hb ▸ hoo13.1), fun b hb hL => (hoff13 b (by omega) (hof7 b hb hL)).1, hoo13.1, hoi13.1⟩, ?_⟩
              · exact ((hm7.trans hm712 (fun i hi => .inl (.inr (.inl hi)))).trans hm13 (fun i hi => .inl (.inl hi))).trans hm1315 (fun i hi => .inl (.inr (.inr hi)))
              · show (M1 ++ M2).length < (M1 ++ xx :: M2).length
                simp
            · obtain ⟨N1, yy, N2, rfl, rfl, rfl, rfl⟩ := toV_split hsp
              rw [toV_app] at hR16
              have hP16 := perm_shift hP15
              have hym : yy ∈ mb := hP15.subset (by simp)
              have hlim2 := hB13.lim (by split at hlim <;> omega) hym
              refine wif_t rfl ?_
              refine at_entryQ gx_ok rfl rfl hR16 ?_
              refine new (fun w17 hE17 hz17 hB17 => ?_)
              refine new (fun w18 hE18 hz18 hB18 => ?_)
              refine storeN_blk0 (hB17.ext hE18) rfl (by simp [scalar]) (fun w19 hg19 _ hB19 => ?_)
              have hm19 : Mod (· = w16.heap.size) w18 w19 := Mod.of_grown hg19 rfl
              refine storeN_blk0 (hB18.mod hm19 (by omega)) rfl (by simp [scalar]) (fun w20 hg20 _ hB20 => ?_)
              have hm20 : Mod (· = w17.heap.size) w19 w20 := Mod.of_grown hg20 rfl
              have hz1617 := hE17.size
              have hE1620 : Ext w16 w20 := hm20.ext (hm19.ext (hE17.trans hE18) (fun i hi => by omega)) (fun i hi => by omega)
              have hB19' := hB19.mod hm20 (by omega)
              have hm1216 : Mod (fun i => i = mm ∨ i = w13.heap.size ∨ i = w1.drew.heap.size) w12 w16 := ((hm13.mono (S' := fun i => i = mm ∨ i = w13.heap.size ∨ i = w1.drew.heap.size) (fun i hi => .inl (.inl hi))).trans (Mod.of_ext (fun _ => False) hE14) (fun i hi => hi.elim)).trans (hm15.trans hm16 (fun i hi => .inl (.inl hi))) (fun i hi => .inl (.inr hi))
              have hm1220 : Mod (fun i => i = mm ∨ i = w13.heap.size ∨ i = w1.drew.heap.size) w12 w20 := hm1216.trans (Mod.of_ext (fun _ => False) hE1620) (fun i hi => hi.elim)
              have hA20 := hB12.mod hm1220 (by omega)
              refine load_blk2 hA20 rfl ?_
              refine load_blk2 hB20 rfl ?_
              refine norm_i64_to ((xx.2.b + yy.2.b : Nat) : Int) (by omega) (by omega) ?_
              refine load_blk2 hA20 rfl ?_
              refine load_blk2 hB20 rfl ?_
              refine norm_i64_to ((xx.2.l + yy.2.l : Nat) : Int) (by omega) (by omega) ?_
              refine new (fun w21 hE21 hz21 hB21 => ?_)
              refine storeN_blk0 hB21 rfl (sc rfl) (fun w22 hg22 _ hB22 => ?_)
              have hE2022 := newBox hE21 hB21 hg22
              refine loadN_blk0 (hB19'.ext hE2022) rfl ?_
              refine loadN_blk0 hB22 rfl ?_
              refine load_blk (hA20.ext hE2022) rfl ?_
              refine load_blk (hB20.ext hE2022) rfl ?_
              have hga := ng_nn (T d x.a.toNat)
              have hgb := ng_nn (T d x.b.toNat)
              refine need (by rw [strOf_size, strOf_size, chB_len, chB_len, hlim.2.2.2, hlim2.2.2.2]; unfold maxLen; omega) ?_
              have hE1622 := hE1620.trans hE2022
              have hkp := keep_fn w1.drew.heap.size yy.1 (addR xx.2 yy.2) mp w22 ((hO15.mod hm16 (by omega)).ext hE1622)
              rw [← addR_v] at hkp
              refine call hkp ?_
              rintro v w23 ⟨hO23, hm23⟩
              refine ⟨(N1 ++ N2, yy :: db, kpM yy.1 (addR xx.2 yy.2) mp), rfl, ⟨?_, ⟨_, (hR16.ext hE1622).mod hm23 (by omega) (fun e => (hoff13 w1.drew.heap.size (by omega) hoo7).2 e)⟩, hO23, hI15.step hB5 hxm hB13 hym, hP16.2⟩, ?_⟩
              · exact ((hm15.trans hm16 (fun i hi => .inl (.inl hi))).trans (Mod.of_ext (fun _ => False) hE1622) (fun i hi => hi.elim)).trans hm23 (fun i hi => .inl (.inr hi))
              · show (N1 ++ N2).length < (N1 ++ yy :: N2).length
                simp
        rw [if_neg k3] at hT
        refine wif_eq (fun k4 => ?_) (fun k4 => ?_)
        · rw [if_pos k4] at hT
          have ha := hnx.a_lt (by have := har.2.2.2.2.1 k4; omega)
          have hnn := hnx.2.1.2.2.2
          have hai : x.a = ((x.a.toNat : Nat) : Int) := by omega
          have hni : x.n = ((x.n.toNat : Nat) : Int) := by omega
          rw [hT] at hb
          simp only [wtT, nnT] at hb
          refine load_blk hX rfl ?_
          refine load_blk hSt4 rfl ?_
          refine load_blk hX rfl ?_
          refine norm_i64_to ((ind + x.n.toNat : Nat) : Int) (by dsimp only; omega) (by omega) ?_
          refine qp w4 (Ext.refl _) ?_
          have hf := ih x.a.toNat ha.2 (ind + x.n.toNat) p L w4 (by omega) (hm0.trans (Mod.of_ext (· = mm) hE04) (fun i hi => .inl hi)) hM4 (by omega)
          unfold staV at hf
          rw [← hai] at hf
          refine call hf ?_
          rintro v w5 ⟨q, m, L', rfl, hO5, hq5, hB5, hM5, hm5, hoff5⟩
          refine ⟨q, rfl, m, L', hO5, hq5, by rw [hT]; exact hB5.nest, hM5, (Mod.of_ext (· = mm) hE04).trans hm5 (fun i hi => .inl hi), hSt4.mod hm5 (by have := hM.map.lt; omega), fun b hb hL => hoff5 b (by have := hE04.size; omega) hL⟩
        rw [if_neg k4] at hT
        refine wif_eq (fun k5 => ?_) (fun k5 => ?_)
        · rw [if_pos k5] at hT
          have ha := hnx.a_lt (by have := har.2.2.2.2.2.1 k5; omega)
          have hai : x.a = ((x.a.toNat : Nat) : Int) := by omega
          rw [hT] at hb
          simp only [wtT, nnT] at hb
          refine load_blk hX rfl ?_
          refine load_blk2 hSt4 rfl ?_
          refine qp w4 (Ext.refl _) ?_
          have hf := ih x.a.toNat ha.2 p.1 p L w4 (by omega) (hm0.trans (Mod.of_ext (· = mm) hE04) (fun i hi => .inl hi)) hM4 (by omega)
          unfold staV at hf
          rw [← hai] at hf
          refine call hf ?_
          rintro v w5 ⟨q, m, L', rfl, hO5, hq5, hB5, hM5, hm5, hoff5⟩
          refine ⟨q, rfl, m, L', hO5, hq5, by rw [hT]; exact hB5.align, hM5, (Mod.of_ext (· = mm) hE04).trans hm5 (fun i hi => .inl hi), hSt4.mod hm5 (by have := hM.map.lt; omega), fun b hb hL => hoff5 b (by have := hE04.size; omega) hL⟩
        rw [if_neg k5] at hT
        have k6 : x.k = 6 := by
          rcases arI_kind hnx.1 with h | h | h | h | h | h | h
          · exact absurd h k0
          · exact absurd h k1
          · exact absurd h k2
          · exact absurd h k3
          · exact absurd h k4
          · exact absurd h k5
          · exact h
        rw [if_pos k6] at hT
        refine wif_eqt k6 ?_
        have ha := hnx.a_lt (by have := har.2.2.2.2.2.2 k6; omega)
        have hai : x.a = ((x.a.toNat : Nat) : Int) := by omega
        rw [hT] at hb
        simp only [wtT, nnT] at hb
        refine load_blk hX rfl ?_
        refine load_blk hSt4 rfl ?_
        refine qp w4 (Ext.refl _) ?_
        have hf := ih x.a.toNat ha.2 ind p L w4 (by omega) (hm0.trans (Mod.of_ext (· = mm) hE04) (fun i hi => .inl hi)) hM4 (by omega)
        unfold staV at hf
        rw [← hai] at hf
        refine call hf ?_
        rintro v w5 ⟨q', m', L', rfl, hO5, hq5, hB5, hM5, hm5, hoff5⟩
        have hsz5 := hm5.size
        have hsz4 := hE04.size
        have hql := hO4.lt
        have hLq : offM L w1.drew.heap.size := hM.off (by have := hE1d.size; omega)
        have hoq := hoff5 _ hql hLq
        have hOut5 := hO4.mod hm5 hmmq
        have hm05 : Mod (· = mm) w w5 := (Mod.of_ext (· = mm) hE04).trans hm5 (fun i hi => .inl hi)
        refine at_rangeQ gx_ok rfl rfl rfl rfl hO5 (fun w6 hE6 hz6 hR6 => ?_)
        have hitq : w5.heap.size ≠ q' := by have := hO5.lt; omega
        refine loop gx_ok [] (fun _ : List (Pl × Rs) × List (Pl × Rs) × List (Pl × Rs) => []) (fun t w' => Mod (fun i => i = w5.heap.size ∨ i = w1.drew.heap.size) w6 w' ∧ (∃ cur, RangeQ plV w' w5.heap.size q' (toV m') (toV t.1) cur) ∧ MapQ plV w' w1.drew.heap.size (toV t.2.2) ∧ GrpInv t.2.1 t.2.2 ∧ (t.2.1 ++ t.1).Perm m') (fun t _ => t.1.length) (m', [], []) rfl ⟨Mod.refl _ _, ⟨_, hR6⟩, hOut5.ext hE6, GrpInv.nil, List.Perm.refl _⟩ ?_
        rintro ⟨Lc, dn, mo⟩ w7 ⟨hm7, ⟨cur, hR7⟩, hO7, hG7, hP7⟩
        dsimp only at hR7 hO7 hG7 hP7
        refine at_nextQ gx_ok rfl rfl hR7 hitq (fun hnil => ?_) (fun L1 pv L2 w8 hsp hm8 hz8 hR8 => ?_)
        · have hL0 := toV_nil hnil
          subst hL0
          have hPm : dn.Perm m' := by simpa using hP7
          have hm47 : Mod (fun i => i = mm ∨ i = w1.drew.heap.size) w4 w7 := (hm5.trans (Mod.of_ext (· = mm) hE6) (fun i hi => .inl hi)).mono (S' := fun i => i = mm ∨ i = w1.drew.heap.size) (fun i hi => .inl (.inl hi)) |>.trans hm7 (fun i hi => by
            rcases hi with rfl | rfl
            · exact .inr hsz5
            · exact .inl (.inr rfl))
          have hm07 : Mod (· = mm) w w7 := (Mod.of_ext (· = mm) hE04).trans hm47 (fun i hi => by
            rcases hi with rfl | rfl
            · exact .inl rfl
            · exact .inr (by have := hE1d.size; omega))
          have hLy7 := hLw.mod hm07 hgm
          have hSt7 := hSt4.mod hm47 (by have := hM.map.lt; have := (Ext.drew w1).size; omega)
          have hX7 := hX.mod hm47 (by have := hM.map.lt; have := (Ext.drew w2).size; have := hE1d.size; omega)
          have hH7 := hH0.mod1 (hm0.trans hm07 (fun i hi => .inl hi)) hH
          have hM7 := (hM5.ext hE6).mod hm7 (by have := hM5.map.lt; omega) (fun b hb => by
            rcases hb with rfl | rfl
            · exact hM5.off (Nat.le_refl _)
            · exact hoq.1)
          refine wif_f rfl ?_
          refine draw_plan gx_ok (Ext w7) 9 [(true, 0), (true, 1), (true, 2), (true, 3), (true, 4), (true, 5), (true, 6), (true, 7), (true, 8)] (by kernel_rfl) (Ext.drew w7) ?_
          refine qload (fun w' hw' => by rw [(hLy7.ext hw').cell]; rfl) ?_
          refine qload (v := .int .i64 i) (fun w' hw' => by rw [(hSt7.ext hw').cell]; rfl) ?_
          refine index_sl hH7 hi (fun ad u hu huc hcell => ?_)
          have hu2 : u = .bool (hasHard (T d x.a.toNat)) := by
            have h1 : ((List.range n).map fun i => hasHard (T d i))[i]? = some (hasHard (T d x.a.toNat)) := by
              rw [List.getElem?_map, List.getElem?_range hi]
              simp only [Option.map_some, hT]; rfl
            exact Option.some.inj (huc.symm.trans (boolsV_get h1))
          subst hu2
          refine qload (fun w' hw' => hw'.cell hcell) ?_
          have hD7 := Ext.drew w7
          refine wif (fun hh => ?_) (fun hh => ?_)
          · have hh : hasHard (T d x.a.toNat) = false := by simpa using hh
            have hm7d := hm07.trans (Mod.of_ext (fun _ => False) hD7) (fun i hi => hi.elim)
            have hS7 := hS0.mod1 (hm0.trans hm7d (fun i hi => .inl hi)) hA
            have hG7' := hG0.mod1 (hm0.trans hm7d (fun i hi => .inl hi)) hG
            refine load_blk (hX7.ext hD7) rfl ?_
            refine loadN_blk (vs := cellsL (plV p)) (hSt7.ext hD7) rfl (fun j v hj => by
              match j, hj with
              | 0, hj => exact hj
              | 1, hj => exact hj
              | k + 2, hj => simp [plV, cellsL] at hj) ?_
            have hff := flat_fn g W A n c (.slice G n cG) (.slice H n cH) (.map (some mm)) d hd hW hn x.a.toNat p w7.drew (by omega) hS7 ⟨hLy7.ext hD7⟩ (by omega)
            rw [← hai] at hff
            refine call hff ?_
            rintro v w8 ⟨rfl, hE8⟩
            have hfl := flatP_lim W (T d x.a.toNat) p
            refine new (fun w9 hE9 hz9 hB9 => ?_)
            refine new (fun w10 hE10 hz10 hB10 => ?_)
            refine storeN_blk0 (hB9.ext hE10) rfl (by simp [scalar]) (fun w11 hg11 _ hB11 => ?_)
            have hm11 : Mod (· = w8.heap.size) w10 w11 := Mod.of_grown hg11 rfl
            refine storeN_blk0 (hB10.mod hm11 (by omega)) rfl (sc rfl) (fun w12 hg12 _ hB12 => ?_)
            have hm12 : Mod (· = w9.heap.size) w11 w12 := Mod.of_grown hg12 rfl
            have hz89 := hE9.size
            have hE812 : Ext w8 w12 := hm12.ext (hm11.ext (hE9.trans hE10) (fun i hi => by omega)) (fun i hi => by omega)
            have hB11' := hB11.mod hm12 (by omega)
            have hE712 := (hD7.trans hE8).trans hE812
            have hLy12 := hLy7.ext hE712
            have hSt12 := hSt7.ext hE712
            have hG12 := hG7'.ext (hE8.trans hE812)
            have hO12 := hO7.ext hE712
            have hz7d := hD7.size
            have hz8 := hE8.size
            have hqlt := hO7.lt
            refine draw_plan gx_ok (Mod (· = w1.drew.heap.size) w12) 14 [(true, 0), (true, 1), (true, 2), (true, 3), (true, 4), (true, 5), (true, 6), (true, 7), (true, 8), (true, 9), (true, 10), (false, 11), (true, 12), (false, 13)] (by kernel_rfl) (Mod.of_ext _ (Ext.drew w12)) ?_
            refine qloadN (vs := cellsL (plV (flatP W (T d x.a.toNat) p).1)) rfl (fun w' hw' j v hj => by rw [(hB11'.mod hw' (by omega)).cell]; exact hj) ?_
            refine qloadN (vs := [.int .i64 (flatP W (T d x.a.toNat) p).2, .int .i64 0]) rfl (fun w' hw' j v hj => by rw [(hB12.mod hw' (by omega)).cell]; exact hj) ?_
            refine qload (fun w' hw' => by rw [(hLy12.mod hw' (by have := hE1d.size; omega)).cell]; rfl) ?_
            refine qload (v := .int .i64 i) (fun w' hw' => by rw [(hSt12.mod hw' (by have := (Ext.drew w1).size; omega)).cell]; rfl) ?_
            refine index_sl hG12 hi (fun ad u hu huc hcell => ?_)
            have hu2 : u = .int .i64 ((ng (T d x.a.toNat) + 1 : Nat) : Int) := by
              have h1 : ((List.range n).map fun i => ng (T d i))[i]? = some (ng (T d x.a.toNat) + 1) := by
                rw [List.getElem?_map, List.getElem?_range hi]
                simp only [Option.map_some, hT]; rfl
              exact Option.some.inj (huc.symm.trans (natsV_get h1))
            subst hu2
            have hgn := ng_nn (T d x.a.toNat)
            have hGn : ¬ rowS G w1.drew.heap.size := fun hr => by
              have := hG0.row_lt (by omega) (by rw [natsV_length, List.length_map, List.length_range]; omega) _ hr
              have := hE1d.size
              omega
            refine qload (fun w' hw' => World.grownBy.cell (hw'.grown (row := some w1.drew.heap.size) (fun i hi => by rw [hi])) hcell (fun e => hGn ⟨ad, hu, by rw [← blk_add ad i]; simpa using e⟩)) ?_
            refine call (repeat_zero (ng (T d x.a.toNat) + 1) w12.drew (by omega)) ?_
            rintro v w13 ⟨rfl, hE13⟩
            have hE1213 := (Ext.drew w12).trans hE13
            refine ⟨Mod.of_ext _ hE1213, ?_⟩
            have hkp := keep_fn w1.drew.heap.size (flatP W (T d x.a.toNat) p).1 ⟨(flatP W (T d x.a.toNat) p).2, 0, List.replicate (ng (T d x.a.toNat) + 1) true⟩ mo w13 (hO12.ext hE1213)
            rw [← flat_v] at hkp
            refine call hkp ?_
            rintro v w14 ⟨hO14, hm14⟩
            have hm1214 := (Mod.of_ext (· = w1.drew.heap.size) hE1213).trans hm14 (fun i hi => .inl hi)
            refine ⟨hm1214, ?_⟩
            have hm714 : Mod (· = w1.drew.heap.size) w7 w14 := (Mod.of_ext (· = w1.drew.heap.size) hE712).trans hm1214 (fun i hi => .inl hi)
            refine ⟨w1.drew.heap.size, rfl, _, L', hO14, hmmq, ?_, hM7.mod hm714 (fun e => hmmq e.symm) (fun b hb => hb ▸ hoq.1), hm07.trans hm714 (fun i hi => .inr (by have := hE1d.size; omega)), hSt7.mod hm714 (by have := (Ext.drew w1).size; omega), fun b hb hL => ⟨(hoff5 b (by omega) hL).1, hqo b hb⟩⟩
            rw [hT]
            exact hG7.soft hB5 (fun y hy => hPm.mem_iff.2 hy) (fun y hy => hPm.mem_iff.1 hy) hh
          · have hh : hasHard (T d x.a.toNat) = true := by simpa using hh
            have hD := Ext.drew w7
            refine ⟨w1.drew.heap.size, rfl, mo, L', hO7.ext hD, hmmq, ?_, hM7.ext hD, hm07.trans (Mod.of_ext _ hD) (fun i hi => .inl hi), hSt7.ext hD, fun b hb hL => ⟨(hoff5 b (by omega) hL).1, hqo b hb⟩⟩
            rw [hT]
            exact hG7.hard hB5 (fun y hy => hPm.mem_iff.2 hy) (fun y hy => hPm.mem_iff.1 hy) hh
        · obtain ⟨M1, xx, M2, rfl, rfl, rfl, rfl⟩ := toV_split hsp
          rw [toV_app] at hR8
          refine wif_t rfl ?_
          refine at_entryQ gx_ok rfl rfl hR8 ?_
          refine new (fun w9 hE9 hz9 hB9 => ?_)
          refine new (fun w10 hE10 hz10 hB10 => ?_)
          refine storeN_blk0 (hB9.ext hE10) rfl (by simp [scalar]) (fun w11 hg11 _ hB11 => ?_)
          have hm11 : Mod (· = w8.heap.size) w10 w11 := Mod.of_grown hg11 rfl
          refine storeN_blk0 (hB10.mod hm11 (by omega)) rfl (by simp [scalar]) (fun w12 hg12 _ hB12 => ?_)
          have hm12 : Mod (· = w9.heap.size) w11 w12 := Mod.of_grown hg12 rfl
          have hz89 := hE9.size
          have hE812 : Ext w8 w12 := hm12.ext (hm11.ext (hE9.trans hE10) (fun i hi => by omega)) (fun i hi => by omega)
          have hB11' := hB11.mod hm12 (by omega)
          refine loadN_blk0 hB11' rfl ?_
          refine loadN_blk (vs := [.int .i64 xx.2.b, .int .i64 xx.2.l]) hB12 rfl (fun j v hj => by
            match j, hj with
            | 0, hj => exact hj
            | 1, hj => exact hj
            | k + 2, hj => simp at hj) ?_
          refine load_blk hB12 rfl ?_
          have hxm : xx ∈ m' := hP7.subset (by simp)
          have hlim := hB5.lim (by dsimp only; omega) hxm
          dsimp only at hlim
          have hgn := ng_nn (T d x.a.toNat)
          refine need (by rw [strOf_size, chB_len, hlim.2.2.2]; unfold maxLen; show 1 + _ ≤ _; omega) ?_
          have hO8 := (hO7.mod hm8 (by omega)).ext hE812
          refine at_mapUpdateQ (kv := plV) (a := xx.1) (v := .agg #[.int .i64 xx.2.b, .int .i64 xx.2.l, .string (⟨#[1]⟩ ++ strOf (chB xx.2.c))]) gx_ok rfl rfl rfl rfl plKey rfl rfl rfl hO8 (fun w13 hm13 _ hO13 => ?_)
          rw [preR_v, assocSet_toV] at hO13
          have hP8 := perm_shift hP7
          have hz67 := hm7.size
          refine ⟨(M1 ++ M2, xx :: dn, putM xx.1 (preR xx.2) mo), rfl, ⟨?_, ⟨_, (hR8.ext hE812).mod hm13 (by omega) hoq.2⟩, hO13, ?_, hP8.2⟩, ?_⟩
          · exact ((hm7.trans hm8 (fun i hi => .inl (.inl hi))).trans (Mod.of_ext (fun _ => False) hE812) (fun i hi => hi.elim)).trans hm13 (fun i hi => .inl (.inr hi))
          · exact hG7.step (keys_apart hP8.1 hB5.nd)
          · show (M1 ++ M2).length < (M1 ++ xx :: M2).length
            simp
      rintro q w5 ⟨m, L5, hO5, hq5, hB5, hM5, hm5, hSt5, hoff5⟩
      have hL5 := hLw.mod hm5 hgm
      have hmmlt := hM5.map.lt
      have hsne : w.heap.size ≠ mm := by
        have := hM.map.lt
        omega
      refine draw_plan gx_ok (Ext w5) 6 [(true, 0), (true, 1), (true, 2), (true, 3), (true, 4), (true, 5)] (by kernel_rfl) (Ext.drew w5) ?_
      refine qload (fun w' hw' => by rw [(hL5.ext hw').cell]; rfl) ?_
      refine qloadN (vs := cellsL (staV (i, ind, p))) rfl (fun w' hw' j v hj => by rw [(hSt5.ext hw').cell]; exact hj) ?_
      refine at_mapUpdateQ (kv := staV) (a := ((i, ind, p) : Sta)) gx_ok rfl rfl rfl rfl staKey rfl rfl rfl ((hM5.ext (Ext.drew w5)).map) (fun w6 hm6 _ hL6 => ?_)
      refine ⟨q, m, _, rfl, (hO5.ext (Ext.drew w5)).mod hm6 hq5, hq5, hB5, (hM5.ext (Ext.drew w5)).put hm6 hL6 hi hq5 (hO5.ext (Ext.drew w5)) hB5, ?_, fun b hb hL => ⟨(hoff5 b hb hL).1.put (hoff5 b hb hL).2, (hoff5 b hb hL).2⟩⟩
      exact (hm5.trans (Mod.of_ext (· = mm) (Ext.drew w5)) (fun i hi => .inl hi)).trans hm6 (fun i hi => .inl hi)
end Go.Proofs.Ytbkadgdhmfolaaa
