/-
  The parts of a valid document: the contract of the function that makes them.
  Conditions: none.
-/
import Derived.Test.YtbkadgdhmfolaaaDoc5
import Derived.Test.YtbkadgdhmfolaaaWr2
namespace Go.Proofs.Ytbkadgdhmfolaaa
open Go Go.RowKit

def ftr (d : List Nd) (f : Nat → Bool) : Nat → Nat → Ft
  | 0, _ => .hard
  | m + 1, i => match d[i]? with
    | none => .hard
    | some x => if x.k = 0 then .text x.t else if x.k = 1 then .line x.t else if x.k = 3 then .seq (ftr d f m x.a.toNat) (ftr d f m x.b.toNat)
      else if x.k = 4 then .nest x.n.toNat (ftr d f m x.a.toNat) else if x.k = 5 then .align (ftr d f m x.a.toNat) else if x.k = 6 then .group (ftr d f m x.a.toNat) (f i) else .hard

theorem ftr_fuel {d : List Nd} (hd : NodesOk d) (p : Nat → Bool) : ∀ (f g i : Nat), i < f → i < g → ftr d p f i = ftr d p g i := by
  intro f
  induction f with
  | zero => intro g i h; omega
  | succ f ih =>
    intro g i h1 h2
    cases g with
    | zero => omega
    | succ g =>
      unfold ftr
      cases hx : d[i]? with
      | none => rfl
      | some x =>
        have hn := hd i x hx
        simp only
        have ha := arI_of (k := x.k)
        split
        · rfl
        split
        · rfl
        split
        · rename_i h3
          have h4 := ha.2.2.2.1 h3
          rw [ih g _ (by have := (hn.a_lt (by omega)).2; omega) (by have := (hn.a_lt (by omega)).2; omega), ih g _ (by have := (hn.b_lt (by omega)).2; omega) (by have := (hn.b_lt (by omega)).2; omega)]
        split
        · rename_i h3
          have h4 := ha.2.2.2.2.1 h3
          rw [ih g _ (by have := (hn.a_lt (by omega)).2; omega) (by have := (hn.a_lt (by omega)).2; omega)]
        split
        · rename_i h3
          have h4 := ha.2.2.2.2.2.1 h3
          rw [ih g _ (by have := (hn.a_lt (by omega)).2; omega) (by have := (hn.a_lt (by omega)).2; omega)]
        split
        · rename_i h3
          have h4 := ha.2.2.2.2.2.2 h3
          rw [ih g _ (by have := (hn.a_lt (by omega)).2; omega) (by have := (hn.a_lt (by omega)).2; omega)]
        · rfl

def FT (d : List Nd) (f : Nat → Bool) (i : Nat) : Ft := ftr d f (i + 1) i

theorem FT_eq {d : List Nd} (hd : NodesOk d) (f : Nat → Bool) {i : Nat} {x : Nd} (hx : d[i]? = some x) :
    FT d f i = if x.k = 0 then .text x.t else if x.k = 1 then .line x.t else if x.k = 3 then .seq (FT d f x.a.toNat) (FT d f x.b.toNat)
      else if x.k = 4 then .nest x.n.toNat (FT d f x.a.toNat) else if x.k = 5 then .align (FT d f x.a.toNat) else if x.k = 6 then .group (FT d f x.a.toNat) (f i) else .hard := by
  have hn := hd i x hx
  have ha := arI_of (k := x.k)
  unfold FT
  conv => lhs; unfold ftr
  simp only [hx]
  split
  · rfl
  split
  · rfl
  split
  · rename_i h3
    have h4 := ha.2.2.2.1 h3
    rw [ftr_fuel hd f i (x.a.toNat + 1) _ (hn.a_lt (by omega)).2 (by omega), ftr_fuel hd f i (x.b.toNat + 1) _ (hn.b_lt (by omega)).2 (by omega)]
  split
  · rename_i h3
    have h4 := ha.2.2.2.2.1 h3
    rw [ftr_fuel hd f i (x.a.toNat + 1) _ (hn.a_lt (by omega)).2 (by omega)]
  split
  · rename_i h3
    have h4 := ha.2.2.2.2.2.1 h3
    rw [ftr_fuel hd f i (x.a.toNat + 1) _ (hn.a_lt (by omega)).2 (by omega)]
  split
  · rename_i h3
    have h4 := ha.2.2.2.2.2.2 h3
    rw [ftr_fuel hd f i (x.a.toNat + 1) _ (hn.a_lt (by omega)).2 (by omega)]
  · rfl

def partsL (d : List Nd) (f : Nat → Bool) (s n : Nat) : List Value := (List.range n).map fun j => if j < s then partV (FT d f j) else .nilIface
theorem partsL_len (d : List Nd) (f : Nat → Bool) (s n : Nat) : (partsL d f s n).length = n := by simp [partsL]
theorem partsL_get (d : List Nd) (f : Nat → Bool) {s n j : Nat} (hj : j < s) (hs : s ≤ n) : (partsL d f s n)[j]? = some (partV (FT d f j)) := by
  have : j < n := by omega
  simp [partsL, this, hj]
theorem partsL_set (d : List Nd) (f : Nat → Bool) (s n : Nat) : (partsL d f s n).set s (partV (FT d f s)) = partsL d f (s + 1) n := by
  apply List.ext_getElem
  · simp [partsL]
  · intro i h1 h2
    simp only [partsL, List.getElem_set, List.getElem_map, List.getElem_range]
    by_cases h : s = i
    · subst h; rw [if_pos rfl, if_pos (by omega)]
    · rw [if_neg h]
      by_cases h3 : i < s
      · rw [if_pos h3, if_pos (by omega)]
      · rw [if_neg h3, if_neg (by omega)]

theorem parts_fn (A : Option Addr) (n c : Nat) (d : List Nd) (q : Nat) (m : List (Int × Value)) (f : Nat → Bool) (w : World) (h : SD w A n c d) (hv : Valid d) (hm : MapAt (fun n : Int => Value.int .i64 n) w q m) (hf : ∀ i : Nat, (assoc (i : Int) m).getD (.bool false) = .bool (f i)) :
    Fn Try.prog 41 [.slice A n c, .map (some q)] w (fun v w' => v = partV (FT d f (n - 1)) ∧ Ext w w') := by
  have hlen := h.2
  have hpos := hv.2.1
  have hle := hv.1
  refine fn_of_exec (c := { c41 with cuts := [2, 4] }) gx_ok Try.func41 rfl rfl rfl ?_
  refine at_make gx_ok rfl rfl rfl rfl rfl rfl rfl rfl (by show 16 * n ≤ _; omega) (by unfold maxLen; omega) (fun w1 hE1 hsz1 hB1 => ?_)
  have h0 : (List.replicate n Value.nilIface) = partsL d f 0 n := by
    apply List.ext_getElem
    · simp [partsL]
    · intro i h1 h2; simp [partsL]
  have hB1' : Blk w1 w.heap.size 76 (partsL d f 0 n) := by rw [← h0]; exact hB1
  clear hB1
  refine cut0In [4] gx_ok (fun w' => Ext w w' ∧ Blk w' w.heap.size 76 (partsL d f n n)) ?_ ?_
  · refine loop gx_ok [13] (fun s : Nat => [.int .i64 s]) (fun s w' => Ext w w' ∧ Blk w' w.heap.size 76 (partsL d f s n) ∧ s ≤ n) (fun s _ => n - s) 0 rfl ⟨hE1, hB1', Nat.zero_le _⟩ ?_
    rintro s w2 ⟨hE2, hB2, hsn⟩
    refine wif_d (fun h2 => ?_) (fun h2 => ?_)
    · refine cut0 gx_ok (fun w' => Ext w w' ∧ Blk w' w.heap.size 76 (partsL d f (s + 1) n)) ?_ ?_
      · refine index_sls nd_len (h.ext hE2) rfl (by omega) (fun p x hx hc => ?_)
        have hnx := hv.ok s x hx
        have hT := FT_eq hv.ok f hx
        have hkd := arI_kind hnx.1
        have har := arI_of (k := x.k)
        refine loadN_at (vs := x.cells) rfl hc ?_
        refine new (fun w5 hE5 _ hB5 => ?_)
        refine storeN_blk0 hB5 rfl (by simp [Nd.cells, scalar]) (fun w6 hg6 _ hB6 => ?_)
        have hE6 := newBox hE5 hB5 hg6
        have hE06 := hE2.trans hE6
        have hB26 := hB2.ext hE6
        clear hB5 hE5 hg6
        refine load_blk hB6 rfl ?_
        have fin : ∀ (t : Ft) (w7 w8 : World), FT d f s = t → Ext w6 w7 → w7.grownBy w8 (some w.heap.size) → Blk w8 w.heap.size 76 ((partsL d f s n).set s (partV t)) → Ext w w8 ∧ Blk w8 w.heap.size 76 (partsL d f (s + 1) n) := fun t w7 w8 ht hE7 hg8 hB8 => by
          rw [← ht, partsL_set] at hB8
          exact ⟨(hE06.trans hE7).own hg8 (Nat.le_refl _), hB8⟩
        have hlt : s < (partsL d f s n).length := by rw [partsL_len]; omega
        have qk : ∀ (j : Nat) (v : Value), x.cells[j]? = some v → ∀ w', Ext w6 w' → w'.cell? ((⟨w2.heap.size, 0, none⟩ : Addr).add j) = some v := fun j v hj w' hw' => by rw [(hB6.ext hw').cell]; exact hj
        have qp : ∀ j, j < s → ∀ w', Ext w6 w' → w'.cell? ((⟨w.heap.size, 0, none⟩ : Addr).add j) = some (partV (FT d f j)) := fun j hj w' hw' => by rw [(hB26.ext hw').cell]; exact partsL_get d f hj hsn
        refine wif_eq (fun k0 => ?_) (fun k0 => ?_)
        · refine load_blk hB6 rfl ?_
          refine index (by omega) ?_
          refine store_blk hB26 hlt (fun w7 hg7 hB7 => ?_)
          exact ⟨rfl, fin (.text x.t) w6 w7 (by rw [hT, if_pos k0]) (Ext.refl _) hg7 hB7⟩
        refine wif_eq (fun k1 => ?_) (fun k1 => ?_)
        · refine load_blk hB6 rfl ?_
          refine index (by omega) ?_
          refine store_blk hB26 hlt (fun w7 hg7 hB7 => ?_)
          exact ⟨rfl, fin (.line x.t) w6 w7 (by rw [hT, if_neg k0, if_pos k1]) (Ext.refl _) hg7 hB7⟩
        refine wif_eq (fun k2 => ?_) (fun k2 => ?_)
        · refine index (by omega) ?_
          refine store_blk hB26 hlt (fun w7 hg7 hB7 => ?_)
          exact ⟨rfl, fin .hard w6 w7 (by rw [hT, if_neg k0, if_neg k1, if_neg (by omega), if_neg (by omega), if_neg (by omega), if_neg (by omega)]) (Ext.refl _) hg7 hB7⟩
        refine wif_eq (fun k3 => ?_) (fun k3 => ?_)
        · have ha := hnx.a_lt (by have := har.2.2.2.1 k3; omega)
          have hb := hnx.b_lt (by have := har.2.2.2.1 k3; omega)
          refine draw_plan gx_ok (Ext w6) 15 [(true, 0), (true, 1), (true, 2), (true, 3), (true, 4), (true, 5), (true, 6), (true, 7), (true, 8), (true, 9), (true, 10), (true, 11), (true, 12), (true, 13), (true, 14)] (by kernel_rfl) (Ext.drew w6) ?_
          refine qload (qk 3 _ rfl) ?_
          refine index_i (j := x.a.toNat) (by omega) (by omega) ?_
          refine qload (qp _ ha.2) ?_
          refine qload (qk 4 _ rfl) ?_
          refine index_i (j := x.b.toNat) (by omega) (by omega) ?_
          refine qload (qp _ hb.2) ?_
          refine index (by omega) ?_
          refine store_blk (hB26.ext (Ext.drew w6)) hlt (fun w7 hg7 hB7 => ?_)
          exact ⟨rfl, fin (.seq (FT d f x.a.toNat) (FT d f x.b.toNat)) w6.drew w7 (by rw [hT, if_neg k0, if_neg k1, if_pos k3]) (Ext.drew w6) hg7 hB7⟩
        refine wif_eq (fun k4 => ?_) (fun k4 => ?_)
        · have ha := hnx.a_lt (by have := har.2.2.2.2.1 k4; omega)
          have hnn : x.n = ((x.n.toNat : Nat) : Int) := by have := hnx.2.1.2.2.2.1; omega
          refine draw_plan gx_ok (Ext w6) 12 [(true, 0), (true, 1), (true, 2), (true, 3), (true, 4), (true, 5), (true, 6), (true, 7), (true, 8), (true, 9), (true, 10), (true, 11)] (by kernel_rfl) (Ext.drew w6) ?_
          refine qload (qk 2 _ rfl) ?_
          refine qload (qk 3 _ rfl) ?_
          refine index_i (j := x.a.toNat) (by omega) (by omega) ?_
          refine qload (qp _ ha.2) ?_
          refine index (by omega) ?_
          refine store_blk (hB26.ext (Ext.drew w6)) hlt (fun w7 hg7 hB7 => ?_)
          exact ⟨rfl, fin (.nest x.n.toNat (FT d f x.a.toNat)) w6.drew w7 (by rw [hT, if_neg k0, if_neg k1, if_neg k3, if_pos k4]) (Ext.drew w6) hg7 (by
            show Blk _ _ _ ((partsL d f s n).set s (.iface _ (.agg #[.int .i64 ((x.n.toNat : Nat) : Int), _])))
            rw [← hnn]; exact hB7)⟩
        refine wif_eq (fun k5 => ?_) (fun k5 => ?_)
        · have ha := hnx.a_lt (by have := har.2.2.2.2.2.1 k5; omega)
          refine load_blk hB6 rfl ?_
          refine index_i (j := x.a.toNat) (by omega) (by omega) ?_
          refine load_blk hB26 (partsL_get d f ha.2 hsn) ?_
          refine index (by omega) ?_
          refine store_blk hB26 hlt (fun w7 hg7 hB7 => ?_)
          exact ⟨rfl, fin (.align (FT d f x.a.toNat)) w6 w7 (by rw [hT, if_neg k0, if_neg k1, if_neg k3, if_neg k4, if_pos k5]) (Ext.refl _) hg7 hB7⟩
        refine wif_eq (fun k6 => ?_) (fun k6 => ?_)
        · have ha := hnx.a_lt (by have := har.2.2.2.2.2.2 k6; omega)
          refine draw_plan gx_ok (Ext w6) 13 [(true, 0), (true, 1), (true, 2), (true, 3), (true, 4), (true, 5), (true, 6), (true, 7), (true, 8), (true, 9), (true, 10), (true, 11), (true, 12)] (by kernel_rfl) (Ext.drew w6) ?_
          refine qload (qk 3 _ rfl) ?_
          refine index_i (j := x.a.toNat) (by omega) (by omega) ?_
          refine qload (qp _ ha.2) ?_
          refine top_lookup (kv := fun n : Int => Value.int .i64 n) (a := (s : Int)) gx_ok rfl rfl rfl rfl rfl (KeyV.int .i64) rfl rfl (fun w' hw' => hm.ext (hE06.trans hw')) (hf s) ?_
          refine index (by omega) ?_
          refine store_blk (hB26.ext (Ext.drew w6)) hlt (fun w7 hg7 hB7 => ?_)
          exact ⟨rfl, fin (.group (FT d f x.a.toNat) (f s)) w6.drew w7 (by rw [hT, if_neg k0, if_neg k1, if_neg k3, if_neg k4, if_neg k5, if_pos k6]) (Ext.drew w6) hg7 hB7⟩
        · omega
      rintro w3 ⟨hE3, hB3⟩
      refine norm_i64_to ((s + 1 : Nat) : Int) (by omega) (by omega) ?_
      exact ⟨s + 1, rfl, ⟨hE3, hB3, by omega⟩, by show n - (s + 1) < n - s; omega⟩
    · have : s = n := by omega
      subst this
      exact ⟨rfl, hE2, hB2⟩
  rintro w2 ⟨hE2, hB2⟩
  refine norm_i64_to (((n - 1 : Nat)) : Int) (by omega) (by omega) ?_
  refine index (by omega) ?_
  refine load_blk hB2 (partsL_get d f (show n - 1 < n by omega) (Nat.le_refl _)) ?_
  exact ⟨rfl, hE2⟩
end Go.Proofs.Ytbkadgdhmfolaaa
