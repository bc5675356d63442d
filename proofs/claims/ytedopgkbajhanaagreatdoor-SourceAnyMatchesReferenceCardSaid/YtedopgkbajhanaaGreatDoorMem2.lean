/-
  More of memory: new variables, structs in memory, slices of structs, maps with plain keys.
  Conditions: none.
-/
import Derived.Test.YtedopgkbajhanaaGreatDoorPlan
import Derived.Lib.AppendStr
namespace Go.Proofs.YtedopgkbajhanaaGreatDoor
open Go Go.RowKit

theorem invoke_at {c : Cx} {nm : String} {t : Nat} {l : List Value} {w : World} {K : Value → World → Prop} {pan : List PanicEntry → World → Prop} (r : MRow) (h1 : mRowOf c.g.ms t = some r) (h2 : nm = r.name) (h3 : memN r.f c.g.fns = true) (k : CallAt c.g.P r.f l w K pan) : InvokeAt c nm t l w K pan := by
  unfold InvokeAt; exact ⟨r, h1, h2, h3, k⟩

/-- The ways through x meet again; no slot that x writes is wanted behind it. -/
theorem cut0In (cs : List Nat) {c : Cx} {S : Env} {w : World} {Q : Post} (hg : c.g.Ok) {x y : Code} (R : World → Prop)
    (hx : prune (stays x) S [] (fun S0 => exec { c with cuts := cs } x S w (fun e S2 w2 => match e with
      | .normal => Has S0 S2 ∧ R w2
      | e => Q e S2 w2)))
    (hy : prune (stays x) S [] (fun S0 => ∀ w', R w' → exec c y S0 w' Q)) : AtCode c (.seq x y) S w Q := by
  rw [prune_eq] at hx hy
  unfold AtCode
  intro a hf
  refine wp_seq (wp_mono (exec_sound (c := { c with cuts := cs }) hg x S w _ a hx hf) (fun e a2 w2 hq => ?_))
  obtain ⟨S2, hf2, hq⟩ := hq
  cases e with
  | normal => exact exec_sound hg y _ w2 Q a2 (hy w2 hq.2) (hq.1.fits hf2)
  | exit i => exact ⟨S2, hf2, hq⟩
  | goto l => exact ⟨S2, hf2, hq⟩
  | ret => exact ⟨S2, hf2, hq⟩
  | panic ch => exact ⟨S2, hf2, hq⟩
  | outgrown => exact ⟨S2, hf2, hq⟩

theorem cut0 {c : Cx} {S : Env} {w : World} {Q : Post} (hg : c.g.Ok) {x y : Code} (R : World → Prop)
    (hx : prune (stays x) S [] (fun S0 => exec { c with cuts := [] } x S w (fun e S2 w2 => match e with
      | .normal => Has S0 S2 ∧ R w2
      | e => Q e S2 w2)))
    (hy : prune (stays x) S [] (fun S0 => ∀ w', R w' → exec c y S0 w' Q)) : AtCode c (.seq x y) S w Q := cut0In [] hg R hx hy

theorem index_i {a : Addr} {n j : Nat} {i : Int} {K : Addr → Prop} (hi : i = j) (hj : j < n) (k : K (a.add j)) : Index (some a) n i 1 K := by subst hi; exact index hj k

theorem named {a b : String} {K : Prop} (h : a = b) (k : K) : Named a b K := by unfold Named; exact ⟨h, k⟩

theorem new {w : World} {t : TypeId} {cs : List Value} {K : Addr → World → Prop} (k : ∀ w1, Ext w w1 → w1.heap.size = w.heap.size + 1 → Blk w1 w.heap.size t cs → K ⟨w.heap.size, 0, none⟩ w1) : New w t cs K := by
  unfold New; exact k _ (Ext.alloc w _) (by simp) (Blk.new w t cs)

theorem add_add (a : Addr) (n m : Nat) : (a.add n).add m = a.add (n + m) := by
  unfold Addr.add
  split
  · rename_i h; subst h; simp
  · split
    · rename_i h1 h2; subst h2; simp [h1]
    · rename_i h1 h2; simp [h1, Nat.add_assoc]

theorem overL_spec : ∀ (vs cs : List Value), vs.length ≤ cs.length → overL vs cs = vs ++ cs.drop vs.length
  | [], _, _ => rfl
  | v :: vs, [], h => by simp at h
  | v :: vs, c :: cs, h => by
    show v :: overL vs cs = _
    rw [overL_spec vs cs (by simpa using h)]; rfl
theorem putL_spec : ∀ (n : Nat) (vs cs : List Value), n + vs.length ≤ cs.length → putL n vs cs = cs.take n ++ vs ++ cs.drop (n + vs.length)
  | 0, vs, cs, h => by
    have e : putL 0 vs cs = overL vs cs := by cases cs <;> rfl
    rw [e, overL_spec vs cs (by omega)]; simp
  | n + 1, vs, [], h => by simp at h
  | n + 1, vs, c :: cs, h => by
    show c :: putL n vs cs = _
    rw [putL_spec n vs cs (by simp at h; omega)]
    rw [show n + 1 + vs.length = (n + vs.length) + 1 by omega]
    simp
theorem putL_length : ∀ (n : Nat) (vs cs : List Value), n + vs.length ≤ cs.length → (putL n vs cs).length = cs.length := fun n vs cs h => by
  rw [putL_spec n vs cs h]; simp; omega

/-- A struct is stored into a block. -/
theorem storeN_blk {P : Program} {w : World} {g t : Nat} {cs vs : List Value} {j : Nat} {K : World → Prop} (h : Blk w g t cs) (hj : j + vs.length ≤ cs.length) (hsc : ∀ u ∈ vs, scalar u = true)
    (k : ∀ w1, w.grownBy w1 (some g) → w1.heap.size = w.heap.size → Blk w1 g t (putL j vs cs) → K w1) : StoreN P w ((⟨g, 0, none⟩ : Addr).add j) vs K := by
  unfold StoreN
  have hst := run_storeCells_at P g j t vs 0 cs.toArray w h (by simpa using hj) (fun u hu => scalar_one (hsc u hu))
  rw [add_own]
  refine ⟨_, hst, ?_⟩
  refine k _ ⟨rfl, rfl, rfl, by simp, fun i _ hi => setRow_other w g i _ (fun e => hi (by rw [e]))⟩ (by simp) ?_
  have := setRow_heap w g cs.toArray (cs.toArray.toList.take (j + 0) ++ vs ++ cs.toArray.toList.drop (j + 0 + vs.length)).toArray t _ h
  unfold Blk
  rw [this, putL_spec j vs cs hj]; rfl

theorem storeN_blk0 {P : Program} {w : World} {g t : Nat} {cs vs : List Value} {K : World → Prop} (h : Blk w g t cs) (hl : vs.length = cs.length) (hsc : ∀ u ∈ vs, scalar u = true)
    (k : ∀ w1, w.grownBy w1 (some g) → w1.heap.size = w.heap.size → Blk w1 g t vs → K w1) : StoreN P w ⟨g, 0, none⟩ vs K := by
  have := storeN_blk (P := P) (j := 0) (K := K) h (by omega) hsc (fun w1 h1 h2 h3 => k w1 h1 h2 (by
    rw [putL_spec 0 vs cs (by omega), hl] at h3; simpa using h3))
  simpa [Addr.add] using this

theorem loadN_blk {w : World} {g t : Nat} {cs vs : List Value} {j n : Nat} {K : List Value → Prop} (h : Blk w g t cs) (hn : vs.length = n) (hv : ∀ i v, vs[i]? = some v → cs[j + i]? = some v) (k : K vs) : LoadN w ((⟨g, 0, none⟩ : Addr).add j) n K := by
  unfold LoadN
  exact ⟨vs, hn, fun i v hi => by rw [add_add, h.cell]; exact hv i v hi, k⟩

theorem loadN_blk0 {w : World} {g t : Nat} {cs : List Value} {n : Nat} {K : List Value → Prop} (h : Blk w g t cs) (hn : cs.length = n) (k : K cs) : LoadN w ⟨g, 0, none⟩ n K := by
  have := loadN_blk (j := 0) (vs := cs) (K := K) h hn (fun i v hi => by simpa using hi) k
  simpa [Addr.add] using this

theorem load_blk0 {w : World} {g t : Nat} {cs : List Value} {v : Value} {K : Value → Prop} (h : Blk w g t cs) (hv : cs[0]? = some v) (k : K v) : Load w ⟨g, 0, none⟩ K := by
  have := load_blk (j := 0) (K := K) h hv k
  simpa [Addr.add] using this

theorem store_blk0 {w : World} {g t : Nat} {cs : List Value} {v : Value} {K : World → Prop} (h : Blk w g t cs) (hj : 0 < cs.length) (k : ∀ w1, w.grownBy w1 (some g) → Blk w1 g t (cs.set 0 v) → K w1) : Store w ⟨g, 0, none⟩ v K := by
  have := store_blk (j := 0) (v := v) (K := K) h hj k
  simpa [Addr.add] using this

/-! ### Lists of structs -/
section
variable {α : Type} {f : α → List Value} {sz : Nat}

theorem flat_length (hf : ∀ x, (f x).length = sz) : ∀ (l : List α), (l.flatMap f).length = l.length * sz
  | [] => by simp
  | x :: l => by simp [hf, flat_length hf l, Nat.succ_mul, Nat.add_comm]

theorem flat_get (hf : ∀ x, (f x).length = sz) : ∀ (l : List α) (j : Nat) (x : α) (i : Nat) (v : Value), l[j]? = some x → (f x)[i]? = some v → (l.flatMap f)[j * sz + i]? = some v
  | [], j, x, i, v, h, _ => by simp at h
  | y :: l, 0, x, i, v, h, hi => by
    simp at h; subst h
    have : i < (f y).length := (List.getElem?_eq_some_iff.1 hi).1
    rw [List.flatMap_cons, List.getElem?_append_left (by simpa using this)]; simpa using hi
  | y :: l, j + 1, x, i, v, h, hi => by
    rw [List.flatMap_cons, List.getElem?_append_right (by rw [hf]; rw [Nat.succ_mul]; omega), hf]
    rw [show (j + 1) * sz + i - sz = j * sz + i by rw [Nat.succ_mul]; omega]
    exact flat_get hf l j x i v (by simpa using h) hi

theorem flat_take (hf : ∀ x, (f x).length = sz) : ∀ (l : List α) (n : Nat), (l.take n).flatMap f = (l.flatMap f).take (n * sz)
  | [], n => by simp
  | y :: l, 0 => by simp
  | y :: l, n + 1 => by
    rw [List.take_succ_cons, List.flatMap_cons, List.flatMap_cons, flat_take hf l n, Nat.succ_mul, Nat.add_comm, List.take_append, hf]
    rw [List.take_of_length_le (show (f y).length ≤ sz + n * sz by rw [hf]; omega)]
    rw [show sz + n * sz - sz = n * sz by omega]

/-- The slice reads as this list of structs. -/
def SlS (f : α → List Value) (sz : Nat) (w : World) (A : Option Addr) (n c : Nat) (l : List α) : Prop := Sl w sz A n c (l.flatMap f) ∧ l.length = n

theorem SlS.len {w : World} {A : Option Addr} {n c : Nat} {l : List α} (h : SlS f sz w A n c l) : l.length = n := h.2
theorem SlS.ext {w w' : World} {A : Option Addr} {n c : Nat} {l : List α} (h : SlS f sz w A n c l) (k : Ext w w') : SlS f sz w' A n c l := ⟨h.1.ext k, h.2⟩
theorem SlS.nil (w : World) : SlS f sz w none 0 0 [] := ⟨Sl.nil w sz, rfl⟩

theorem SlS.cell (hf : ∀ x, (f x).length = sz) {w : World} {A : Option Addr} {n c : Nat} {l : List α} (h : SlS f sz w A n c l) {j : Nat} {x : α} (hj : l[j]? = some x) :
    ∃ ad, A = some ad ∧ ∀ i v, (f x)[i]? = some v → w.cell? ((ad.add (j * sz)).add i) = some v := by
  have hlt : j < l.length := (List.getElem?_eq_some_iff.1 hj).1
  obtain ⟨ad, rfl, hc⟩ := h.1.at_ (by have := h.2; omega)
  exact ⟨ad, rfl, fun i v hi => by rw [add_add]; exact hc _ _ (flat_get hf l j x i v hj hi)⟩

/-- The address of a struct of a slice. -/
theorem index_sls (hf : ∀ x, (f x).length = sz) {w : World} {A : Option Addr} {n c : Nat} {l : List α} {i : Int} {j : Nat} {K : Addr → Prop} (h : SlS f sz w A n c l) (hi : i = j) (hj : j < n)
    (k : ∀ p x, l[j]? = some x → (∀ i v, (f x)[i]? = some v → w.cell? (p.add i) = some v) → K p) : Index A n i sz K := by
  subst hi
  have hlt : j < l.length := by rw [h.2]; exact hj
  have hx : l[j]? = some l[j] := List.getElem?_eq_getElem hlt
  obtain ⟨ad, rfl, hc⟩ := h.cell hf hx
  unfold Index
  exact ⟨ad, rfl, by omega, by omega, by simpa using k _ _ hx hc⟩

theorem loadN_at {w : World} {p : Addr} {vs : List Value} {n : Nat} {K : List Value → Prop} (hn : vs.length = n) (h : ∀ i v, vs[i]? = some v → w.cell? (p.add i) = some v) (k : K vs) : LoadN w p n K := by
  unfold LoadN; exact ⟨vs, hn, h, k⟩
end

/-! ### Appending, for values of any size -/
theorem append_blockN {P : Program} {w w1 : World} {t ty e : TypeId} {i : TypeInfo} {z : Value} {bytes base n m cc sz : Nat} {v v' : Value} {xs ys : List Value} (ht : P.underlying t = some (.slice e)) (hi : P.info? e = some i) (hz : i.zero = some z) (hs : i.size = sz) (hby : i.bytes = bytes)
    (hown : w.ownsRow base e sz v n xs) (b : Addr) (hm : 0 < m) (hl : ys.length = m * sz) (hcell : ∀ j u, ys[j]? = some u → w.cell? (b.add j) = some u) (h1 : ∀ u ∈ ys, u.oneCell' = true) (h63 : n + m ≤ maxLen) (hbytes : (n + m) * bytes ≤ 140737488355328)
    (hrun : (Builtin.append_ #[t, t] ty #[v, .slice (some b) m cc]).run P w = .ok v' w1) : ∀ g', v'.ownBlock = some g' → v.ownBlock = some g' ∨ w.heap.size ≤ g' := by
  intro g' hg'
  subst hby
  have hsmall : n + m ≤ 9223372036854775807 := by simp only [maxLen] at h63; omega
  rcases hown.2 with ⟨rfl, rfl⟩ | ⟨g, cap, cur, rfl, hbg, hg, hnc, hcm, hcs, htake⟩
  · have hr := run_append_nil (P := P) w t ty e i z ht hi hz b m cc ys (by rw [hl, hs]) hcell (by omega) (by omega) (by have hb := hbytes; simp only [Nat.zero_add] at hb; omega)
    rw [hr] at hrun
    cases hrun
    simp [Value.ownBlock] at hg'
    exact .inr (by omega)
  · by_cases hroom : n + m ≤ cap
    · have hr := run_append_room (P := P) w t ty e i ht hi g n cap cur hg b m cc ys (by rw [hl, hs]) hcell h1 hroom (by rw [hl, hs, hcs, ← Nat.add_mul]; exact Nat.mul_le_mul_right _ hroom)
      rw [hr] at hrun
      cases hrun
      exact .inl hg'
    · have holds : ∀ j u, xs[j]? = some u → w.cell? ((⟨g, 0, none⟩ : Addr).add j) = some u := hown.cells (g := g) rfl
      have hr := run_append_grow (P := P) w t ty e i z ht hi hz ⟨g, 0, none⟩ n cap xs (by rw [hs]; exact hown.1) holds b m cc ys (by rw [hl, hs]) hcell (by omega) (by omega) (growslice_fits (by omega) hbytes)
      rw [hr] at hrun
      cases hrun
      simp [Value.ownBlock] at hg'
      exact .inr (by omega)

theorem at_appendN {c : Cx} (hg : c.g.Ok) {o : Oper} {S : Env} {w : World} {K : Env → World → Prop} {Q : Post} {t t2 e sz : Nat} {x y : Operand} {A B : Option Addr} {n cp : Nat} {m c2 : Nat} {xs ys : List Value} {base : Nat} {r re r2 : TyRow}
    (ho : o.op = .call ⟨.builtin .append, #[x, y], #[t, t2]⟩) (hr : rowOf c.g.tys t = some r) (hd : r.d = .slice e) (hre : rowOf c.g.tys e = some re) (hs : re.sz = sz) (hsz0 : 0 < sz) (hzc : re.z.cells.size = sz) (hr2 : rowOf c.g.tys t2 = some r2) (hd2 : ∃ e2, r2.d = .slice e2)
    (hx : S.ev x = some (.slice A n cp)) (hy : S.ev y = some (.slice B m c2)) (hown : Own w base e sz A n cp xs) (hys : Sl w sz B m c2 ys) (hsc : ∀ u ∈ ys, scalar u = true)
    (h63 : n + m ≤ maxLen) (hby : (n + m) * re.by_ ≤ 140737488355328) (hbase : base ≤ w.heap.size)
    (k : ∀ A' c' w1, w.grownBy w1 (Value.slice A n cp).ownBlock → Own w1 base e sz A' (n + m) c' (xs ++ ys) → (∀ ad, A' = some ad → A = some ad ∨ w.heap.size ≤ ad.block) → putK c S o.dst (.v (.slice A' (n + m) c')) (fun S => K S w1)) : AtOp c o S w K Q := by
  obtain ⟨_, i, hi, hsz, hbyt, hiz⟩ := hg.row hre
  have hr' := (hg.row hr).1
  rw [hd] at hr'
  obtain ⟨e2, hd2⟩ := hd2
  have hr2' := (hg.row hr2).1
  rw [hd2] at hr2'
  have hlen : ys.length = m * sz := hys.len
  unfold AtOp
  intro a hf
  have e1 := hf.ev hx
  have e2' := hf.ev hy
  have key : ∃ v' w1, (Builtin.append_ #[t, t] o.type #[.slice A n cp, .slice B m c2]).run c.g.P w = .ok v' w1 ∧ w1.ownsRow base e sz v' (n + m) (xs ++ ys) ∧ w.grownBy w1 (Value.slice A n cp).ownBlock ∧ (∀ g', v'.ownBlock = some g' → (Value.slice A n cp).ownBlock = some g' ∨ w.heap.size ≤ g') := by
    by_cases h0 : m = 0
    · subst h0
      have hnil : ys = [] := List.eq_nil_of_length_eq_zero (by omega)
      subst hnil
      have hle : n ≤ cp := hown.sl.le
      refine ⟨.slice A n cp, w, ?_, by simpa using hown.row, ⟨rfl, rfl, rfl, Nat.le_refl _, fun _ _ _ => rfl⟩, fun _ h => .inl h⟩
      cases A <;> cases B <;> simp [Builtin.append_, run_underlying hr', sizeOf, typeInfo, hi, Builtin.lenOf, hle, Builtin.firstCells, loadCells, loadCellsFrom, storeCells]
    · obtain ⟨b, rfl, hcell⟩ := hys.at_ (by omega)
      obtain ⟨v', w1, hrun, how, hgr, _⟩ := run_append_own (P := c.g.P) (w := w) base t o.type e i re.z sz re.by_ hr' hi hiz (by rw [hsz, hs]) hbyt hzc hsz0 _ n xs hown.row b m c2 ys hlen hcell (fun u hu => scalar_one (hsc u hu)) h63 hby hbase
      exact ⟨v', w1, hrun, how, hgr, append_blockN hr' hi hiz (by rw [hsz, hs]) hbyt hown.row b (by omega) hlen hcell (fun u hu => scalar_one (hsc u hu)) h63 hby hrun⟩
  obtain ⟨v', w1, hrun, how, hgr, hblk⟩ := key
  obtain ⟨A', c', rfl, hown'⟩ := Own.form how
  have hblk' : ∀ ad, A' = some ad → A = some ad ∨ w.heap.size ≤ ad.block := fun ad e => by
    subst e
    rcases hblk ad.block rfl with h | h
    · left
      rcases hown.row.2 with ⟨hv, _⟩ | ⟨g, cap, cur, hv, _⟩
      · cases hv; simp [Value.ownBlock] at h
      · cases hv
        rcases how.2 with ⟨hv, _⟩ | ⟨g2, cap2, cur2, hv2, _⟩
        · cases hv
        · cases hv2; simp [Value.ownBlock] at h; rw [h]
    · exact .inr h
  refine wp_value (v := .slice A' (n + m) c') (w' := w1) ?_ (putK_sound (e := .v _) (k A' c' w1 hgr hown' hblk') hf)
  have hsame : (Builtin.append_ #[t, t2] o.type #[.slice A n cp, .slice B m c2]).run c.g.P w = (Builtin.append_ #[t, t] o.type #[.slice A n cp, .slice B m c2]).run c.g.P w := by
    simp [Builtin.append_, run_underlying hr', run_underlying hr2']
  simp only [execOp, ho, resolve, invoke]
  simp [builtin, e1, e2', hsame, hrun]

theorem append_block_str {P : Program} {w w1 : World} {t u ty e : TypeId} {i : TypeInfo} {base n : Nat} {v v' : Value} {xs : List Value} (ht : P.underlying t = some (.slice e)) (hu : P.underlying u = some .string) (hi : P.info? e = some i) (hz : i.zero = some (.int .u8 0)) (hs : i.size = 1) (hby : i.bytes = 1)
    (hown : w.ownsRow base e 1 v n xs) (s : ByteArray) (hbytes : n + s.size ≤ 140737488355328)
    (hrun : (Builtin.append_ #[t, u] ty #[v, .string s]).run P w = .ok v' w1) : ∀ g', v'.ownBlock = some g' → v.ownBlock = some g' ∨ w.heap.size ≤ g' := by
  intro g' hg'
  have hxl : xs.length = n := by simpa using hown.1
  rcases hown.2 with ⟨rfl, rfl⟩ | ⟨g, cap, cur, rfl, hbg, hg, hnc, hcm, hcs, htake⟩
  · by_cases hm : s.size = 0
    · have hf := Lib.run_firstCells_string (P := P) w 1 s
      rw [hm] at hf
      have : (Builtin.append_ #[t, u] ty #[.slice none 0 0, .string s]).run P w = .ok (.slice none 0 0) w := by
        simp [Builtin.append_, run_underlying ht, run_underlying hu, sizeOf, typeInfo, hi, hs, Builtin.lenOf, hm, hf]
      rw [this] at hrun
      cases hrun
      simp [Value.ownBlock] at hg'
    · have hr := run_append_nil_string (P := P) w t u ty e i (.int .u8 0) ht hu hi hz s (by omega) (by omega) (by rw [hby]; omega)
      rw [hr] at hrun
      cases hrun
      simp [Value.ownBlock] at hg'
      exact .inr (by omega)
  · by_cases hroom : n + s.size ≤ cap
    · have hcs' : cur.size = cap := by simpa using hcs
      have hr := Lib.run_append_room_string (P := P) w t u ty e i ht hu hi hs g n cap cur hg s hroom (by omega)
      rw [hr] at hrun
      cases hrun
      exact .inl hg'
    · have holds : ∀ j u, xs[j]? = some u → w.cell? ((⟨g, 0, none⟩ : Addr).add j) = some u := hown.cells (g := g) rfl
      have hr := Lib.run_append_grow_string (P := P) w t u ty e i (.int .u8 0) ht hu hi hz ⟨g, 0, none⟩ n cap xs (by rw [hs]; simpa using hxl) holds s (by omega) (by omega) (by rw [hby]; exact growslice_fits (by omega) (by omega))
      rw [hr] at hrun
      cases hrun
      simp [Value.ownBlock] at hg'
      exact .inr (by omega)

/-- 'append(b, s...)' of a string's bytes. -/
theorem at_append_str {c : Cx} (hg : c.g.Ok) {o : Oper} {S : Env} {w : World} {K : Env → World → Prop} {Q : Post} {t t2 e : Nat} {x y : Operand} {A : Option Addr} {n cp : Nat} {s : ByteArray} {xs : List Value} {base : Nat} {r re r2 : TyRow}
    (ho : o.op = .call ⟨.builtin .append, #[x, y], #[t, t2]⟩) (hr : rowOf c.g.tys t = some r) (hd : r.d = .slice e) (hre : rowOf c.g.tys e = some re) (hs : re.sz = 1) (hzc : re.z = .int .u8 0) (hbt : re.by_ = 1) (hr2 : rowOf c.g.tys t2 = some r2) (hd2 : r2.d = .string)
    (hx : S.ev x = some (.slice A n cp)) (hy : S.ev y = some (.string s)) (hown : Own w base e 1 A n cp xs)
    (h63 : n + s.size ≤ 140737488355328) (hbase : base ≤ w.heap.size)
    (k : ∀ A' c' w1, w.grownBy w1 (Value.slice A n cp).ownBlock → Own w1 base e 1 A' (n + s.size) c' (xs ++ Lib.strCells s) → (∀ ad, A' = some ad → A = some ad ∨ w.heap.size ≤ ad.block) → putK c S o.dst (.v (.slice A' (n + s.size) c')) (fun S => K S w1)) : AtOp c o S w K Q := by
  obtain ⟨_, i, hi, hsz, hbyt, hiz⟩ := hg.row hre
  have hr' := (hg.row hr).1
  rw [hd] at hr'
  have hr2' := (hg.row hr2).1
  rw [hd2] at hr2'
  unfold AtOp
  intro a hf
  have e1 := hf.ev hx
  have e2' := hf.ev hy
  obtain ⟨v', w1, hrun, how, hgr, _⟩ := Lib.run_append_own_string (P := c.g.P) (w := w) base t t2 o.type e i hr' hr2' hi (by rw [hiz, hzc]) (by rw [hsz, hs]) (by rw [hbyt, hbt]) _ n xs hown.row s (by unfold maxLen; omega) h63 hbase
  have hblk := append_block_str hr' hr2' hi (by rw [hiz, hzc]) (by rw [hsz, hs]) (by rw [hbyt, hbt]) hown.row s h63 hrun
  obtain ⟨A', c', rfl, hown'⟩ := Own.form how
  have hblk' : ∀ ad, A' = some ad → A = some ad ∨ w.heap.size ≤ ad.block := fun ad e => by
    subst e
    rcases hblk ad.block rfl with h | h
    · left
      rcases hown.row.2 with ⟨hv, _⟩ | ⟨g, cap, cur, hv, _⟩
      · cases hv; simp [Value.ownBlock] at h
      · cases hv
        rcases how.2 with ⟨hv, _⟩ | ⟨g2, cap2, cur2, hv2, _⟩
        · cases hv
        · cases hv2; simp [Value.ownBlock] at h; rw [h]
    · exact .inr h
  refine wp_value (v := .slice A' (n + s.size) c') (w' := w1) ?_ (putK_sound (e := .v _) (k A' c' w1 hgr hown' hblk') hf)
  simp only [execOp, ho, resolve, invoke]
  simp [builtin, e1, e2', hrun]

/-! ### Slices that are built -/
def buildL : Nat → List (List Value) → List (Nat × Value) → Prop
  | _, [], [] => True
  | n, cs :: l, (i, v) :: r => i = n ∧ cellsL v = cs ∧ buildL (n + 1) l r
  | _, _, _ => False

theorem fill_build {sz : Nat} {z : List Value} (hz : z.length = sz) : ∀ (parts : List (Nat × Value)) (n : Nat) (l : List (List Value)) (pre : List Value), buildL n l parts → (∀ cs ∈ l, cs.length = sz) → pre.length = n * sz →
    Instr.fill (fun i => some (i * sz, sz)) (pre ++ (List.replicate l.length z).flatten).toArray parts = some (pre ++ l.flatten).toArray
  | [], n, [], pre, _, _, _ => by simp [Instr.fill]
  | [], n, _ :: _, pre, h, _, _ => h.elim
  | _ :: _, n, [], pre, h, _, _ => h.elim
  | (i, v) :: parts, n, cs :: l, pre, h, hl, hp => by
    obtain ⟨rfl, rfl, h'⟩ := h
    have hc : (cellsL v).length = sz := hl _ (by simp)
    have hcs : v.cells.size = sz := by rw [← hc, ← cells_toList]; simp
    have hcond : ¬ ((v.cells.size ≠ sz || i * sz + v.cells.size > (pre ++ (List.replicate (cellsL v :: l).length z).flatten).toArray.size) = true) := by
      rw [hcs]; simp [hp, List.replicate_succ, hz]
    unfold Instr.fill
    simp only
    rw [if_neg hcond]
    have e : (v.cells.zipIdx.foldl (fun cs (c, j) => cs.setIfInBounds (i * sz + j) c) (pre ++ (List.replicate (cellsL v :: l).length z).flatten).toArray) = ((pre ++ cellsL v) ++ (List.replicate l.length z).flatten).toArray := by
      apply Array.ext'
      rw [foldl_cells, cells_toList, putL_spec _ _ _ (by simp [hp, List.replicate_succ, hz, hc])]
      simp only [List.length_cons, List.replicate_succ, List.flatten_cons]
      rw [List.take_append, List.drop_append, hp]
      simp only [Nat.sub_self, List.take_zero, List.append_nil]
      rw [List.take_of_length_le (by omega), List.drop_of_length_le (by omega), List.nil_append]
      rw [show i * sz + (cellsL v).length - i * sz = sz by omega, List.drop_append, hz, Nat.sub_self, List.drop_zero, List.drop_of_length_le (by omega)]
      simp
    rw [e]
    have := fill_build hz parts (i + 1) l (pre ++ cellsL v) h' (fun cs hcs => hl cs (by simp [hcs])) (by rw [List.length_append, hp, hc, Nat.succ_mul])
    rw [this]
    simp

theorem zeros_flat (z : List Value) (hz : 0 < z.length) : ∀ (n : Nat), (List.range (n * z.length)).map (fun j => z.toArray[j % z.length]!) = (List.replicate n z).flatten
  | 0 => by simp
  | n + 1 => by
    rw [Nat.succ_mul, List.range_add, List.map_append, zeros_flat z hz n, List.replicate_succ', List.flatten_append]
    congr 1
    simp only [List.map_map, List.flatten_cons, List.flatten_nil, List.append_nil]
    apply List.ext_getElem
    · simp
    · intro i h1 h2
      simp at h1
      simp [Nat.mod_eq_of_lt h1, h1]

theorem at_buildN {c : Cx} (hg : c.g.Ok) {o : Oper} {S : Env} {w : World} {K : Env → World → Prop} {Q : Post} {t e n : Nat} {r re : TyRow} {ps : Array (Nat × Operand)} {vs : List (Nat × Value)} (l : List (List Value))
    (ho : o.op = .buildSlice t n ps) (hr : rowOf c.g.tys t = some r) (hd : r.d = .slice e) (hre : rowOf c.g.tys e = some re) (hv : evP S ps.toList = some vs) (hb : buildL 0 l vs) (hn : l.length = n) (hl : ∀ cs ∈ l, cs.length = re.sz) (hz : (cellsL re.z).length = re.sz) (hsz : 0 < re.sz) (hbig : n * re.sz ≤ 16777216)
    (k : ∀ w1, Ext w w1 → w1.heap.size = w.heap.size + 1 → Blk w1 w.heap.size e l.flatten → putK c S o.dst (.v (.slice (some ⟨w.heap.size, 0, none⟩) n n)) (fun S => K S w1)) : AtOp c o S w K Q := by
  obtain ⟨_, i, hi, hsi, hbyt, hiz⟩ := hg.row hre
  have hr' := (hg.row hr).1
  rw [hd] at hr'
  subst hn
  refine at_run (w' := w.alloc (.cells l.flatten.toArray e)) (fun a hf => ?_) (k _ (Ext.alloc w _) (by simp) (Blk.new w e l.flatten))
  have hpm := evP_spec (ρ := a.eval) (fun x v h => hf.ev h) _ _ hv
  have hpm' : (ps.map fun (x : Nat × Operand) => (x.1, a.eval x.2)).toList = vs := by rw [Array.toList_map]; exact hpm
  have hzc : re.z.cells = (cellsL re.z).toArray := by rw [← cells_toList]
  have hfill := fill_build hz vs 0 l [] hb hl (by simp)
  simp only [List.nil_append] at hfill
  have hzs := zeros_flat (cellsL re.z) (by rw [hz]; exact hsz) l.length
  rw [hz] at hzs
  simp only [execOp, ho, Instr.buildSlice]
  rw [show (ps.map fun (x : Nat × Operand) => (x.1, a.eval x.2)).toList = vs from hpm']
  have h24 : ¬ l.length * re.sz > 2 ^ 24 := by omega
  by_cases h0 : l.length = 0
  · have hnil : l = [] := List.eq_nil_of_length_eq_zero h0
    subst hnil
    cases vs with
    | cons p vs => exact hb.elim
    | nil => simp [run_underlying hr', sizeOf, typeInfo, hi, Instr.fill, newRow, Array.range_zero']
  · have h1 : ¬ (l.length * re.sz = 0) := by
      intro h; rcases Nat.mul_eq_zero.1 h with h | h <;> omega
    have hmap : (Array.range (l.length * re.sz)).map (fun j => (cellsL re.z).toArray[j % (cellsL re.z).toArray.size]!) = (List.replicate l.length (cellsL re.z)).flatten.toArray := by
      apply Array.ext'
      rw [Array.toList_map, Array.toList_range]
      simpa [hz] using hzs
    simp only [Sem.run_bind, run_underlying hr', Result.andThen_ok, sizeOf, typeInfo, run_program, hi, Sem.run_pure, hsi, if_neg h24, if_neg h1, zeroValue, hiz, hzc]
    rw [hmap]
    simp only [hfill]
    simp [newRow]

/-! ### Maps with plain keys -/
def sameKind : TypeDesc → Nat
  | .int _ => 0
  | .string => 1
  | .bool => 2
  | _ => 1000

structure KeyV {α : Type} [DecidableEq α] (d : TypeDesc) (kv : α → Value) : Prop where
  same : ∀ a b, Instr.sameNow d (kv a) (kv b) = some (decide (a = b))
  bits : ∀ a n, Instr.sameBits n (kv a) (kv a) = true
  plain : sameKind d < 3

theorem KeyV.int (k : IntKind) : KeyV (.int k) (fun n : Int => .int k n) := ⟨fun a b => by simp [Instr.sameNow]; rfl, fun a n => by cases n <;> simp [Instr.sameBits], by simp [sameKind]⟩
theorem KeyV.str : KeyV .string (fun s : ByteArray => .string s) := ⟨fun a b => by
    simp only [Instr.sameNow, Option.some.injEq]
    rw [beq_toListBytes, bytes_beq], fun a n => by cases n <;> (simp only [Instr.sameBits]; rw [beq_toListBytes, bytes_beq]; simp), by simp [sameKind]⟩
theorem KeyV.bool : KeyV .bool (fun b : Bool => .bool b) := ⟨fun a b => by simp only [Instr.sameNow]; cases a <;> cases b <;> rfl, fun a n => by cases n <;> simp [Instr.sameBits], by simp [sameKind]⟩

def assoc {α : Type} [DecidableEq α] (a : α) : List (α × Value) → Option Value
  | [] => none
  | (b, v) :: l => if a = b then some v else assoc a l

def assocSet {α : Type} [DecidableEq α] (a : α) (v : Value) : List (α × Value) → List (α × Value)
  | [] => [(a, v)]
  | (b, u) :: l => if a = b then (b, v) :: l else (b, u) :: assocSet a v l

theorem assoc_set {α : Type} [DecidableEq α] (a b : α) (v : Value) : ∀ l, assoc b (assocSet a v l) = if b = a then some v else assoc b l
  | [] => by simp [assocSet, assoc]
  | (d, u) :: l => by
    simp only [assocSet]
    split
    · rename_i h; subst h
      simp only [assoc]; split <;> rfl
    · rename_i h
      simp only [assoc, assoc_set a b v l]
      by_cases h1 : b = d
      · subst h1; rw [if_pos rfl, if_neg (fun e => h e.symm)]; simp
      · rw [if_neg h1, if_neg h1]

/-- The map's entries, in their order: each with its stamp. -/
def entsOf {α : Type} (kv : α → Value) (m : List (α × Value)) (bs : List Nat) : List MapEntry := (m.zip bs).map fun p => { key := kv p.1.1, val := p.1.2, born := p.2 }

structure MapAt {α : Type} (kv : α → Value) (w : World) (r : Nat) (m : List (α × Value)) : Prop where
  ex : ∃ bs ck, bs.length = m.length ∧ w.heap[r]? = some (.map (entsOf kv m bs).toArray ck)

theorem MapAt.ext {α : Type} {kv : α → Value} {w w' : World} {r : Nat} {m : List (α × Value)} (h : MapAt kv w r m) (k : Ext w w') : MapAt kv w' r m := by
  obtain ⟨bs, ck, hl, hb⟩ := h.ex
  exact ⟨bs, ck, hl, (k.block r (Array.getElem?_eq_some_iff.1 hb).1 (by simp)).trans hb⟩
theorem MapAt.lt {α : Type} {kv : α → Value} {w : World} {r : Nat} {m : List (α × Value)} (h : MapAt kv w r m) : r < w.heap.size := by
  obtain ⟨bs, ck, hl, hb⟩ := h.ex
  exact (Array.getElem?_eq_some_iff.1 hb).1
theorem MapAt.other {α : Type} {kv : α → Value} {w w' : World} {r g : Nat} {m : List (α × Value)} (h : MapAt kv w r m) (k : w.grownBy w' (some g)) (hn : r ≠ g) : MapAt kv w' r m := by
  obtain ⟨bs, ck, hl, hb⟩ := h.ex
  exact ⟨bs, ck, hl, (k.block r (Array.getElem?_eq_some_iff.1 hb).1 (by simp; exact hn)).trans hb⟩

section
variable {α : Type} [DecidableEq α] {d : TypeDesc} {kv : α → Value}

theorem at_makeMap {α : Type} {c : Cx} (_ : c.g.Ok) {o : Oper} {S : Env} {w : World} {K : Env → World → Prop} {Q : Post} {t : Nat} (kv : α → Value) (ho : o.op = .makeMap t none)
    (k : ∀ w1, Ext w w1 → w1.heap.size = w.heap.size + 1 → MapAt kv w1 w.heap.size [] → putK c S o.dst (.v (.map (some w.heap.size))) (fun S => K S w1)) : AtOp c o S w K Q := by
  refine at_run (w' := w.alloc (.map #[] 0)) (fun a hf => ?_) (k _ (Ext.alloc w _) (by simp) ⟨[], 0, rfl, heap_alloc_new w _⟩)
  simp [execOp, ho, Instr.makeMap]

theorem run_checkKey_plain {P : Program} {t : TypeId} (hu : P.underlying t = some d) (hd : sameKind d < 3) (b : Bool) (n : Nat) (v : Value) (w : World) : (Instr.checkKey b (n + 1) t v).run P w = .ok () w := by
  simp only [Instr.checkKey, Sem.run_bind, run_underlying hu, Result.andThen_ok]
  cases d <;> first | (simp [sameKind] at hd; done) | rfl

theorem findNow_ents (hk : KeyV d kv) (a : α) : ∀ (m : List (α × Value)) (bs : List Nat) (i : Nat), bs.length = m.length →
    ∃ r, Instr.findNow d (kv a) (entsOf kv m bs) i = some r ∧ r.map (·.2) = assoc a m ∧ (∀ j v, r = some (j, v) → i ≤ j ∧ j < i + m.length ∧ ∀ v', entsOf kv (assocSet a v' m) bs = (entsOf kv m bs).modify (j - i) (fun e => { e with key := kv a, val := v' }) ∧ ((entsOf kv m bs)[j - i]?).map (·.key) = some (kv a)) ∧ (r = none → ∀ v', assocSet a v' m = m ++ [(a, v')])
  | [], bs, i, h => ⟨none, rfl, rfl, (fun j v h => by cases h), fun _ v' => rfl⟩
  | (b, u) :: m, [], i, h => by simp at h
  | (b, u) :: m, s :: bs, i, h => by
    have e : entsOf kv ((b, u) :: m) (s :: bs) = { key := kv b, val := u, born := s } :: entsOf kv m bs := rfl
    rw [e]
    unfold Instr.findNow
    simp only [hk.same]
    by_cases hab : a = b
    · subst hab
      simp only [decide_true]
      refine ⟨some (i, u), rfl, by simp [assoc], fun j v hj => ?_, fun h => by cases h⟩
      cases hj
      refine ⟨Nat.le_refl _, by simp, fun v' => ?_⟩
      simp [assocSet, entsOf]
    · simp only [hab, decide_false]
      obtain ⟨r, h1, h2, h3, h4⟩ := findNow_ents hk a m bs (i + 1) (by simpa using h)
      refine ⟨r, h1, by simp [assoc, hab, h2], fun j v hj => ?_, fun hn v' => by simp [assocSet, hab, h4 hn v']⟩
      obtain ⟨h5, h6, h7⟩ := h3 j v hj
      refine ⟨by omega, by simp; omega, fun v' => ?_⟩
      obtain ⟨h8, h9⟩ := h7 v'
      rw [show j - i = (j - (i + 1)) + 1 by omega]
      refine ⟨?_, by simpa using h9⟩
      simp only [assocSet, hab, if_false]
      rw [show entsOf kv ((b, u) :: assocSet a v' m) (s :: bs) = { key := kv b, val := u, born := s } :: entsOf kv (assocSet a v' m) bs from rfl, h8]
      simp

variable {c : Cx} (hg : c.g.Ok) {o : Oper} {S : Env} {w : World} {K : Env → World → Prop} {Q : Post} {t ke e : Nat} {r rk re : TyRow} {x y : Operand} {q : Nat} {m : List (α × Value)} {a : α}
include hg

theorem run_lookup (hr : rowOf c.g.tys t = some r) (hd : r.d = .map ke e) (hrk : rowOf c.g.tys ke = some rk) (hre : rowOf c.g.tys e = some re) (hk : KeyV rk.d kv) (hm : MapAt kv w q m) (ok : Bool) :
    (Instr.lookup t (.map (some q)) (kv a) ok).run c.g.P w = .ok (match assoc a m with
      | some v => if ok then .tuple #[v, .bool true] else v
      | none => if ok then .tuple #[re.z, .bool false] else re.z) w := by
  have hr' := (hg.row hr).1
  rw [hd] at hr'
  have hrk' := (hg.row hrk).1
  obtain ⟨_, i, hi, _, _, hz⟩ := hg.row hre
  obtain ⟨bs, ck, hl, hb⟩ := hm.ex
  obtain ⟨res, h1, h2, _, _⟩ := findNow_ents hk a m bs 0 hl
  have hgo : (getObj q).run c.g.P w = .ok (.map (entsOf kv m bs).toArray ck) w := by simp [getObj, Sem.run, hb]
  simp only [Instr.lookup, Sem.run_bind, run_underlying hr', Result.andThen_ok, hgo]
  simp only [Sem.run_pure, Result.andThen_ok, run_checkKey_plain hrk' hk.plain, Instr.findKey, Sem.run_bind, run_underlying hrk', h1]
  cases res with
  | none =>
    have : assoc a m = none := by simpa using h2.symm
    rw [this]
    cases ok <;> simp [zeroValue, typeInfo, hi, hz]
  | some p =>
    have : assoc a m = some p.2 := by simpa using h2.symm
    rw [this]
    cases ok <;> simp

theorem at_lookup (ho : o.op = .lookup t x y false) (hr : rowOf c.g.tys t = some r) (hd : r.d = .map ke e) (hrk : rowOf c.g.tys ke = some rk) (hre : rowOf c.g.tys e = some re) (hk : KeyV rk.d kv)
    (hx : S.ev x = some (.map (some q))) (hy : S.ev y = some (kv a)) (hm : MapAt kv w q m) (k : putK c S o.dst (.v ((assoc a m).getD re.z)) (fun S => K S w)) : AtOp c o S w K Q := by
  refine at_run (w' := w) (v := (assoc a m).getD re.z) (fun b hf => ?_) k
  have e1 := hf.ev hx
  have e2 := hf.ev hy
  have := run_lookup (w := w) (a := a) hg hr hd hrk hre hk hm false
  simp only [execOp, ho, e1, e2]
  simp only [Sem.run_bind, this, Result.andThen_ok]
  cases assoc a m <;> simp

theorem top_lookup {C : World → Prop} {K : Env → Prop} (ho : o.op = .lookup t x y false) (hr : rowOf c.g.tys t = some r) (hd : r.d = .map ke e) (hrk : rowOf c.g.tys ke = some rk) (hre : rowOf c.g.tys e = some re) (hk : KeyV rk.d kv)
    (hx : S.ev x = some (.map (some q))) (hy : S.ev y = some (kv a)) (hm : ∀ w, C w → MapAt kv w q m) {v : Value} (hv : (assoc a m).getD re.z = v) (k : putK c S o.dst (.v v) K) : TOp c o S C K := by
  subst hv
  refine top_op (v := (assoc a m).getD re.z) (fun b w hf hw => ?_) k
  have e1 := hf.ev hx
  have e2 := hf.ev hy
  have := run_lookup (w := w) (a := a) hg hr hd hrk hre hk (hm w hw) false
  simp only [execOp, ho, e1, e2]
  simp only [Sem.run_bind, this, Result.andThen_ok]
  cases assoc a m <;> simp

theorem at_lookup_ok (ho : o.op = .lookup t x y true) (hr : rowOf c.g.tys t = some r) (hd : r.d = .map ke e) (hrk : rowOf c.g.tys ke = some rk) (hre : rowOf c.g.tys e = some re) (hk : KeyV rk.d kv)
    (hx : S.ev x = some (.map (some q))) (hy : S.ev y = some (kv a)) (hm : MapAt kv w q m) (k : putK c S o.dst (.v (.tuple #[(assoc a m).getD re.z, .bool (assoc a m).isSome])) (fun S => K S w)) : AtOp c o S w K Q := by
  refine at_run (w' := w) (v := .tuple #[(assoc a m).getD re.z, .bool (assoc a m).isSome]) (fun b hf => ?_) k
  have e1 := hf.ev hx
  have e2 := hf.ev hy
  have := run_lookup (w := w) (a := a) hg hr hd hrk hre hk hm true
  simp only [execOp, ho, e1, e2]
  simp only [Sem.run_bind, this, Result.andThen_ok]
  cases assoc a m <;> simp

theorem at_mapUpdate {v : Value} {z : Operand} (ho : o.op = .mapUpdate t x y z) (hdst : o.dst = none) (hr : rowOf c.g.tys t = some r) (hd : r.d = .map ke e) (hrk : rowOf c.g.tys ke = some rk) (hk : KeyV rk.d kv)
    (hx : S.ev x = some (.map (some q))) (hy : S.ev y = some (kv a)) (hz : S.ev z = some v) (hm : MapAt kv w q m)
    (k : ∀ w1, w.grownBy w1 (some q) → w1.heap.size = w.heap.size → MapAt kv w1 q (assocSet a v m) → K S w1) : AtOp c o S w K Q := by
  have hr' := (hg.row hr).1
  rw [hd] at hr'
  have hrk' := (hg.row hrk).1
  obtain ⟨bs, ck, hl, hb⟩ := hm.ex
  have hlt : q < w.heap.size := (Array.getElem?_eq_some_iff.1 hb).1
  obtain ⟨res, h1, h2, h3, h4⟩ := findNow_ents hk a m bs 0 hl
  have hgo : (getObj q).run c.g.P w = .ok (.map (entsOf kv m bs).toArray ck) w := by simp [getObj, Sem.run, hb]
  have hset : ∀ ob, (setObj q ob).run c.g.P w = .ok () { w with heap := w.heap.setIfInBounds q ob } := fun ob => by simp [setObj, Sem.run, hb]
  have main : ∃ ob, (Instr.mapUpdate t (.map (some q)) (kv a) v).run c.g.P w = .ok () { w with heap := w.heap.setIfInBounds q ob } ∧ ∃ bs' ck', bs'.length = (assocSet a v m).length ∧ ob = .map (entsOf kv (assocSet a v m) bs').toArray ck' := by
    cases res with
    | none =>
      refine ⟨_, ?_, bs ++ [ck], ck + 1, ?_, rfl⟩
      · simp only [Instr.mapUpdate, Sem.run_bind, run_underlying hr', Result.andThen_ok, hgo, run_checkKey_plain hrk' hk.plain, Instr.findKey, run_underlying hrk', h1, Sem.run_pure, hset]
        rw [h4 rfl v]
        congr 4
        simp only [entsOf]
        rw [List.zip_append hl.symm, List.map_append]
        simp
      · rw [h4 rfl v]; simp [hl]
    | some p =>
      obtain ⟨j, u⟩ := p
      obtain ⟨_, hj, h7⟩ := h3 j u rfl
      obtain ⟨h8, h9⟩ := h7 v
      simp only [Nat.sub_zero] at h8 h9
      have hkey : (((entsOf kv m bs).toArray[j]?).map (·.key)).getD (kv a) = kv a := by
        rw [show (entsOf kv m bs).toArray[j]? = (entsOf kv m bs)[j]? from by simp, h9]; rfl
      refine ⟨_, ?_, bs, ck, ?_, rfl⟩
      · simp only [Instr.mapUpdate, Sem.run_bind, run_underlying hr', Result.andThen_ok, hgo, run_checkKey_plain hrk' hk.plain, Instr.findKey, run_underlying hrk', h1, Sem.run_pure, hkey, Instr.keyThatStays, hk.bits, if_true, hset]
        rw [h8]
        congr 4
        simp
      · have := congrArg List.length h8
        simp only [entsOf, List.length_map, List.length_zip, List.length_modify] at this
        have hlen : (assocSet a v m).length = m.length := by
          have hmin : ∀ (m : List (α × Value)), (assoc a m).isSome → (assocSet a v m).length = m.length := by
            intro m
            induction m with
            | nil => intro h; simp [assoc] at h
            | cons p m ih =>
              obtain ⟨b, x⟩ := p
              intro h
              simp only [assocSet]
              split
              · simp
              · rename_i hab; simp [ih (by simpa [assoc, hab] using h)]
          exact hmin m (by rw [← h2]; rfl)
        rw [hlen, hl]
  obtain ⟨ob, hrun, bs', ck', hl', rfl⟩ := main
  unfold AtOp
  intro b hf
  have e1 := hf.ev hx
  have e2 := hf.ev hy
  have e3 := hf.ev hz
  unfold Oper.wp
  have : (execOp b.eval o).run c.g.P w = .ok .skip { w with heap := w.heap.setIfInBounds q (.map (entsOf kv (assocSet a v m) bs').toArray ck') } := by
    simp only [execOp, ho, e1, e2, e3]
    simp [hrun]
  rw [this]
  refine ⟨S, by rw [hdst]; simpa [Act.put] using hf, k _ ⟨rfl, rfl, rfl, by simp, fun i _ hi => ?_⟩ (by simp) ⟨bs', ck', hl', ?_⟩⟩
  · simp only [Array.getElem?_setIfInBounds]
    rw [if_neg (fun e => hi (by rw [e]))]
  · simp [hlt]
end
end Go.Proofs.YtedopgkbajhanaaGreatDoor
