/-
  SourceErrors: the walk.
  Conditions: none.
-/
import Derived.Test.YtedopgkbajhanaaGreatDoorTc
namespace Go.Proofs.YtedopgkbajhanaaGreatDoor
open Go Go.RowKit

/-- Where a reading's error is; no place if there is none. -/
def plE (r : Except Pl Gs) : Pl := match r with | .error q => q | .ok _ => ⟨0, 0, 0⟩
theorem read_any {k : Nat} {w w' : World} {r : Except Pl Gs} {u : Value} (h : ReadR k w r u w') : ∃ tx A n c, u = .tuple #[srcV tx A n c, .agg (plC (plE r)).toArray] ∧ Ext w w' := by
  obtain ⟨hE, h⟩ := h
  cases r with
  | ok g => obtain ⟨_, A, c, L, rfl, _⟩ := h; exact ⟨_, _, _, _, rfl, hE⟩
  | error q => subst h; exact ⟨[], none, 0, 0, rfl, hE⟩
def sufs : List (List (List Nat)) := [[], [[109, 111, 114, 101]], [[35, 101, 110, 100], [35, 101, 108, 115, 101]], [[35, 105, 102, 32, 65], [109, 111, 114, 101], [35, 101, 110, 100]]]
theorem sufs_ok (k : Nat) : Lines (sufs[k]?.getD []) ∧ (unl (sufs[k]?.getD [])).length ≤ 20 ∧ ∀ x ∈ unl (sufs[k]?.getD []), x < 256 := by
  rcases k with _ | _ | _ | _ | k
  · exact ⟨(by unfold Lines; decide), by decide, by decide⟩
  · exact ⟨(by unfold Lines; decide), by decide, by decide⟩
  · exact ⟨(by unfold Lines; decide), by decide, by decide⟩
  · exact ⟨(by unfold Lines; decide), by decide, by decide⟩
  · exact ⟨(fun s hs => by cases hs), Nat.zero_le _, (fun x hx => by cases hx)⟩
theorem unl_app (a b : List (List Nat)) : unl (a ++ b) = unl a ++ unl b := by simp [unl]
theorem unl_at {ls : List (List Nat)} {i : Nat} {s : List Nat} (h : ls[i]? = some s) : unl ls = unl (ls.take i) ++ (s ++ 10 :: unl (ls.drop (i + 1))) ∧ (unl (ls.take (i + 1))).length = (unl (ls.take i)).length + s.length + 1 := by
  obtain ⟨h1, rfl⟩ := List.getElem?_eq_some_iff.1 h
  constructor
  · conv => lhs; rw [← List.take_append_drop i ls, List.drop_eq_getElem_cons h1, unl_app, unl_cons]
  · rw [List.take_add_one, List.getElem?_eq_getElem h1, unl_app]; simp [unl]; omega

theorem store_own2 {w : World} {base e sz n c o i : Nat} {a : Addr} {xs : List Value} {v : Value} {K : World → Prop} (h : Own w base e sz (some a) n c xs) (hn : 0 < n) (hj : o + i < n * sz)
    (k : ∀ w1, Mod (rowS (some a)) w w1 → Own w1 base e sz (some a) n c (xs.set (o + i) v) → K w1) : Store w ((a.add o).add i) v K := by
  rw [add_add]; exact store_ownN h hn hj k
set_option maxHeartbeats 1600000 in
theorem errors_law (A : Option Addr) (n c : Nat) (fs : List (List Nat × List Nat)) (k : Nat) (w : World) (h : SlS fileC 2 w A n c fs) (hb : ∀ x ∈ fs, FileB x) (hk : k ≤ 255) :
    Fn Tryz.prog 10 [.slice A n c, .int .u8 k] w (fun v w' => v = .bool true ∧ Ext w w') := by
  have hn := h.2
  refine fn_of_exec (c := { c10 with cuts := [] }) gx_ok Tryz.func10 rfl rfl rfl ?_
  refine call (sanity7_fn w) ?_
  rintro _ w1 ⟨rfl, hE1⟩
  refine call (letters_fn 3 w1 (by decide)) ?_
  rintro _ w2 ⟨NA, nc, rfl, hE2, hN2⟩
  have hE02 := hE1.trans hE2
  obtain ⟨hnb, hnok, hnl⟩ := letters_ok 3 (by decide)
  generalize letters12.take 3 = nm at *
  refine call (few_fn fs A n c w2 (h.ext hE02)) ?_
  rintro _ w3 ⟨rfl, hE3⟩
  have hE03 := hE02.trans hE3
  cases hfew : fewP fs with
  | false =>
    refine wif_t rfl ?_
    exact ⟨rfl, hE03⟩
  | true =>
  refine wif_f rfl ?_
  have hfew' : fs.length ≤ 3 ∧ ∀ x ∈ fs, x.2.length ≤ 300 ∧ x.1.length ≤ 20 := of_decide_eq_true hfew
  refine wif_eq (fun c1 => ?_) (fun c1 => ?_)
  · exact ⟨rfl, hE03⟩
  obtain ⟨x, fs', rfl⟩ : ∃ x fs', fs = x :: fs' := by
    cases fs with
    | nil => simp at hn; omega
    | cons x l => exact ⟨x, l, rfl⟩
  have hxb := hb x (by simp)
  have hxl := hfew'.2 x (by simp)
  refine index_sls (j := 0) file_len (h.ext hE03) rfl (by omega) (fun p y hy hcl => ?_)
  cases hy
  refine load (by have := hcl 0 _ rfl; simpa [Addr.add] using this) ?_
  refine call (sread_fn nm NA 3 nc (x :: fs') A n c x.1 w3 (hN2.ext hE3) hnb (by omega) (h.ext hE03) hb (by omega) hxb.n8) ?_
  intro u w4 hR4
  obtain ⟨tx, SA, sn, sc', rfl, hE4⟩ := read_any hR4
  have hE04 := hE03.trans hE4
  generalize hr : readE nm (x :: fs') x.1 = r at *
  refine new (fun w5 hE5 hz5 hB5 => ?_)
  refine new (fun w6 hE6 hz6 hB6 => ?_)
  refine storeN_blk0 (hB5.ext hE6) rfl (sc rfl) (fun w7 hg7 _ hB7 => ?_)
  have hM7 : Mod (· = w4.heap.size) w6 w7 := Mod.of_grown hg7 rfl
  refine storeN_blk0 (hB6.mod hM7 (by omega)) rfl (sc rfl) (fun w8 hg8 _ hB8 => ?_)
  have hM8 : Mod (· = w5.heap.size) w7 w8 := Mod.of_grown hg8 rfl
  have hE48 : Ext w4 w8 := hM8.ext (hM7.ext (hE5.trans hE6) (fun i hi => by omega)) (fun i hi => by omega)
  have hE08 := hE04.trans hE48
  refine load_blk hB8 rfl ?_
  refine wif_ne (fun c2 => ?_) (fun c2 => ?_)
  · exact ⟨rfl, hE08⟩
  refine load_blk hB8 rfl ?_
  refine wif_d (fun c3 => ?_) (fun c3 => ?_)
  · exact ⟨rfl, hE08⟩
  refine load_blk0 hB8 rfl ?_
  refine wif_eq (fun c4 => ?_) (fun c4 => ?_)
  · exact ⟨rfl, hE08⟩
  refine load_blk0 hB8 rfl ?_
  refine wif_eq (fun c5 => ?_) (fun c5 => ?_)
  · exact ⟨rfl, hE08⟩
  cases r with
  | ok g => exact absurd rfl c5
  | error q =>
  have c2 : q.f = 0 := c2
  have c3 : ¬ q.l < 1 := c3
  have c4 : ¬ q.e = 72 := c4
  obtain ⟨hok, m, hm, hql, hagain⟩ := stop_read hr c2 (by omega) c4
  refine index_sls (j := 0) file_len (h.ext hE08) rfl (by omega) (fun p2 y2 hy2 hcl2 => ?_)
  cases hy2
  refine load (hcl2 1 _ rfl) ?_
  have htx : unl (linesOf x.2) = x.2 := unl_linesOf hok
  have hls := linesOf_lines x.2
  have hts := strOf_size x.2
  have hul := unl_le (linesOf x.2)
  rw [htx] at hul
  generalize linesOf x.2 = ls at *
  refine loop gx_ok [12, 11] (fun s : Nat => [.int .i64 s, .int .i64 (((unl (ls.take s)).length : Nat) : Int)]) (fun s w' => w8 = w' ∧ s ≤ m + 1) (fun s _ => m + 1 - s) 0 rfl ⟨rfl, Nat.zero_le _⟩ ?_
  rintro s _ ⟨rfl, hs⟩
  refine load_blk hB8 rfl ?_
  refine wif_d (fun d1 => ?_) (fun d1 => ?_)
  · have d1 : (s : Int) < q.l := d1
    have hsl : s < ls.length := by omega
    have hg : ls[s]? = some ls[s] := List.getElem?_eq_getElem hsl
    have hl10 := hls _ (List.mem_of_getElem? hg)
    obtain ⟨u1, u2⟩ := unl_at hg
    generalize ls[s] = l at *
    rw [htx] at u1
    have hlen : x.2.length = (unl (ls.take s)).length + (l.length + ((unl (ls.drop (s + 1))).length + 1)) := by rw [u1]; simp
    have get : ∀ j, j ≤ l.length → x.2[(unl (ls.take s)).length + j]? = some (if j < l.length then l[j]?.getD 0 else 10) := fun j hj => by
      rw [u1, List.getElem?_append_right (by omega), show (unl (ls.take s)).length + j - (unl (ls.take s)).length = j by omega]
      by_cases hjl : j < l.length
      · rw [List.getElem?_append_left hjl, if_pos hjl, List.getElem?_eq_getElem hjl]; rfl
      · rw [if_neg hjl, List.getElem?_append_right (by omega), show j - l.length = 0 by omega]; rfl
    refine loop gx_ok [11] (fun j : Nat => [.int .i64 (((unl (ls.take s)).length + j : Nat) : Int)]) (fun j w' => w8 = w' ∧ j ≤ l.length) (fun j _ => l.length - j) 0 rfl ⟨rfl, Nat.zero_le _⟩ ?_
    rintro j _ ⟨rfl, hj⟩
    refine wif_dt (by rw [hts]; omega) ?_
    refine sindex' (by rw [hts]; omega) (fun z hz _ => ?_)
    rw [bytesOf_strOf hxb.t8, get j hj] at hz
    refine wif_ne (fun e1 => ?_) (fun e1 => ?_)
    · have hjl : j < l.length := by
        by_cases hjl : j < l.length
        · exact hjl
        · rw [if_neg hjl] at hz; cases hz; exact absurd rfl e1
      refine norm_i64_to (((unl (ls.take s)).length + (j + 1) : Nat) : Int) (by omega) (by omega) ?_
      exact ⟨j + 1, rfl, ⟨rfl, hjl⟩, by show l.length - (j + 1) < l.length - j; omega⟩
    · have hjl : j = l.length := by
        by_cases hjl : j < l.length
        · rw [if_pos hjl, List.getElem?_eq_getElem hjl] at hz
          simp only [Option.getD_some, Option.some.injEq] at hz
          exact absurd (show (10 : Nat) ∈ l from (show l[j] = 10 by omega) ▸ List.getElem_mem hjl) hl10
        · omega
      subst hjl
      refine wif_eqf (by rw [hts]; omega) ?_
      refine norm_i64_to (((unl (ls.take (s + 1))).length : Nat) : Int) (by rw [u2]; omega) (by omega) ?_
      refine norm_i64_to ((s + 1 : Nat) : Int) (by show ((s : Nat) : Int) + 1 = _; omega) (by omega) ?_
      exact ⟨s + 1, rfl, ⟨rfl, by omega⟩, by show m + 1 - (s + 1) < m + 1 - s; omega⟩
  · have d1 : ¬ (s : Int) < q.l := d1
    have hsm : s = m + 1 := by omega
    subst hsm
    refine at_buildN gx_ok [] rfl rfl rfl rfl rfl ⟨⟩ rfl (fun cs h => by cases h) rfl (by decide) (by decide) ?_
    intro w9 hE9 hz9 hB9
    have hE09 := hE08.trans hE9
    have hO9 : Own w9 w8.heap.size 38 2 (some ⟨w8.heap.size, 0, none⟩) 0 0 [] := Own.empty hB9 (Nat.le_refl _)
    refine at_app gx_ok rfl rfl rfl rfl rfl (by decide) rfl rfl ⟨_, rfl⟩ rfl rfl hO9 (h.ext hE09).1 (by
      intro u hu
      obtain ⟨y, _, hy⟩ := List.mem_flatMap.1 hu
      obtain ⟨s, rfl⟩ := file_str y u hy
      rfl) (by unfold maxLen; omega) (by show (0 + n) * 32 ≤ _; omega) (by omega) ?_
    intro O oc w10 hM10 hO10 hV10
    rw [List.nil_append] at hO10
    have hn0 : 0 + n = n := Nat.zero_add n
    rw [hn0] at hO10 ⊢
    obtain ⟨oa, rfl, _⟩ := hO10.sl.at_ (by omega : 0 < n)
    have hE810 : Ext w8 w10 := hM10.ext hE9 (fun i hi => (hO9.rows i hi).1)
    have hE010 := hE08.trans hE810
    have hB10 := hB8.ext hE810
    have hq : (unl (ls.take (m + 1))).length ≤ x.2.length := by
      rw [← htx]
      conv => rhs; rw [← List.take_append_drop (m + 1) ls, unl_app]
      simp
    have hpre : x.2.take (unl (ls.take (m + 1))).length = unl (ls.take (m + 1)) := by
      conv => lhs; rw [← htx, ← List.take_append_drop (m + 1) ls, unl_app, List.take_append_drop (m + 1) ls, List.take_left]
    refine draw_plan gx_ok (Mod (rowS (some oa)) w10) 14 [(true, 0), (true, 1), (true, 2), (true, 3), (true, 5), (true, 6), (true, 7), (false, 4), (true, 8), (false, 9), (true, 10), (true, 11), (true, 12), (false, 13)] (by kernel_rfl) (Mod.of_ext _ (Ext.drew w10)) ?_
    have hd10 := Ext.drew w10
    refine need_to (v' := .string (strOf (unl (ls.take (m + 1))))) ⟨by omega, by omega, by rw [hts]; omega⟩ (by rw [strOf_extract]; simp only [Int.toNat_natCast]; rw [hpre]; rfl) ?_
    have hk4 : k % 4 < 4 := Nat.mod_lt _ (by decide)
    refine norm_i64_to ((k : Nat) : Int) rfl (by omega) ?_
    refine normIf (m := ((k % 4 : Nat) : Int)) (by decide) rfl ?_
    refine at_buildN gx_ok ([[], [109, 111, 114, 101, 10], [35, 101, 110, 100, 10, 35, 101, 108, 115, 101, 10], [35, 105, 102, 32, 65, 10, 109, 111, 114, 101, 10, 35, 101, 110, 100, 10]].map (fun s => [Value.string (strOf s)])) rfl rfl rfl rfl rfl ⟨rfl, rfl, rfl, rfl, rfl, rfl, rfl, rfl, ⟨⟩⟩ rfl (fun cs h => by simp only [List.mem_map] at h; obtain ⟨s, _, rfl⟩ := h; rfl) rfl (by decide) (by decide) ?_
    intro w11 hE11 hz11 hB11
    refine ⟨Mod.of_ext _ (hd10.trans hE11), ?_⟩
    obtain ⟨f1, f2, f3⟩ := sufs_ok (k % 4)
    have hz : ∃ T, sufs[k % 4]?.getD [] = T ∧ ([[], [109, 111, 114, 101, 10], [35, 101, 110, 100, 10, 35, 101, 108, 115, 101, 10], [35, 105, 102, 32, 65, 10, 109, 111, 114, 101, 10, 35, 101, 110, 100, 10]].map (fun s => [Value.string (strOf s)])).flatten[k % 4]? = some (.string (strOf (unl T))) := by
      generalize k % 4 = r at hk4
      rcases (show r = 0 ∨ r = 1 ∨ r = 2 ∨ r = 3 by omega) with rfl | rfl | rfl | rfl <;> exact ⟨_, rfl, rfl⟩
    obtain ⟨T, hT, hz⟩ := hz
    rw [hT] at f1 f2 f3
    refine index (j := k % 4) hk4 ?_
    refine load_blk hB11 hz ?_
    refine ⟨Mod.of_ext _ (hd10.trans hE11), ?_⟩
    have hs1 := strOf_size (unl (ls.take (m + 1)))
    have hs2 := strOf_size (unl T)
    have hs3 := strOf_size (unl (ls.take (m + 1) ++ T))
    refine need_to (v' := .string (strOf (unl (ls.take (m + 1) ++ T)))) (by rw [hs1, hs2]; unfold maxLen; omega) (by rw [unl_app, strOf_append]) ?_
    refine index_n (j := 0) (by omega) ?_
    have hO11 := hO10.ext (hd10.trans hE11)
    refine store_own2 hO11 (by omega) (show 0 * 2 + 1 < n * 2 by omega) (fun w12 hM12 hO12 => ?_)
    have hM1012 : Mod (rowS (some oa)) w10 w12 := (Mod.of_ext _ (hd10.trans hE11)).trans hM12 (fun i hi => .inl hi)
    refine ⟨hM1012, ?_⟩
    have hE812 : Ext w8 w12 := hM1012.ext hE810 (fun i hi => (hO10.rows i hi).1)
    have hE012 := hE08.trans hE812
    have hS12 : SlS fileC 2 w12 (some oa) n oc ((x.1, unl (ls.take (m + 1) ++ T)) :: fs') := ⟨hO12.sl, by simpa using hn⟩
    refine call (sread_fn nm NA 3 nc ((x.1, unl (ls.take (m + 1) ++ T)) :: fs') (some oa) n oc x.1 w12 (hN2.ext ((hE3.trans hE4).trans (hE48.trans hE812))) hnb (by omega) hS12 (fun y hy => by
      rcases List.mem_cons.1 hy with rfl | hy
      · refine ⟨hxb.n8, fun b hb' => ?_, hxb.nl, ?_⟩
        · simp only [unl_app] at hb'
          rcases List.mem_append.1 hb' with hb' | hb'
          · rw [← hpre] at hb'; exact hxb.t8 b (List.mem_of_mem_take hb')
          · exact f3 b hb'
        · simp only [unl_app, List.length_append]; omega
      · exact hb y (List.mem_cons_of_mem _ hy)) (by omega) hxb.n8) ?_
    intro u w13 hR13
    rw [hagain T f1 (by rw [unl_app, List.length_append]; omega)] at hR13
    obtain ⟨tx2, SA2, sn2, sc2, rfl, hE13⟩ := read_any hR13
    refine new (fun w14 hE14 hz14 hB14 => ?_)
    refine new (fun w15 hE15 hz15 hB15 => ?_)
    refine storeN_blk0 (hB14.ext hE15) rfl (sc rfl) (fun w16 hg16 _ hB16 => ?_)
    have hM16 : Mod (· = w13.heap.size) w15 w16 := Mod.of_grown hg16 rfl
    refine storeN_blk0 (hB15.mod hM16 (by omega)) rfl (sc rfl) (fun w17 hg17 _ hB17 => ?_)
    have hM17 : Mod (· = w14.heap.size) w16 w17 := Mod.of_grown hg17 rfl
    have hE1317 : Ext w13 w17 := hM17.ext (hM16.ext (hE14.trans hE15) (fun i hi => by omega)) (fun i hi => by omega)
    refine loadN_blk0 hB17 rfl ?_
    refine loadN_blk0 (hB8.ext ((hE812.trans hE13).trans hE1317)) rfl ?_
    refine wif_t ?_ ?_
    · simp
    exact ⟨rfl, (hE012.trans hE13).trans hE1317⟩
end Go.Proofs.YtedopgkbajhanaaGreatDoor
