/-
  SourceErrors.
  Conditions: none.
-/
import Derived.Test.YtedopgkbajhanaaGreatDoorTb
import Derived.Test.YtedopgkbajhanaaGreatDoorPo
namespace Go.Proofs.YtedopgkbajhanaaGreatDoor
open Go Go.RowKit

/-! ### few -/
def fewP (fs : List (List Nat × List Nat)) : Bool := decide (fs.length ≤ 3 ∧ ∀ x ∈ fs, x.2.length ≤ 300 ∧ x.1.length ≤ 20)
theorem few_fn (fs : List (List Nat × List Nat)) (A : Option Addr) (n c : Nat) (w : World) (h : SlS fileC 2 w A n c fs) :
    Fn Tryz.prog 15 [.slice A n c] w (fun v w' => v = .bool (fewP fs) ∧ Ext w w') := by
  have hn := h.2
  refine fn_of_exec (c := { c15 with cuts := [] }) gx_ok Tryz.func15 rfl rfl rfl ?_
  refine wif_d (fun c1 => ?_) (fun c1 => ?_)
  · exact ⟨by unfold fewP; rw [decide_eq_false (fun hh => by omega)], Ext.refl _⟩
  refine loop gx_ok [3] (fun s : Nat => [.int .i64 s]) (fun s w' => w = w' ∧ s ≤ n ∧ ∀ x ∈ fs.take s, x.2.length ≤ 300 ∧ x.1.length ≤ 20) (fun s _ => n - s) 0 rfl ⟨rfl, Nat.zero_le _, fun x hx => by simp at hx⟩ ?_
  rintro s _ ⟨rfl, hs, hall⟩
  refine wif_d (fun c2 => ?_) (fun c2 => ?_)
  · refine index_sls file_len h rfl (by omega) (fun p x hx hc => ?_)
    have hxm := List.mem_of_getElem? hx
    have s1 := strOf_size x.1
    have s2 := strOf_size x.2
    refine load (hc 1 _ rfl) ?_
    refine wif_d (fun c3 => ?_) (fun c3 => ?_)
    · exact ⟨by unfold fewP; rw [decide_eq_false (fun hh => by have := (hh.2 x hxm).1; omega)], Ext.refl _⟩
    refine index_sls file_len h rfl (by omega) (fun p' x' hx' hc' => ?_)
    rw [hx] at hx'
    cases hx'
    refine load (by have := hc' 0 _ rfl; simpa [Addr.add] using this) ?_
    refine wif_d (fun c4 => ?_) (fun c4 => ?_)
    · exact ⟨by unfold fewP; rw [decide_eq_false (fun hh => by have := (hh.2 x hxm).2; omega)], Ext.refl _⟩
    refine norm_i64_to ((s + 1 : Nat) : Int) (by show ((s : Nat) : Int) + 1 = _; omega) (by omega) ?_
    refine ⟨s + 1, rfl, ⟨rfl, by omega, fun y hy => ?_⟩, by show n - (s + 1) < n - s; omega⟩
    rw [List.take_add_one, hx] at hy
    rcases List.mem_append.1 hy with hy | hy
    · exact hall y hy
    · simp only [Option.toList_some, List.mem_singleton] at hy; subst hy; exact ⟨by omega, by omega⟩
  · rw [List.take_of_length_le (by omega)] at hall
    exact ⟨by unfold fewP; rw [decide_eq_true ⟨by omega, hall⟩], Ext.refl _⟩

/-! ### What an error depends on -/
/-- The same lines up to an error of their own: the same error. -/
theorem rdL_stop {nm : List (List Nat)} {n d0 : Nat} {inc inc' : IncF} (hi : ∀ r ln d k g, inc' r ln d k g = inc r ln d k g) (hp : ∀ r ln d k g p, inc r ln d k g = .error p → p.f = n → p.l ≠ 0 → p.l = (ln : Nat)) :
    ∀ (ls : List (List Nat)) (ln at_ : Nat) (k : BF) (op : List Se) (g : Gs) (q : Pl), rdL nm n d0 inc ls ln at_ k op g = .error q → q.f = n → q.e ≠ 72 → q.l ≠ 0 →
      ∃ m : Nat, m < ls.length ∧ q.l = ((ln + m + 1 : Nat) : Int) ∧ ∀ rest, rdL nm n d0 inc' (ls.take (m + 1) ++ rest) ln at_ k op g = .error q
  | [], ln, at_, k, op, g, q, hr, hf, he, h0 => by
    rw [rdL.eq_def] at hr
    cases op with
    | nil => cases hr
    | cons x op => simp only [Except.error.injEq] at hr; subst hr; exact absurd rfl he
  | s :: ls, ln, at_, k, op, g, q, hr, hf, he, h0 => by
    have ih := fun at_ k op g => rdL_stop (nm := nm) (d0 := d0) hi hp ls (ln + 1) at_ k op g q
    have here : ∀ (e : Int), (Except.error ⟨e, (n : Int), ((ln + 1 : Nat) : Int)⟩ : Except Pl Gs) = .error q → q.l = ((ln + 0 + 1 : Nat) : Int) := fun e h => by cases h; rfl
    rw [rdL.eq_def] at hr
    simp only at hr
    have goal0 : q.l = ((ln + 0 + 1 : Nat) : Int) → (∀ rest, rdL nm n d0 inc' (s :: rest) ln at_ k op g = .error q) → ∃ m : Nat, m < (s :: ls).length ∧ q.l = ((ln + m + 1 : Nat) : Int) ∧ ∀ rest, rdL nm n d0 inc' ((s :: ls).take (m + 1) ++ rest) ln at_ k op g = .error q := fun h1 h2 => ⟨0, by simp, h1, fun rest => by simpa using h2 rest⟩
    have goal1 : ∀ (at' : Nat) (k' : BF) (op' : List Se) (g' : Gs), rdL nm n d0 inc ls (ln + 1) at' k' op' g' = .error q → (∀ rest, rdL nm n d0 inc' (s :: rest) ln at_ k op g = rdL nm n d0 inc' rest (ln + 1) at' k' op' g') → ∃ m : Nat, m < (s :: ls).length ∧ q.l = ((ln + m + 1 : Nat) : Int) ∧ ∀ rest, rdL nm n d0 inc' ((s :: ls).take (m + 1) ++ rest) ln at_ k op g = .error q := fun at' k' op' g' h1 h2 => by
      obtain ⟨m, m1, m2, m3⟩ := ih at' k' op' g' h1 hf he h0
      refine ⟨m + 1, by simp; omega, by rw [m2]; congr 1; omega, fun rest => ?_⟩
      rw [List.take_succ_cons, List.cons_append, h2]
      exact m3 rest
    cases hdir : dirOf s with
    | txt =>
      rw [hdir] at hr
      simp only at hr
      cases ha : addG (s ++ [10]) n at_ k g with
      | none => rw [ha] at hr; exact goal0 (here _ hr) (fun rest => by rw [rdL.eq_def]; simp only [hdir, ha]; exact hr)
      | some g1 => rw [ha] at hr; exact goal1 _ _ _ _ hr (fun rest => by rw [rdL.eq_def]; simp only [hdir, ha])
    | ifd r =>
      rw [hdir] at hr
      simp only at hr
      cases hs : setE nm r with
      | error e => rw [hs] at hr; exact goal0 (here _ hr) (fun rest => by rw [rdL.eq_def]; simp only [hdir, hs]; exact hr)
      | ok d =>
        rw [hs] at hr
        simp only at hr
        by_cases h64 : d0 + op.length = 64
        · rw [if_pos h64] at hr; exact goal0 (here _ hr) (fun rest => by rw [rdL.eq_def]; simp only [hdir, hs, if_pos h64]; exact hr)
        · rw [if_neg h64] at hr; exact goal1 _ _ _ _ hr (fun rest => by rw [rdL.eq_def]; simp only [hdir, hs, if_neg h64])
    | inc r =>
      rw [hdir] at hr
      simp only at hr
      cases hs : inc r (ln + 1) (d0 + op.length) k g with
      | error p =>
        rw [hs] at hr
        simp only [Except.error.injEq] at hr
        subst hr
        exact goal0 (hp _ _ _ _ _ _ hs hf h0) (fun rest => by rw [rdL.eq_def]; simp only [hdir, hi, hs])
      | ok g1 => rw [hs] at hr; exact goal1 _ _ _ _ hr (fun rest => by rw [rdL.eq_def]; simp only [hdir, hi, hs])
    | elif r =>
      rw [hdir] at hr
      cases op with
      | nil => exact goal0 (here _ hr) (fun rest => by rw [rdL.eq_def]; simp only [hdir]; exact hr)
      | cons y op =>
        simp only at hr
        cases hy : y.ot with
        | true => rw [hy, if_pos rfl] at hr; exact goal0 (here _ hr) (fun rest => by rw [rdL.eq_def]; simp only [hdir, hy, if_pos]; exact hr)
        | false =>
          rw [hy, if_neg (by decide)] at hr
          cases hs : setE nm r with
          | error e => rw [hs] at hr; exact goal0 (here _ hr) (fun rest => by rw [rdL.eq_def]; simp only [hdir, hy, hs]; exact hr)
          | ok d => rw [hs] at hr; exact goal1 _ _ _ _ hr (fun rest => by rw [rdL.eq_def]; simp only [hdir, hy, hs]; rfl)
    | els =>
      rw [hdir] at hr
      cases op with
      | nil => exact goal0 (here _ hr) (fun rest => by rw [rdL.eq_def]; simp only [hdir]; exact hr)
      | cons y op =>
        simp only at hr
        cases hy : y.ot with
        | true => rw [hy, if_pos rfl] at hr; exact goal0 (here _ hr) (fun rest => by rw [rdL.eq_def]; simp only [hdir, hy, if_pos]; exact hr)
        | false => rw [hy, if_neg (by decide)] at hr; exact goal1 _ _ _ _ hr (fun rest => by rw [rdL.eq_def]; simp only [hdir, hy]; rfl)
    | en =>
      rw [hdir] at hr
      cases op with
      | nil => exact goal0 (here _ hr) (fun rest => by rw [rdL.eq_def]; simp only [hdir]; exact hr)
      | cons y op => exact goal1 _ _ _ _ hr (fun rest => by rw [rdL.eq_def]; simp only [hdir])

/-- Two lists of files that differ in the texts of some being read. -/
structure SameF (rd : List Nat) (fs fs' : List (List Nat × List Nat)) : Prop where
  nm : fs'.map (·.1) = fs.map (·.1)
  tx : ∀ i, i ∉ rd → fs'[i]? = fs[i]?
theorem SameF.cons {rd : List Nat} {fs fs' : List (List Nat × List Nat)} (h : SameF rd fs fs') (n : Nat) : SameF (n :: rd) fs fs' := ⟨h.nm, fun i hi => h.tx i (fun hh => hi (List.mem_cons_of_mem _ hh))⟩
theorem rdF_same {nm : List (List Nat)} {fs fs' : List (List Nat × List Nat)} : ∀ (f : Nat) (rd : List Nat) (d n : Nat) (k : BF) (g : Gs), SameF rd fs fs' → n ∉ rd → rdF nm fs' f rd d n k g = rdF nm fs f rd d n k g
  | 0, _, _, _, _, _, _, _ => rfl
  | f + 1, rd, d, n, k, g, h, hn => by
    rw [rdF, rdF, h.nm, h.tx n hn]
    congr 1
    funext r ln d' k' g'
    cases he : incE (ixN (fs.map (·.1))) (n :: rd) r with
    | error e => rfl
    | ok m =>
      simp only
      split
      · rfl
      · obtain ⟨hm, _⟩ := incE_ok he
        exact rdF_same f (n :: rd) (d' + 1) m k' g' (h.cons n) hm
/-- An error of a file that is being read is none of the included ones'. -/
theorem rdL_file {nm : List (List Nat)} {n d0 : Nat} {inc : IncF} {j : Nat} (hj : j ≠ n) (hi : ∀ r ln d k g p, inc r ln d k g = .error p → p.l = 0 ∨ p.f ≠ j) : ∀ (ls : List (List Nat)) (ln at_ : Nat) (k : BF) (op : List Se) (g : Gs) (q : Pl), rdL nm n d0 inc ls ln at_ k op g = .error q → q.l = 0 ∨ q.f ≠ j
  | [], ln, at_, k, op, g, q, hr => by
    rw [rdL.eq_def] at hr
    cases op with
    | nil => cases hr
    | cons x op => simp only [Except.error.injEq] at hr; subst hr; right; simp only; omega
  | s :: ls, ln, at_, k, op, g, q, hr => by
    have ih := fun at_ k op g => rdL_file (nm := nm) (d0 := d0) hj hi ls (ln + 1) at_ k op g q
    have here : ∀ (e : Int) (l : Int), (Except.error ⟨e, (n : Int), l⟩ : Except Pl Gs) = .error q → q.l = 0 ∨ q.f ≠ j := fun e l h => by cases h; right; simp only; omega
    rw [rdL.eq_def] at hr
    simp only at hr
    split at hr
    · split at hr
      · exact here _ _ hr
      · split at hr
        · exact here _ _ hr
        · exact ih _ _ _ _ hr
    · split at hr
      · rename_i p hp
        simp only [Except.error.injEq] at hr
        subst hr
        exact hi _ _ _ _ _ _ hp
      · exact ih _ _ _ _ hr
    · split at hr
      · exact here _ _ hr
      · split at hr
        · exact here _ _ hr
        · split at hr
          · exact here _ _ hr
          · exact ih _ _ _ _ hr
    · split at hr
      · exact here _ _ hr
      · split at hr
        · exact here _ _ hr
        · exact ih _ _ _ _ hr
    · split at hr
      · exact here _ _ hr
      · exact ih _ _ _ _ hr
    · split at hr
      · exact here _ _ hr
      · exact ih _ _ _ _ hr
theorem rdF_file {nm : List (List Nat)} {fs : List (List Nat × List Nat)} {j : Nat} : ∀ (f : Nat) (rd : List Nat) (d n : Nat) (k : BF) (g : Gs) (q : Pl), j ∈ rd → n ∉ rd → rdF nm fs f rd d n k g = .error q → q.l = 0 ∨ q.f ≠ j
  | 0, _, _, _, _, _, _, _, _, hr => by cases hr; exact .inl rfl
  | f + 1, rd, d, n, k, g, q, hj, hn, hr => by
    have hjn : j ≠ n := fun e => hn (e ▸ hj)
    rw [rdF] at hr
    refine rdL_file hjn ?_ _ _ _ _ _ _ _ hr
    intro r ln d' k' g' p hi
    cases he : incE (ixN (fs.map (·.1))) (n :: rd) r with
    | error e => rw [he] at hi; cases hi; right; simp only; omega
    | ok m =>
      rw [he] at hi
      simp only at hi
      split at hi
      · cases hi; right; simp only; omega
      · obtain ⟨hm, _⟩ := incE_ok he
        exact rdF_file f (n :: rd) (d' + 1) m k' g' p (List.mem_cons_of_mem _ hj) hm hi

/-! ### The plain law -/
theorem ixR_nin {l : List Nat} : ∀ {names : List (List Nat)} {i : Nat} {acc : Option Nat}, l ∉ names → ixR l names i acc = acc
  | [], _, _, _ => rfl
  | s :: names, i, acc, h => by
    simp only [List.mem_cons, not_or] at h
    rw [ixR, if_neg (fun e => h.1 e.symm)]
    exact ixR_nin h.2
theorem ixN_head {x : List Nat} {l : List (List Nat)} (h : x ∉ l) : ixN (x :: l) x = some 0 := by
  unfold ixN
  rw [ixR, if_pos rfl]
  exact ixR_nin h
theorem chkFs_l : ∀ (l : List (List Nat × List Nat)) (seen : List (List Nat)) (i : Nat) (q : Pl), chkFs l seen i = some q → q.l = 0
  | [], _, _, _, h => by cases h
  | x :: l, seen, i, q, h => by
    unfold chkFs at h
    split at h
    · cases h; rfl
    · split at h
      · cases h; rfl
      · exact chkFs_l l _ _ _ h
theorem filesE_l {fs : List (List Nat × List Nat)} {q : Pl} (h : filesE fs = some q) : q.l = 0 := by
  unfold filesE at h
  split at h
  · cases h; rfl
  · exact chkFs_l _ _ _ _ h
theorem chkFs_seen : ∀ (l : List (List Nat × List Nat)) (seen : List (List Nat)) (i : Nat), chkFs l seen i = none → ∀ x ∈ l, x.1 ∉ seen
  | [], _, _, _, x, hx => by cases hx
  | y :: l, seen, i, h, x, hx => by
    unfold chkFs at h
    split at h
    · cases h
    · rename_i h1
      have h1 := Classical.not_not.1 h1
      split at h
      · cases h
      · rcases List.mem_cons.1 hx with rfl | hx
        · exact h1.2.1
        · exact fun hh => chkFs_seen l _ _ h x hx (by simp [hh])
theorem chkFs_head {x : List Nat × List Nat} {l : List (List Nat × List Nat)} {seen : List (List Nat)} {i : Nat} (h : chkFs (x :: l) seen i = none) : fnameOk x.1 = true ∧ x.1 ∉ seen ∧ textB x.2 = true ∧ chkFs l (seen ++ [x.1]) (i + 1) = none := by
  unfold chkFs at h
  split at h
  · cases h
  · rename_i h1
    have h1 := Classical.not_not.1 h1
    split at h
    · cases h
    · exact ⟨h1.1, h1.2.1, h1.2.2, h⟩
theorem stop_read {nm : List (List Nat)} {x : List Nat × List Nat} {fs : List (List Nat × List Nat)} {q : Pl} (hr : readE nm (x :: fs) x.1 = .error q) (hf : q.f = 0) (hl : 1 ≤ q.l) (he : q.e ≠ 72) :
    TextOk x.2 ∧ ∃ m : Nat, m < (linesOf x.2).length ∧ q.l = ((m + 1 : Nat) : Int) ∧ ∀ rest, Lines rest → (unl ((linesOf x.2).take (m + 1) ++ rest)).length ≤ 1048576 → readE nm ((x.1, unl ((linesOf x.2).take (m + 1) ++ rest)) :: fs) x.1 = .error q := by
  unfold readE at hr
  split at hr
  · cases hr; exact absurd hf (by decide)
  rename_i hnum
  cases hfe : filesE (x :: fs) with
  | some p =>
    rw [hfe] at hr
    cases hr
    have := filesE_l hfe
    omega
  | none =>
    rw [hfe] at hr
    have h256 : (x :: fs).length ≤ 256 := by
      unfold filesE at hfe
      split at hfe
      · cases hfe
      · omega
    have hck : chkFs (x :: fs) [] 0 = none := by
      unfold filesE at hfe
      rwa [if_neg (by omega)] at hfe
    obtain ⟨k1, k2, k3, k4⟩ := chkFs_head hck
    have hnot : x.1 ∉ fs.map (·.1) := fun hh => by
      obtain ⟨y, hy, e⟩ := List.mem_map.1 hh
      exact chkFs_seen _ _ _ k4 y hy (by rw [e]; simp)
    have hix : ∀ t, ixN (((x.1, t) :: fs).map (·.1)) x.1 = some 0 := fun t => ixN_head hnot
    simp only [show ixN ((x :: fs).map (·.1)) x.1 = some 0 from hix x.2] at hr
    rw [rdF] at hr
    simp only [List.getElem?_cons_zero, Option.map_some, Option.getD_some] at hr
    refine ⟨textB_ok k3, ?_⟩
    obtain ⟨m, m1, m2, m3⟩ := rdL_stop (fun _ _ _ _ _ => rfl) (by
      intro r ln d' k' g' p hi h1 h2
      cases he : incE (ixN ((x :: fs).map (·.1))) [0] r with
      | error e => rw [he] at hi; cases hi; rfl
      | ok m =>
        rw [he] at hi
        simp only at hi
        split at hi
        · cases hi; rfl
        · obtain ⟨hm, _⟩ := incE_ok he
          rcases rdF_file (j := 0) 64 [0] (d' + 1) m k' g' p (by simp) hm hi with h3 | h3
          · exact absurd h3 h2
          · exact absurd h1 h3) (linesOf x.2) 0 0 _ [] _ q hr hf he (by omega)
    refine ⟨m, m1, by rw [m2]; congr 1; omega, fun rest hrest hlen => ?_⟩
    have hls : Lines ((linesOf x.2).take (m + 1) ++ rest) := fun s hs => by
      rcases List.mem_append.1 hs with hs | hs
      · exact linesOf_lines _ s (List.mem_of_mem_take hs)
      · exact hrest s hs
    have key := m3 rest
    generalize hT : (linesOf x.2).take (m + 1) ++ rest = T at *
    have hfe' : filesE ((x.1, unl T) :: fs) = none := by
      unfold filesE
      rw [if_neg (by simp only [List.length_cons] at h256 ⊢; omega)]
      unfold chkFs
      rw [if_neg (fun hh => hh ⟨k1, k2, textB_unl T⟩), if_neg (by simp only; omega)]
      exact k4
    unfold readE
    rw [if_neg hnum, hfe']
    simp only [hix]
    rw [rdF]
    simp only [List.getElem?_cons_zero, Option.map_some, Option.getD_some]
    rw [linesOf_unl hls, ← key]
    refine congrArg (fun inc => rdL nm 0 0 inc T 0 0 (fun _ => true) [] ⟨[], [], true⟩) ?_
    funext r ln d' k' g'
    have hS : SameF [0] (x :: fs) ((x.1, unl T) :: fs) := ⟨rfl, fun i hi => by
      cases i with
      | zero => exact absurd (by simp) hi
      | succ i => rfl⟩
    rw [hS.nm]
    cases he : incE (ixN ((x :: fs).map (·.1))) [0] r with
    | error e => rfl
    | ok m =>
      simp only
      split
      · rfl
      · obtain ⟨hm, _⟩ := incE_ok he
        exact rdF_same 64 [0] (d' + 1) m k' g' hS hm
end Go.Proofs.YtedopgkbajhanaaGreatDoor
