/-
  The parts of a document, and what their write does: the contracts.
  Conditions: none.
-/
import Derived.Test.YtbkadgdhmfolaaaWr
namespace Go.Proofs.Ytbkadgdhmfolaaa
open Go Go.RowKit

inductive Ft where
  | text (s : ByteArray)
  | line (s : ByteArray)
  | hard
  | seq (a b : Ft)
  | nest (n : Nat) (a : Ft)
  | align (a : Ft)
  | group (a : Ft) (f : Bool)

def tyF : Ft → Nat
  | .text _ => 107
  | .line _ => 108
  | .hard => 110
  | .seq _ _ => 112
  | .nest _ _ => 114
  | .align _ => 116
  | .group _ _ => 118

def recvV : Ft → Value
  | .text s => .string s
  | .line s => .string s
  | .hard => .agg #[]
  | .seq a b => .agg #[.iface (tyF a) (recvV a), .iface (tyF b) (recvV b)]
  | .nest n a => .agg #[.int .i64 n, .iface (tyF a) (recvV a)]
  | .align a => .agg #[.iface (tyF a) (recvV a)]
  | .group a f => .agg #[.iface (tyF a) (recvV a), .bool f]
def partV (t : Ft) : Value := .iface (tyF t) (recvV t)

def methF : Ft → Nat
  | .text _ => 105
  | .line _ => 107
  | .hard => 110
  | .seq _ _ => 111
  | .nest _ _ => 112
  | .align _ => 113
  | .group _ _ => 114

def wr : Ft → Nat → Bool → Ws → Ws
  | .text s, _, _, st => wadd (bytesOf s) st
  | .line s, ind, flat, st => if flat = true then wadd (bytesOf s) st else wfeed ind st
  | .hard, ind, flat, st => wfeed ind { st with wrong := st.wrong || flat }
  | .seq a b, ind, flat, st => wr b ind flat (wr a ind flat st)
  | .nest n a, ind, flat, st => wr a (ind + n) flat st
  | .align a, _, flat, st => wr a (if st.col = 0 then st.pend else st.col) flat st
  | .group a f, ind, flat, st => wr a ind (flat || f) st

def Ft.wt : Ft → Nat
  | .text s => s.size
  | .line s => s.size
  | .hard => 0
  | .seq a b => a.wt + b.wt
  | .nest n a => n + a.wt
  | .align a => a.wt
  | .group a _ => a.wt
def Ft.sz : Ft → Nat
  | .text _ => 1
  | .line _ => 1
  | .hard => 1
  | .seq a b => a.sz + b.sz
  | .nest _ a => a.sz
  | .align a => a.sz
  | .group a _ => a.sz

def lsz : Nat := 1073741824
theorem lsz_eq : lsz = 1073741824 := rfl
theorem sz_add (a b : Nat) : (a + b) * lsz = a * lsz + b * lsz := Nat.add_mul a b lsz

def LimW (st : Ws) (ind B : Nat) : Prop := st.col ≤ B ∧ st.pend ≤ B ∧ ind ≤ B

theorem wadd_lim {st : Ws} {ind B : Nat} (h : LimW st ind B) (s : List Nat) : LimW (wadd s st) ind (B + s.length) ∧ (wadd s st).out.length ≤ st.out.length + (B + s.length + 1) := by
  obtain ⟨h1, h2, h3⟩ := h
  unfold wadd
  split
  · exact ⟨⟨by omega, by omega, by omega⟩, by omega⟩
  · unfold wput wind
    split
    · exact ⟨⟨by dsimp only; omega, by dsimp only; omega, by omega⟩, by simp; omega⟩
    · exact ⟨⟨by dsimp only; omega, by dsimp only; omega, by omega⟩, by simp; omega⟩
theorem wfeed_lim {st : Ws} {ind B : Nat} (h : LimW st ind B) : LimW (wfeed ind st) ind B ∧ (wfeed ind st).out.length = st.out.length + 1 := by
  obtain ⟨h1, h2, h3⟩ := h
  exact ⟨⟨Nat.zero_le _, h3, h3⟩, by simp [wfeed]⟩

theorem wr_lim : ∀ (t : Ft) (ind : Nat) (flat : Bool) (st : Ws) (B L : Nat), LimW st ind B → B + t.wt < L → LimW (wr t ind flat st) ind (B + t.wt) ∧ (wr t ind flat st).out.length ≤ st.out.length + t.sz * L
  | .text s, ind, flat, st, B, L, h, hL => by
    have := wadd_lim h (bytesOf s)
    rw [bytesOf_length] at this
    simp only [wr, Ft.wt, Ft.sz] at *
    exact ⟨this.1, by omega⟩
  | .line s, ind, flat, st, B, L, h, hL => by
    have := wadd_lim h (bytesOf s)
    have h2 := wfeed_lim h
    rw [bytesOf_length] at this
    simp only [wr, Ft.wt, Ft.sz] at *
    split
    · exact ⟨this.1, by omega⟩
    · exact ⟨⟨by have := h2.1.1; omega, by have := h2.1.2.1; omega, by have := h2.1.2.2; omega⟩, by omega⟩
  | .hard, ind, flat, st, B, L, h, hL => by
    have h2 := wfeed_lim (st := { st with wrong := st.wrong || flat }) h
    simp only [wr, Ft.wt, Ft.sz] at *
    exact ⟨h2.1, by have := h2.2; omega⟩
  | .seq a b, ind, flat, st, B, L, h, hL => by
    simp only [wr, Ft.wt, Ft.sz] at *
    have h1 := wr_lim a ind flat st B L h (by omega)
    have h2 := wr_lim b ind flat _ (B + a.wt) L h1.1 (by omega)
    rw [Nat.add_assoc] at h2
    refine ⟨h2.1, ?_⟩
    rw [Nat.add_mul]; omega
  | .nest n a, ind, flat, st, B, L, h, hL => by
    simp only [wr, Ft.wt, Ft.sz] at *
    have h1 := wr_lim a (ind + n) flat st (B + n) L ⟨by have := h.1; omega, by have := h.2.1; omega, by have := h.2.2; omega⟩ (by omega)
    rw [Nat.add_assoc] at h1
    exact ⟨⟨h1.1.1, h1.1.2.1, by have := h.2.2; omega⟩, h1.2⟩
  | .align a, ind, flat, st, B, L, h, hL => by
    simp only [wr, Ft.wt, Ft.sz] at *
    have h1 := wr_lim a (if st.col = 0 then st.pend else st.col) flat st B L ⟨h.1, h.2.1, by have := h.1; have := h.2.1; split <;> omega⟩ (by omega)
    exact ⟨⟨h1.1.1, h1.1.2.1, by have := h.2.2; omega⟩, h1.2⟩
  | .group a f, ind, flat, st, B, L, h, hL => by
    simp only [wr, Ft.wt, Ft.sz] at *
    exact wr_lim a ind (flat || f) st B L h hL

theorem call_part {c : Cx} (hc : c.g = gx) {w : World} {K : Value → World → Prop} {pan : List PanicEntry → World → Prop} (t : Ft) {nm : String} {l : List Value} {R : Value → World → Prop} (hn : nm = "koine/document.write")
    (h : Fn Try.prog (methF t) l w R) (k : ∀ v w', R v w' → K v w') : InvokeAt c nm (tyF t) l w K pan := by
  obtain ⟨g, N, nd, kp, ct⟩ := c
  simp only at hc
  subst hc
  subst hn
  cases t with
  | text s => exact invoke_at ⟨_, _, _, _⟩ rfl rfl rfl (call h k)
  | line s => exact invoke_at ⟨_, _, _, _⟩ rfl rfl rfl (call h k)
  | hard => exact invoke_at ⟨_, _, _, _⟩ rfl rfl rfl (call h k)
  | seq a b => exact invoke_at ⟨_, _, _, _⟩ rfl rfl rfl (call h k)
  | nest n a => exact invoke_at ⟨_, _, _, _⟩ rfl rfl rfl (call h k)
  | align a => exact invoke_at ⟨_, _, _, _⟩ rfl rfl rfl (call h k)
  | group a f => exact invoke_at ⟨_, _, _, _⟩ rfl rfl rfl (call h k)

theorem write_fn : ∀ (t : Ft) (base g : Nat) (A : Option Addr) (c : Nat) (st : Ws) (ind : Nat) (flat : Bool) (B : Nat) (w : World), WrW w base g A c st → LimW st ind B → B + t.wt ≤ 1073741823 → st.out.length + t.sz * lsz ≤ 70368744177664 →
    Fn Try.prog (methF t) [recvV t, .pointer (some ⟨g, 0, none⟩), .agg #[.int .i64 ind, .bool flat]] w (WrPost w base g A (wr t ind flat st))
  | .text s, base, g, A, c, st, ind, flat, B, w, hb, hl, hB, ho => by
    simp only [Ft.wt, Ft.sz] at hB ho
    rw [Nat.one_mul, lsz_eq] at ho
    obtain ⟨h1, h2, h3⟩ := hl
    refine fn_of_exec (c := c105) gx_ok Try.func105 rfl rfl rfl ?_
    refine new (fun w1 hE1 _ hB1 => ?_)
    refine call (add_fn base g A c st s w1 (hb.grow hE1) (by omega)) ?_
    rintro v w2 ⟨A2, c2, hb2, hm2, hmv2⟩
    exact ⟨A2, c2, hb2, (Mod.of_ext (BldS g A) hE1).trans hm2 (fun i hi => .inl hi), hmv2.back hE1.size⟩
  | .line s, base, g, A, c, st, ind, flat, B, w, hb, hl, hB, ho => by
    simp only [Ft.wt, Ft.sz] at hB ho
    rw [Nat.one_mul, lsz_eq] at ho
    obtain ⟨h1, h2, h3⟩ := hl
    refine fn_of_exec (c := c107) gx_ok Try.func107 rfl rfl rfl ?_
    refine new (fun w1 hE1 _ hB1 => ?_)
    refine load_blk hB1 rfl ?_
    refine wif (fun hf => ?_) (fun hf => ?_)
    · refine call (add_fn base g A c st s w1 (hb.grow hE1) (by omega)) ?_
      rintro v w2 ⟨A2, c2, hb2, hm2, hmv2⟩
      exact ⟨A2, c2, by rw [wr, if_pos hf]; exact hb2, (Mod.of_ext (BldS g A) hE1).trans hm2 (fun i hi => .inl hi), hmv2.back hE1.size⟩
    · refine load_blk hB1 rfl ?_
      refine call (feed_fn base g A c st ind w1 (hb.grow hE1) (by omega)) ?_
      rintro v w2 ⟨A2, c2, hb2, hm2, hmv2⟩
      exact ⟨A2, c2, by rw [wr, if_neg (by rw [hf]; decide)]; exact hb2, (Mod.of_ext (BldS g A) hE1).trans hm2 (fun i hi => .inl hi), hmv2.back hE1.size⟩
  | .hard, base, g, A, c, st, ind, flat, B, w, hb, hl, hB, ho => by
    simp only [Ft.wt, Ft.sz] at hB ho
    rw [Nat.one_mul, lsz_eq] at ho
    refine fn_of_exec (c := { c110 with cuts := [1] }) gx_ok Try.func110 rfl rfl rfl ?_
    refine new (fun w1 hE1 hz1 hB1 => ?_)
    refine new (fun w2 hE2 hz2 hB2 => ?_)
    have hE12 := hE1.trans hE2
    have hb2 := hb.grow hE12
    have hg1 := hb.g1
    have htop := hb.top
    have hrows := hb.own.rows
    obtain ⟨pa, hpa, hBw⟩ := hb2.blk
    have fin : ∀ w3, Mod (· = g) w2 w3 → Blk w3 g 74 (pa :: .slice A st.out.length c :: WrRest { st with wrong := st.wrong || flat }) →
        Fn Try.prog 108 [.pointer (some ⟨g, 0, none⟩), .int .i64 ind] w3 (WrPost w base g A (wr .hard ind flat st)) := fun w3 hm3 hB3 => by
      have hb3 : WrW w3 base g A c { st with wrong := st.wrong || flat } := ⟨hg1, by have := hm3.size; have := hb2.top; omega, ⟨pa, hpa, hB3⟩, hb2.own.mod hm3 (fun k hk e => by have := (hrows k hk).1; omega)⟩
      refine (feed_fn base g A c _ ind w3 hb3 (by dsimp only; omega)).mono ?_
      rintro v w4 ⟨A4, c4, hb4, hm4, hmv4⟩
      refine ⟨A4, c4, hb4, ?_, hmv4.back (by have := hm3.size; have := hE12.size; omega)⟩
      exact ((Mod.of_ext (BldS g A) hE12).trans hm3 (fun i hi => .inl (.inl hi))).trans hm4 (fun i hi => .inl hi)
    refine load_blk hBw rfl ?_
    have hw : ∀ b, st.wrong = b → True := fun _ _ => trivial
    refine wif (fun hf => ?_) (fun hf => ?_)
    · refine store_mod hBw (by simp [WrRest]) (fun w3 hm3 hB3 => ?_)
      refine load_blk (hB2.mod hm3 (by omega)) rfl ?_
      refine call (fin w3 hm3 (by rw [hf]; exact hB3)) (fun v w' h => h)
    · refine load_blk hB2 rfl ?_
      refine store_mod hBw (by simp [WrRest]) (fun w3 hm3 hB3 => ?_)
      refine load_blk (hB2.mod hm3 (by omega)) rfl ?_
      refine call (fin w3 hm3 (by rw [hf]; exact hB3)) (fun v w' h => h)
  | .seq a b, base, g, A, c, st, ind, flat, B, w, hb, hl, hB, ho => by
    simp only [Ft.wt, Ft.sz] at hB ho
    rw [sz_add] at ho
    have e1 : B + a.wt ≤ 1073741823 := by omega
    have e2 : st.out.length + a.sz * lsz ≤ 70368744177664 := by omega
    have hlim := wr_lim a ind flat st B lsz hl (by rw [lsz_eq]; omega)
    have e3 : B + a.wt + b.wt ≤ 1073741823 := by omega
    have e4 : (wr a ind flat st).out.length + b.sz * lsz ≤ 70368744177664 := by
      have := hlim.2
      omega
    have hg1 := hb.g1
    have htop := hb.top
    have hrows := hb.own.rows
    refine fn_of_exec (c := c111) gx_ok Try.func111 rfl rfl rfl ?_
    refine new (fun w1 hE1 hz1 hB1 => ?_)
    refine new (fun w2 hE2 hz2 hB2 => ?_)
    have hE12 := hE1.trans hE2
    have hB12 := hB1.ext hE2
    refine load_blk hB12 rfl ?_
    refine loadN_blk0 hB2 rfl ?_
    refine call_part rfl a rfl (write_fn a base g A c st ind flat B w2 (hb.grow hE12) hl e1 e2) ?_
    rintro v w3 ⟨A3, c3, hb3, hm3, hmv3⟩
    have nS : ∀ k, w.heap.size ≤ k → ¬ BldS g A k := by
      rintro k hk (e | e)
      · omega
      · have := (hrows k e).2; omega
    refine load_blk (hB12.mod hm3 (nS _ (Nat.le_refl _))) rfl ?_
    refine loadN_blk0 (hB2.mod hm3 (nS _ (by omega))) rfl ?_
    refine call_part rfl b rfl (write_fn b base g A3 c3 (wr a ind flat st) ind flat (B + a.wt) w3 hb3 hlim.1 e3 e4) ?_
    rintro v w4 ⟨A4, c4, hb4, hm4, hmv4⟩
    have hsz := hE12.size
    refine ⟨A4, c4, hb4, ?_, (hmv3.trans hmv4 hm3.size).back hsz⟩
    exact (Mod.of_ext (BldS g A) hE12).trans (hm3.trans hm4 (BldS.moved hmv3)) (fun i hi => .inl hi)
  | .nest n a, base, g, A, c, st, ind, flat, B, w, hb, hl, hB, ho => by
    simp only [Ft.wt, Ft.sz] at hB ho
    obtain ⟨h1, h2, h3⟩ := hl
    refine fn_of_exec (c := c112) gx_ok Try.func112 rfl rfl rfl ?_
    refine new (fun w1 hE1 hz1 hB1 => ?_)
    refine new (fun w2 hE2 hz2 hB2 => ?_)
    have hE12 := hE1.trans hE2
    have hB12 := hB1.ext hE2
    refine load_blk hB2 rfl ?_
    refine load_blk hB12 rfl ?_
    refine norm_i64_to ((ind + n : Nat) : Int) (by omega) (by omega) ?_
    refine store_mod hB2 (by simp [cellsL]) (fun w3 hm3 hB3 => ?_)
    refine load_blk (hB12.mod hm3 (by omega)) rfl ?_
    refine loadN_blk0 hB3 rfl ?_
    have hE3 : Ext w w3 := hm3.ext hE12 (fun i hi => by have := hE1.size; omega)
    refine call_part rfl a rfl (write_fn a base g A c st (ind + n) flat (B + n) w3 (hb.grow hE3) ⟨by omega, by omega, by omega⟩ (by omega) (by omega)) ?_
    rintro v w4 ⟨A4, c4, hb4, hm4, hmv4⟩
    exact ⟨A4, c4, hb4, (Mod.of_ext (BldS g A) hE3).trans hm4 (fun i hi => .inl hi), hmv4.back hE3.size⟩
  | .align a, base, g, A, c, st, ind, flat, B, w, hb, hl, hB, ho => by
    simp only [Ft.wt, Ft.sz] at hB ho
    obtain ⟨h1, h2, h3⟩ := hl
    refine fn_of_exec (c := { c113 with cuts := [2] }) gx_ok Try.func113 rfl rfl rfl ?_
    refine new (fun w1 hE1 hz1 hB1 => ?_)
    refine new (fun w2 hE2 hz2 hB2 => ?_)
    have hE12 := hE1.trans hE2
    have hB12 := hB1.ext hE2
    have hg1 := hb.g1
    have htop := hb.top
    have hz0 := hE1.size
    obtain ⟨pa, hpa, hBw⟩ := (hb.grow hE12).blk
    refine load_blk hBw rfl ?_
    refine store_mod hB2 (by simp [cellsL]) (fun w3 hm3 hB3 => ?_)
    have hE3 : Ext w w3 := hm3.ext hE12 (fun i hi => by omega)
    have hBw3 := hBw.mod hm3 (by omega)
    have hB13 := hB12.mod hm3 (by omega)
    refine cut0 gx_ok (fun w' => Ext w w' ∧ Blk w' w1.heap.size 80 [.int .i64 ((if st.col = 0 then st.pend else st.col : Nat) : Int), .bool flat] ∧ Blk w' w.heap.size 116 (cellsL (recvV (.align a)))) ?_ ?_
    · refine load_blk hBw3 rfl ?_
      refine wif_eq (fun h0 => ?_) (fun h0 => ?_)
      · refine load_blk hBw3 rfl ?_
        refine store_mod hB3 (by simp [cellsL]) (fun w4 hm4 hB4 => ?_)
        exact ⟨rfl, hm4.ext hE3 (fun i hi => by omega), by rw [if_pos (by omega)]; exact hB4, hB13.mod hm4 (by omega)⟩
      · exact ⟨rfl, hE3, by rw [if_neg (by omega)]; exact hB3, hB13⟩
    rintro w4 ⟨hE4, hB4, hB14⟩
    refine load_blk hB14 rfl ?_
    refine loadN_blk0 hB4 rfl ?_
    refine call_part rfl a rfl (write_fn a base g A c st (if st.col = 0 then st.pend else st.col) flat B w4 (hb.grow hE4) ⟨h1, h2, by split <;> omega⟩ (by omega) (by omega)) ?_
    rintro v w5 ⟨A5, c5, hb5, hm5, hmv5⟩
    exact ⟨A5, c5, hb5, (Mod.of_ext (BldS g A) hE4).trans hm5 (fun i hi => .inl hi), hmv5.back hE4.size⟩
  | .group a f, base, g, A, c, st, ind, flat, B, w, hb, hl, hB, ho => by
    simp only [Ft.wt, Ft.sz] at hB ho
    refine fn_of_exec (c := { c114 with cuts := [1] }) gx_ok Try.func114 rfl rfl rfl ?_
    refine new (fun w1 hE1 hz1 hB1 => ?_)
    refine new (fun w2 hE2 hz2 hB2 => ?_)
    have hE12 := hE1.trans hE2
    have hB12 := hB1.ext hE2
    have hz0 := hE1.size
    refine load_blk hB2 rfl ?_
    have fin : ∀ w3, Mod (· = w1.heap.size) w2 w3 → Fn Try.prog (methF a) [recvV a, .pointer (some ⟨g, 0, none⟩), .agg #[.int .i64 ind, .bool (flat || f)]] w3 (WrPost w base g A (wr (.group a f) ind flat st)) := fun w3 hm3 => by
      have hE3 : Ext w w3 := hm3.ext hE12 (fun i hi => by omega)
      refine (write_fn a base g A c st ind (flat || f) B w3 (hb.grow hE3) hl (by omega) (by omega)).mono ?_
      rintro v w4 ⟨A4, c4, hb4, hm4, hmv4⟩
      exact ⟨A4, c4, hb4, (Mod.of_ext (BldS g A) hE3).trans hm4 (fun i hi => .inl hi), hmv4.back hE3.size⟩
    refine wif (fun hf => ?_) (fun hf => ?_)
    · refine store_mod hB2 (by simp [cellsL]) (fun w3 hm3 hB3 => ?_)
      refine load_blk (hB12.mod hm3 (by omega)) rfl ?_
      refine loadN_blk0 hB3 rfl ?_
      have := fin w3 hm3
      rw [hf] at this
      exact call_part rfl a rfl (by rw [hf]; exact this) (fun v w' h => h)
    · refine load_blk hB12 rfl ?_
      refine store_mod hB2 (by simp [cellsL]) (fun w3 hm3 hB3 => ?_)
      refine load_blk (hB12.mod hm3 (by omega)) rfl ?_
      refine loadN_blk0 hB3 rfl ?_
      have := fin w3 hm3
      rw [hf] at this
      exact call_part rfl a rfl (by rw [hf]; exact this) (fun v w' h => h)
end Go.Proofs.Ytbkadgdhmfolaaa
