/- Layer 35: Find's inner function: its walk. -/
import Derived.Test.YteaclphankckiaaTl
import Derived.Test.YteaclphankckiaaTd
import Derived.BigRegion
namespace Go.Proofs.Yteaclphankckiaa
open Go Go.RowKit
set_option linter.unusedSimpArgs false
set_option linter.unusedVariables false
attribute [local go_sem ↓] Go.wp_at_zero Go.wp_at_succ

theorem prWf {p : Int} (h : p = 0 ∨ 2 ≤ p ∧ p ≤ 5) : (Lit.int .i8 p).wf = true := by
  rcases h with rfl | h
  · rfl
  · have : p = 2 ∨ p = 3 ∨ p = 4 ∨ p = 5 := by omega
    rcases this with rfl | rfl | rfl | rfl <;> rfl
theorem psame_n (A : Option Addr) (c n : Nat) (l : List Int) (w : World) (hn : l.length = n) (hA : RecAt iEnc 1 w w.heap.size A l) (hl : n ≤ 1000 + 1) (hl2 : n ≤ 1000 ∨ True) (h0 : 0 < n) (hl3 : l.length ≤ 1000) :
    Calls Try.prog 36 #[.slice A n c] w fun e w' => e = .returned (.bool (pal l)) ∧ Below w.heap.size w w' := by
  subst hn
  exact psame A c l w hA hl3 h0
set_option maxRecDepth 100000 in
set_option maxHeartbeats 8000000 in
theorem pfind1 (m0 n0 : Nat) (f q : Int) (bk : Bool) (At : Option Addr) (t : List Nd) (ct : Nat) (hz : szB f q = true) (hok : okK f q t t.length = true) (hl : t.length ≤ 990)
    (k : Nat) (x : Nd) (O : Nat → Prop) (W : World) (Ap : Option Addr) (cp : Nat) (hx : t[k]? = some x) (hI : FI m0 n0 f q bk At t ct k O W) (hO : ∀ b, O b → m0 ≤ b ∧ b < W.heap.size)
    (hp : Own1 iEnc 1 m0 3 W Ap cp (pth (back t (k + 1)))) (hpo : ∀ b, (Value.slice Ap (pth (back t (k + 1))).length cp).ownBlock = some b → ¬ O b) :
    Calls Try.prog 34 #[.int .i64 (k : Int), .slice Ap (pth (back t (k + 1))).length cp, .pointer (some ⟨m0 + 2, 0, none⟩), .pointer (some ⟨n0 + 3, 0, none⟩), .pointer (some ⟨n0 + 5, 0, none⟩), .pointer (some ⟨m0 + 1, 0, none⟩), .pointer (some ⟨m0, 0, none⟩)] W
      fun e W' => e = .returned (.tuple #[]) ∧ ∃ O', FI m0 n0 f q bk At t ct (k + 1) O' W' ∧ VFr O O' (Value.slice Ap (pth (back t (k + 1))).length cp).ownBlock W W' := by
  obtain ⟨f0, f1, r0, r1⟩ := szB_out hz
  have hkt : k < t.length := (List.getElem?_eq_some_iff.1 hx).1
  have hkI : (k : Int) < (t.length : Int) := by omega
  have hk0 : (0 : Int) ≤ (k : Int) := Int.natCast_nonneg _
  have hnb := nodeB_out (okK_at hok hkt hx)
  have hch : chain (back t (k + 1)) := okK_chain hok (k := k + 1) (by omega)
  have hply := okK_ply hok (k := k + 1) (by omega)
  have hbne : back t (k + 1) ≠ [] := by rw [back_succ hx]; exact List.cons_ne_nil _ _
  obtain ⟨pl0, pl1⟩ := pth_len hch hbne
  have hpb := pth_bd hok (k := k + 1) (by omega)
  obtain ⟨l, hle⟩ : ∃ l, pth (back t (k + 1)) = l := ⟨_, rfl⟩
  have hfs := Lib.hid (fnd_succ (f := f) (q := q) (bk := bk) hx)
  have hks := Lib.hid (kin_succ hx)
  have hfl := fnd_len f q bk t k
  have hkl := kin_len t k
  have hsh : Hid (shL f q bk t k x = (((((addL (s1 x) 1 k ++ addL (s2 x) 2 k) ++ addL (s3 x (kin t k)) 3 k) ++ addL (s4 l) 4 k) ++ addL (s5 l) 5 k) ++ addL (s6 f q bk x l) 6 k)) := by show _ = _; rw [← hle]; rfl
  rw [hle] at hp hpo pl0 pl1 hpb ⊢
  obtain ⟨n1, hn1⟩ : ∃ n1, l.length = n1 + 1 := ⟨l.length - 1, by omega⟩
  have hn1b : n1 ≤ 995 := by omega
  have hn1a : 1 ≤ n1 := by omega
  obtain ⟨A, c, n, hnk, hF, hOb⟩ := hI
  obtain ⟨bT, oT, hAt, hbT, e0, e1, e2, e3⟩ := nd4 hF.recs hx
  have hxH := Lib.hid hx
  have hctt := hF.ctt
  have hs6 := hF.size
  have hle6 := hF.le
  obtain ⟨p, ma, mb, mc⟩ := x
  have hp1 : 1 ≤ p := hnb.2.1
  have hmc : mc = 0 ∨ 2 ≤ mc ∧ mc ≤ 5 := (mvB_out hnb.1).2.2.2
  have hwf := Lib.hid (prWf hmc)
  -- the path's cells
  have hpR := RecAt.of_own iEnc_len rfl hp
  obtain ⟨bP, hAp, hbP0, hbP⟩ : ∃ bP, Ap = some ⟨bP, 0, none⟩ ∧ m0 ≤ bP ∧ bP < W.heap.size := by
    rcases hp.2 with ⟨_, h1⟩ | ⟨g, cap, cur, hv, hb, hg, _⟩
    · omega
    · simp only [Value.slice.injEq] at hv
      exact ⟨g, hv.1, hb, (Array.getElem?_eq_some_iff.1 hg).1⟩
  subst hAp
  have hbPO : ¬ O bP := hpo bP rfl
  have hpc := Lib.hid (recs_getD hpR)
  have hpR2 : Hid (∀ W', (∀ i, W'.cell? ⟨bP, i, none⟩ = W.cell? ⟨bP, i, none⟩) → W.heap.size ≤ W'.heap.size → RecAt iEnc 1 W' W'.heap.size (some ⟨bP, 0, none⟩) l) := fun W' hc hs h0 => by
    obtain ⟨b, off, e, hb, hcl⟩ := hpR h0
    simp only [Option.some.injEq, Addr.mk.injEq, and_true] at e
    obtain ⟨rfl, rfl⟩ := e
    exact ⟨_, _, rfl, by omega, fun k x hx j u hu => (hc _).trans (hcl k x hx j u hu)⟩
  -- the boxes of this call
  have hb1 : Below W.heap.size W (W.alloc (.cells #[.int .i64 (k : Int)] 3)) := (Below.refl _ _).alloc (Nat.le_refl _) _
  have hQ := Qd.new (W.alloc (.cells #[.int .i64 (k : Int)] 3)) (p, ma, mb, mc) 59
  have hb2 : Below (W.alloc (.cells #[.int .i64 (k : Int)] 3)).heap.size (W.alloc (.cells #[.int .i64 (k : Int)] 3)) ((W.alloc (.cells #[.int .i64 (k : Int)] 3)).alloc (.cells #[.int .i64 p, .int .i64 ma, .int .i64 mb, .int .i8 mc] 59)) := (Below.refl _ _).alloc (Nat.le_refl _) _
  have hi1 : (W.alloc (.cells #[.int .i64 (k : Int)] 3)).cell? ⟨W.heap.size, 0, none⟩ = some (.int .i64 (k : Int)) := by
    rw [cell_of_row _ _ _ _ _ _ (heap_alloc_new W (.cells #[.int .i64 (k : Int)] 3))]; rfl
  have hi2 := Lib.hid ((hb2.cell (p := ⟨W.heap.size, 0, none⟩) (by simp)).trans hi1)
  have hbx := hb1.trans (hb2.mono (by simp))
  have hsz2 : ((W.alloc (.cells #[.int .i64 (k : Int)] 3)).alloc (.cells #[.int .i64 p, .int .i64 ma, .int .i64 mb, .int .i8 mc] 59)).heap.size = W.heap.size + 1 + 1 := by simp
  have hX0 : Hid (CX m0 n0 f q bk At t ct O ((W.alloc (.cells #[.int .i64 (k : Int)] 3)).alloc (.cells #[.int .i64 p, .int .i64 ma, .int .i64 mb, .int .i8 mc] 59)) ((W.alloc (.cells #[.int .i64 (k : Int)] 3)).alloc (.cells #[.int .i64 p, .int .i64 ma, .int .i64 mb, .int .i8 mc] 59)) (fnd f q bk t k) (kin t k) n) :=
    ⟨A, c, hF.next hbx, GFr.refl _ _, fun b hb => .inl ((hOb b).2 (.inr hb)), fun b h1 h2 => (hOb b).2 (.inl ⟨h1, h2⟩)⟩
  have hOn : ∀ b, W.heap.size ≤ b → ¬ O b := fun b hb ho => by have := (hO b ho).2; omega
  have hmt : (W.alloc (.cells #[.int .i64 (k : Int)] 3)).cell? ⟨m0 + 2, 0, none⟩ = some (.slice At t.length ct) := (hb1.cell (p := ⟨m0 + 2, 0, none⟩) (by show m0 + 2 < _; omega)).trans hctt
  have hbTW : bT < W.heap.size := by omega
  have hm0 := (hb1.cell (p := ⟨bT, oT + k * 4, none⟩) hbTW).trans e0
  have hm1 := (hb1.cell (p := ⟨bT, oT + k * 4 + 1, none⟩) hbTW).trans e1
  have hm2 := (hb1.cell (p := ⟨bT, oT + k * 4 + 2, none⟩) hbTW).trans e2
  have hm3 := (hb1.cell (p := ⟨bT, oT + k * 4 + 3, none⟩) hbTW).trans e3
  have hm0' : (W.alloc (.cells #[.int .i64 (k : Int)] 3)).cell? ⟨bT, oT + k * 4, none⟩ = some (.int .i64 p) := hm0
  have hm1' : (W.alloc (.cells #[.int .i64 (k : Int)] 3)).cell? ⟨bT, oT + k * 4 + 1, none⟩ = some (.int .i64 ma) := hm1
  have hm2' : (W.alloc (.cells #[.int .i64 (k : Int)] 3)).cell? ⟨bT, oT + k * 4 + 2, none⟩ = some (.int .i64 mb) := hm2
  have hm3' : (W.alloc (.cells #[.int .i64 (k : Int)] 3)).cell? ⟨bT, oT + k * 4 + 3, none⟩ = some (.int .i8 mc) := hm3
  subst hAt
  -- the end
  have hend : Hid (∀ W' n', n' ≤ k + 1 → CX m0 n0 f q bk (some ⟨bT, oT, none⟩) t ct O ((W.alloc (.cells #[.int .i64 (k : Int)] 3)).alloc (.cells #[.int .i64 p, .int .i64 ma, .int .i64 mb, .int .i8 mc] 59)) W' (fnd f q bk t (k + 1)) (kin t (k + 1)) n' →
      ∃ O', FI m0 n0 f q bk (some ⟨bT, oT, none⟩) t ct (k + 1) O' W' ∧ VFr O O' (Value.slice (some ⟨bP, 0, none⟩) l.length cp).ownBlock W W') := fun W' n' hn' hC => by
    obtain ⟨A', c', hC⟩ := hC
    refine ⟨fun b => (m0 ≤ b ∧ b < n0 + 6) ∨ (Value.slice A' (fnd f q bk t (k + 1)).length c').ownBlock = some b, ⟨A', c', n', hn', hC.fs, fun b => Iff.rfl⟩, ((GFr.refl O W).grown (grown_of_below hbx) (fun b e => by cases e)).trans hC.fr (fun b hb _ => hb), fun b hb => ?_, fun b hb => ?_⟩
    · rcases hb with ⟨h1, h2⟩ | hb
      · exact .inl (hC.lo b h1 h2)
      · rcases hC.rw b hb with e | e
        · exact .inl e
        · exact .inr (.inl (by omega))
    · rcases hb with ⟨h1, h2⟩ | hb
      · have := hC.fs.size; omega
      · exact (World.ownsRow.lt hC.fs.row b hb).2
  clear hok hx hO hp hpo hch hply hbne hnb hF hOb e0 e1 e2 e3 hpR hb1 hb2 hi1 hm0 hm1 hm2 hm3 hbx
  rw [hn1]
  have hsn := Lib.hid hn1
  clear hn1
  go_enter Try.func34, Try.ntmps34
  go_upto_region 2 with fail
  have hQ2 : Qd ((W.alloc (.cells #[.int .i64 (k : Int)] 3)).alloc (.cells #[.int .i64 p, .int .i64 ma, .int .i64 mb, .int .i8 mc] 59)) (W.heap.size + 1) (p, ma, mb, mc) := by
    have h := hQ
    rwa [show (W.alloc (.cells #[.int .i64 (k : Int)] 3)).heap.size = W.heap.size + 1 by simp] at h
  have hpW : Hid (∀ i, ((W.alloc (.cells #[.int .i64 (k : Int)] 3)).alloc (.cells #[.int .i64 p, .int .i64 ma, .int .i64 mb, .int .i8 mc] 59)).cell? ⟨bP, i, none⟩ = W.cell? ⟨bP, i, none⟩) := fun i =>
    (((Below.refl W.heap.size W).alloc (Nat.le_refl _) _).alloc (by simp) _).cell (p := ⟨bP, i, none⟩) hbP
  clear hQ hmt hm0' hm1' hm2' hm3' hctt
  generalize (W.alloc (.cells #[.int .i64 (k : Int)] 3)).alloc (.cells #[.int .i64 p, .int .i64 ma, .int .i64 mb, .int .i8 mc] 59) = w1 at *
  have hBi : W.heap.size < w1.heap.size := by omega
  have hBx : W.heap.size + 1 < w1.heap.size := by omega
  have hcx : Hid (∀ W' acc ps n, CX m0 n0 f q bk (some ⟨bT, oT, none⟩) t ct O w1 W' acc ps n → W'.cell? ⟨W.heap.size + 1, 0, none⟩ = some (.int .i64 p) ∧ W'.cell? ⟨W.heap.size + 1, 3, none⟩ = some (.int .i8 mc) ∧ (∀ i, W'.cell? ⟨bP, i, none⟩ = W.cell? ⟨bP, i, none⟩) ∧ W.heap.size ≤ W'.heap.size) := fun W' acc ps n h =>
    ⟨(h.old hBx (hOn _ (by omega)) 0).trans hQ2.c0, (h.old hBx (hOn _ (by omega)) 3).trans hQ2.c3, fun i => (h.old (by omega) hbPO i).trans (hpW.out i), by have := h.size; omega⟩
  have hadd : Hid (∀ W' acc ps n (th : Int) (b : Bool), CX m0 n0 f q bk (some ⟨bT, oT, none⟩) t ct O w1 W' acc ps n → acc.length ≤ 100000 → Calls Try.prog 35 #[.int .i64 th, .bool b, .pointer (some ⟨n0 + 3, 0, none⟩), .pointer (some ⟨W.heap.size, 0, none⟩)] W' fun e W2 => e = .returned (.tuple #[]) ∧ CX m0 n0 f q bk (some ⟨bT, oT, none⟩) t ct O w1 W2 (acc ++ addL b th k) ps n) := fun W' acc ps n th b h hle =>
    h.add hBi (hOn _ (Nat.le_refl _)) th k b hi2.out hle
  have hpd : Hid (∀ W' acc ps n, CX m0 n0 f q bk (some ⟨bT, oT, none⟩) t ct O w1 W' acc ps n → RecAt iEnc 1 W' W'.heap.size (some ⟨bP, 0, none⟩) l) := fun W' acc ps n h => hpR2.out W' (hcx.out W' acc ps n h).2.2.1 (hcx.out W' acc ps n h).2.2.2
  have hx3 : w1.cell? ⟨W.heap.size + 1, 3, none⟩ = some (.int .i8 mc) := hQ2.c3
  obtain ⟨acc0, hacc0⟩ : ∃ acc0, fnd f q bk t k = acc0 := ⟨_, rfl⟩
  obtain ⟨ps0, hps0⟩ : ∃ ps0, kin t k = ps0 := ⟨_, rfl⟩
  rw [hacc0] at hX0 hfs hfl
  rw [hps0] at hX0 hks hsh hkl
  have hal0 : acc0.length ≤ 6000 := by omega
  have hal : Hid (∀ (a : List Sh') b th i, (a ++ addL b th i).length ≤ a.length + 1) := fun a b th i => by rw [List.length_append]; have := addL_len b th i; omega
  clear hQ2 hpW hOn hacc0 hps0 hpR2 hbPO hi2 hfl
  replace hpb := Lib.hid hpb
  replace hmc := Lib.hid hmc
  replace hkl := Lib.hid hkl
  have hwk : IntKind.i64.wrap (((n1 + 1 : Nat) : Int) - 1) = (n1 : Int) := by rw [show ((n1 + 1 : Nat) : Int) - 1 = (n1 : Int) by omega]; exact IntWalk.i64_in _ (by omega)
  go_upto_region 4 with fail
  go_wp2_with fail
  go_at_call 35
  refine (hadd.out w1 acc0 ps0 n 1 (mc != 0) hX0.out (by omega)).mono ?_
  rintro e w2 ⟨rfl, hX1⟩
  rw [show (mc != 0) = s1 (p, ma, mb, mc) by unfold s1 nPr; rw [Bool.eq_iff_iff, bne_iff_ne, decide_eq_true_iff]] at hX1
  obtain ⟨acc1, ha1⟩ : ∃ acc1, acc0 ++ addL (s1 (p, ma, mb, mc)) 1 k = acc1 := ⟨_, rfl⟩
  have hal1 : acc1.length ≤ 6001 := by rw [← ha1]; have := hal.out acc0 (s1 (p, ma, mb, mc)) 1 k; omega
  rw [ha1] at hX1
  replace ha1 := Lib.hid ha1
  replace hX1 := Lib.hid hX1
  clear hx3 hX0
  have hx3 := (hcx.out _ _ _ _ hX1.out).2.1
  obtain ⟨acc2, ha2⟩ : ∃ acc2, acc1 ++ addL (s2 (p, ma, mb, mc)) 2 k = acc2 := ⟨_, rfl⟩
  have hal2 : acc2.length ≤ 6002 := by rw [← ha2]; have := hal.out acc1 (s2 (p, ma, mb, mc)) 2 k; omega
  replace ha2 := Lib.hid ha2
  go_upto_region 5 with fail
  go_cut [] from 21 to 38 (fun wc => Hid (CX m0 n0 f q bk (some ⟨bT, oT, none⟩) t ct O w1 wc acc2 ps0 n))
  case first =>
    cases h0 : (mc != 0) with
    | false =>
      have hs : Hid (s2 (p, ma, mb, mc) = false) := by show _ = _; unfold s2 nPr; rw [show mc = 0 by simpa using h0]; rfl
      go_wp2_with fail
      go_at_call 35
      refine (hadd.out w2 acc1 ps0 n 2 false hX1.out (by omega)).mono ?_
      rintro e w3 ⟨rfl, hX2⟩
      rw [← hs.out, ha2.out] at hX2
      go_wp2_with fail
      go_meet
      exact hX2
    | true =>
      have hs : Hid ((mc != 5) = s2 (p, ma, mb, mc)) := by show _ = _; unfold s2 nPr; rw [decide_eq_true (show mc ≠ 0 by simpa using h0), Bool.true_and, Bool.eq_iff_iff, bne_iff_ne, decide_eq_true_iff]
      go_wp2_with fail
      go_at_call 35
      refine (hadd.out w2 acc1 ps0 n 2 (mc != 5) hX1.out (by omega)).mono ?_
      rintro e w3 ⟨rfl, hX2⟩
      rw [hs.out, ha2.out] at hX2
      go_wp2_with fail
      go_meet
      exact hX2
  rename_i wc
  have hX2 : Hid (CX m0 n0 f q bk (some ⟨bT, oT, none⟩) t ct O w1 wc acc2 ps0 n) := hcut
  clear hcut hX1 hx3
  generalize wc = w3 at *
  obtain ⟨acc3, ha3⟩ : ∃ acc3, acc2 ++ addL (s3 (p, ma, mb, mc) ps0) 3 k = acc3 := ⟨_, rfl⟩
  have hal3 : acc3.length ≤ 6003 := by rw [← ha3]; have := hal.out acc2 (s3 (p, ma, mb, mc) ps0) 3 k; omega
  replace ha3 := Lib.hid ha3
  obtain ⟨ps1, hps1⟩ : ∃ ps1, kin t (k + 1) = ps1 := ⟨_, rfl⟩
  rw [hps1] at hks
  have hx3 := (hcx.out _ _ _ _ hX2.out).2.1
  go_upto_if 42 with fail
  go_cut [] from 39 to 59 (fun wc => Hid (CX m0 n0 f q bk (some ⟨bT, oT, none⟩) t ct O w1 wc acc3 ps1 (n + 1)))
  case first =>
    cases h0 : (mc != 0) with
    | false =>
      have hz0 : mc = 0 := by simpa using h0
      have hs : Hid (s3 (p, ma, mb, mc) ps0 = false) := by show _ = _; unfold s3 nPr; rw [hz0]; rfl
      have hX3 : Hid (CX m0 n0 f q bk (some ⟨bT, oT, none⟩) t ct O w1 w3 acc3 ps1 (n + 1)) := by
        have h1 := hks.out
        rw [if_pos (show nPr (p, ma, mb, mc) = 0 from hz0)] at h1
        rw [h1, ← ha3.out, hs.out, addL_no]
        exact hX2.out.mono (Nat.le_succ n)
      clear hz0
      go_wp2_with fail
      go_meet
      exact hX3
    | true =>
      have hz0 : mc ≠ 0 := by simpa using h0
      have hps : Hid (ps1 = insP mc ps0) := by
        have h1 := hks.out
        rw [if_neg (show ¬ nPr (p, ma, mb, mc) = 0 from hz0)] at h1
        exact h1
      have hck := hX2.out.cells.2.2.2
      have hln := fun ty => hX2.out.set.len ty
      have hlk := hX2.out.set.lookup hwf.out
      cases h3 : ((ps0.length : Int) == 3) with
      | false =>
        have hs : Hid (s3 (p, ma, mb, mc) ps0 = false) := by
          show _ = _
          unfold s3
          rw [decide_eq_false (show ¬ ps0.length = 3 by intro e; rw [e] at h3; cases h3)]
          simp
        clear hlk
        replace hz0 := Lib.hid hz0
        go_wp2_with fail
        go_at_call 35
        refine (hadd.out w3 acc2 ps0 n 3 false hX2.out (by omega)).mono ?_
        rintro e w4 ⟨rfl, hX3⟩
        rw [← hs.out, ha3.out] at hX3
        replace hX3 := Lib.hid hX3
        clear hck hln hx3
        have hck := hX3.out.cells.2.2.2
        have hx3 := (hcx.out _ _ _ _ hX3.out).2.1
        obtain ⟨w5, hup, hM5, hg5⟩ := hX3.out.set.update hwf.out (by unfold maxLen; omega)
        have hX5 : Hid (CX m0 n0 f q bk (some ⟨bT, oT, none⟩) t ct O w1 w5 acc3 ps1 (n + 1)) := by rw [hps.out]; exact hX3.out.kinds hM5 hg5
        clear hM5 hg5
        go_wp2_with fail
        go_meet
        exact hX5
      | true =>
        have hs : Hid ((!(decide (mc ∈ ps0))) = s3 (p, ma, mb, mc) ps0) := by
          show _ = _
          unfold s3 nPr
          rw [decide_eq_true (show ps0.length = 3 by have := eq_of_beq h3; omega), decide_eq_true (show (p, ma, mb, mc).2.2.2 ≠ 0 from hz0)]
          simp
        replace hz0 := Lib.hid hz0
        go_wp2_with fail
        go_at_call 35
        refine (hadd.out w3 acc2 ps0 n 3 (!(decide (mc ∈ ps0))) hX2.out (by omega)).mono ?_
        rintro e w4 ⟨rfl, hX3⟩
        rw [hs.out, ha3.out] at hX3
        replace hX3 := Lib.hid hX3
        clear hck hln hx3 hlk
        have hck := hX3.out.cells.2.2.2
        have hx3 := (hcx.out _ _ _ _ hX3.out).2.1
        obtain ⟨w5, hup, hM5, hg5⟩ := hX3.out.set.update hwf.out (by unfold maxLen; omega)
        have hX5 : Hid (CX m0 n0 f q bk (some ⟨bT, oT, none⟩) t ct O w1 w5 acc3 ps1 (n + 1)) := by rw [hps.out]; exact hX3.out.kinds hM5 hg5
        clear hM5 hg5
        go_wp2_with fail
        go_meet
        exact hX5
  rename_i wc
  have hX3 : Hid (CX m0 n0 f q bk (some ⟨bT, oT, none⟩) t ct O w1 wc acc3 ps1 (n + 1)) := hcut
  clear hcut hX2 hx3
  generalize wc = w4 at *
  obtain ⟨acc4, ha4⟩ : ∃ acc4, acc3 ++ addL (s4 l) 4 k = acc4 := ⟨_, rfl⟩
  have hal4 : acc4.length ≤ 6004 := by rw [← ha4]; have := hal.out acc3 (s4 l) 4 k; omega
  replace ha4 := Lib.hid ha4
  have hsame : Hid (∀ W' acc ps n, CX m0 n0 f q bk (some ⟨bT, oT, none⟩) t ct O w1 W' acc ps n → Calls Try.prog 36 #[.slice (some ⟨bP, 0, none⟩) (n1 + 1) cp] W' fun e w' => e = .returned (.bool (pal l)) ∧ CX m0 n0 f q bk (some ⟨bT, oT, none⟩) t ct O w1 w' acc ps n ∧ Below W'.heap.size W' w') := fun W' acc ps n h =>
    (psame_n _ cp (n1 + 1) l W' hsn.out (hpd.out W' acc ps n h) (by omega) (.inr trivial) (by omega) (by rw [hsn.out]; omega)).mono fun e w' he => ⟨he.1, h.next he.2, he.2⟩
  go_upto_region 9 with fail
  go_cut [] from 60 to 67 (fun wc => Hid (CX m0 n0 f q bk (some ⟨bT, oT, none⟩) t ct O w1 wc acc4 ps1 (n + 1)))
  case first =>
    by_cases h2 : 2 ≤ n1
    · have hs : Hid (pal l = s4 l) := by show _ = _; unfold s4; rw [decide_eq_true (show 3 ≤ l.length by rw [hsn.out]; omega), Bool.true_and]
      have hd2 : decide ((2 : Int) ≤ (n1 : Int)) = true := decide_eq_true (by omega)
      have h2' : (2 : Int) ≤ (n1 : Int) := by omega
      go_wp2_with fail
      go_at_call 36
      refine (hsame.out w4 acc3 ps1 (n + 1) hX3.out).mono ?_
      rintro e w5 ⟨rfl, hX4, hb4⟩
      clear hb4
      replace hX4 := Lib.hid hX4
      go_wp2_with fail
      go_at_call 35
      refine (hadd.out w5 acc3 ps1 (n + 1) 4 (pal l) hX4.out (by omega)).mono ?_
      rintro e w6 ⟨rfl, hX5⟩
      rw [hs.out, ha4.out] at hX5
      go_wp2_with fail
      go_meet
      exact hX5
    · have hs : Hid (s4 l = false) := by show _ = _; unfold s4; rw [decide_eq_false (show ¬ 3 ≤ l.length by rw [hsn.out]; omega), Bool.false_and]
      have hd2 : decide ((2 : Int) ≤ (n1 : Int)) = false := decide_eq_false (by omega)
      go_wp2_with fail
      go_at_call 35
      refine (hadd.out w4 acc3 ps1 (n + 1) 4 false hX3.out (by omega)).mono ?_
      rintro e w6 ⟨rfl, hX5⟩
      rw [← hs.out, ha4.out] at hX5
      go_wp2_with fail
      go_meet
      exact hX5
  rename_i wc
  have hX4 : Hid (CX m0 n0 f q bk (some ⟨bT, oT, none⟩) t ct O w1 wc acc4 ps1 (n + 1)) := hcut
  clear hcut hX3
  generalize wc = w5 at *
  obtain ⟨first, hfi⟩ : ∃ first, l.getD 0 0 = first := ⟨_, rfl⟩
  obtain ⟨last, hla⟩ : ∃ last, l.getD n1 0 = last := ⟨_, rfl⟩
  have hfb : 0 ≤ first ∧ first < 64 := by
    have h1 : l[0]? = some first := by rw [← hfi, List.getD, List.getElem?_eq_getElem (show 0 < l.length by rw [hsn.out]; omega)]; rfl
    exact hpb.out first (List.mem_of_getElem? h1)
  have hS : Hid (∀ W' acc ps n, CX m0 n0 f q bk (some ⟨bT, oT, none⟩) t ct O w1 W' acc ps n → W'.cell? ⟨bP, n1, none⟩ = some (.int .i64 last) ∧ W'.cell? ⟨bP, 0, none⟩ = some (.int .i64 first)) := fun W' acc ps n h => by
    have hc := (hcx.out W' acc ps n h).2.2.1
    have h1 := hpc.out n1 (by rw [hsn.out]; omega)
    have h2 := hpc.out 0 (by rw [hsn.out]; omega)
    rw [hla, Nat.zero_add] at h1
    rw [hfi, Nat.zero_add] at h2
    exact ⟨(hc _).trans h1, (hc _).trans h2⟩
  have hs5 : Hid (s5 l = (decide (3 ≤ n1) && (decide (last = first) && !(pal l)))) := by
    show _ = _
    unfold s5
    rw [hsn.out, Nat.add_sub_cancel, hla, hfi]
    congr 1
    rw [decide_eq_decide]
    omega
  obtain ⟨acc5, ha5⟩ : ∃ acc5, acc4 ++ addL (s5 l) 5 k = acc5 := ⟨_, rfl⟩
  have hal5 : acc5.length ≤ 6005 := by rw [← ha5]; have := hal.out acc4 (s5 l) 5 k; omega
  replace ha5 := Lib.hid ha5
  replace hla := Lib.hid hla
  replace hfi := Lib.hid hfi
  have hXd : Hid (CX m0 n0 f q bk (some ⟨bT, oT, none⟩) t ct O w1 (World.drew w5) acc4 ps1 (n + 1)) := hX4.out.next (Below.refl _ _).drew
  have hn0 : (0 : Int) ≤ (n1 : Int) := Int.natCast_nonneg _
  have hn1I : (n1 : Int) < ((n1 + 1 : Nat) : Int) := by omega
  have hn1p : 0 < n1 + 1 := Nat.succ_pos _
  have hn1J : (n1 : Int) < (n1 : Int) + 1 := by omega
  have hn1K : (0 : Int) < (n1 : Int) + 1 := by omega
  go_upto_region 10 with fail
  go_cut [] from 68 to 86 (fun wc => Hid (CX m0 n0 f q bk (some ⟨bT, oT, none⟩) t ct O w1 wc acc5 ps1 (n + 1)))
  case first =>
    by_cases h3 : 3 ≤ n1
    · have hd3 : decide ((3 : Int) ≤ (n1 : Int)) = true := decide_eq_true (by omega)
      have h3' : (3 : Int) ≤ (n1 : Int) := by omega
      by_cases hlf : last = first
      · skip
        have hlfb : (last == first) = true := by rw [hlf]; exact beq_self_eq_true _
        have hs : Hid ((!(pal l)) = s5 l) := by show _ = _; rw [hs5.out, decide_eq_true h3, decide_eq_true hlf, Bool.true_and, Bool.true_and]
        replace hlf := Lib.hid hlf
        refine wp_region_held_drew (S := fun W' => W'.cell? ⟨bP, n1, none⟩ = some (.int .i64 last) ∧ W'.cell? ⟨bP, 0, none⟩ = some (.int .i64 first)) (by kernel_rfl) (hS.out _ _ _ _ hXd.out) (fun hHeld => ?_)
        refine wpAnyH_take (i := 0) (v := ?_) rfl (by kernel_rfl) (by kernel_rfl) (by kernel_rfl) (fun _ _ _ h => h) (Or.inl ⟨by rfl, ?_⟩) hHeld ?_
        rotate_left
        · intro W9 hSw; (try dsimp only at hSw); go_simp; (try with_reducible rfl)
        simp only [Act.put, List.getElem_toArray, List.getElem_cons_zero, List.getElem_cons_succ, List.setIfInBounds_toArray, List.set_cons_zero, List.set_cons_succ]
        refine wpAnyH_take (i := 1) (v := ?_) rfl (by kernel_rfl) (by kernel_rfl) (by kernel_rfl) (fun _ _ _ h => h) (Or.inl ⟨by rfl, ?_⟩) hHeld ?_
        rotate_left
        · intro W9 hSw; (try dsimp only at hSw); go_simp; (try with_reducible rfl)
        simp only [Act.put, List.getElem_toArray, List.getElem_cons_zero, List.getElem_cons_succ, List.setIfInBounds_toArray, List.set_cons_zero, List.set_cons_succ]
        refine wpAnyH_take (i := 2) (v := ?_) rfl (by kernel_rfl) (by kernel_rfl) (by kernel_rfl) (fun _ _ _ h => h) (Or.inl ⟨by rfl, ?_⟩) hHeld ?_
        rotate_left
        · intro W9 hSw; (try dsimp only at hSw); go_simp; (try with_reducible rfl)
        simp only [Act.put, List.getElem_toArray, List.getElem_cons_zero, List.getElem_cons_succ, List.setIfInBounds_toArray, List.set_cons_zero, List.set_cons_succ]
        refine wpAnyH_take (i := 3) (v := ?_) rfl (by kernel_rfl) (by kernel_rfl) (by kernel_rfl) (fun _ _ _ h => h) (Or.inl ⟨by rfl, ?_⟩) hHeld ?_
        rotate_left
        · intro W9 hSw; (try dsimp only at hSw); go_simp; (try with_reducible rfl)
        simp only [Act.put, List.getElem_toArray, List.getElem_cons_zero, List.getElem_cons_succ, List.setIfInBounds_toArray, List.set_cons_zero, List.set_cons_succ]
        refine wpAnyH_take (i := 4) (v := ?_) rfl (by kernel_rfl) (by kernel_rfl) (by kernel_rfl) (fun _ _ _ h => h) (Or.inl ⟨by rfl, ?_⟩) hHeld ?_
        rotate_left
        · intro W9 hSw; (try dsimp only at hSw); go_simp; (try with_reducible rfl)
        simp only [Act.put, List.getElem_toArray, List.getElem_cons_zero, List.getElem_cons_succ, List.setIfInBounds_toArray, List.set_cons_zero, List.set_cons_succ]
        refine wpAnyH_take (i := 5) (v := ?_) rfl (by kernel_rfl) (by kernel_rfl) (by kernel_rfl) (fun _ _ _ h => h) (Or.inl ⟨by rfl, ?_⟩) hHeld ?_
        rotate_left
        · intro W9 hSw; (try dsimp only at hSw); go_simp; (try with_reducible rfl)
        simp only [Act.put, List.getElem_toArray, List.getElem_cons_zero, List.getElem_cons_succ, List.setIfInBounds_toArray, List.set_cons_zero, List.set_cons_succ]
        refine wpAnyH_take (i := 6) (v := ?_) rfl (by kernel_rfl) (by kernel_rfl) (by kernel_rfl) (fun _ _ _ h => h) (Or.inl ⟨by rfl, ?_⟩) hHeld ?_
        rotate_left
        · intro W9 hSw; (try dsimp only at hSw); go_simp; (try with_reducible rfl)
        simp only [Act.put, List.getElem_toArray, List.getElem_cons_zero, List.getElem_cons_succ, List.setIfInBounds_toArray, List.set_cons_zero, List.set_cons_succ]
        refine wpAnyH_take (i := 7) (v := ?_) rfl (by kernel_rfl) (by kernel_rfl) (by kernel_rfl) (fun _ _ _ h => h) (Or.inl ⟨by rfl, ?_⟩) hHeld ?_
        rotate_left
        · intro W9 hSw; (try dsimp only at hSw); go_simp; (try with_reducible rfl)
        simp only [Act.put, List.getElem_toArray, List.getElem_cons_zero, List.getElem_cons_succ, List.setIfInBounds_toArray, List.set_cons_zero, List.set_cons_succ]
        refine wpAnyH_take (i := 8) (v := ?_) rfl (by kernel_rfl) (by kernel_rfl) (by kernel_rfl) (fun _ _ _ h => h) (Or.inl ⟨by rfl, ?_⟩) hHeld ?_
        rotate_left
        · intro W9 hSw; (try dsimp only at hSw); go_simp; (try with_reducible rfl)
        simp only [Act.put, List.getElem_toArray, List.getElem_cons_zero, List.getElem_cons_succ, List.setIfInBounds_toArray, List.set_cons_zero, List.set_cons_succ]
        refine wpAnyH_take (i := 9) (v := ?_) rfl (by kernel_rfl) (by kernel_rfl) (by kernel_rfl) (fun _ _ _ h => h) (Or.inl ⟨by rfl, ?_⟩) hHeld ?_
        rotate_left
        · intro W9 hSw; (try dsimp only at hSw); go_simp; (try with_reducible rfl)
        simp only [Act.put, List.getElem_toArray, List.getElem_cons_zero, List.getElem_cons_succ, List.setIfInBounds_toArray, List.set_cons_zero, List.set_cons_succ]
        refine wpAnyH_take (i := 10) (v := ?_) rfl (by kernel_rfl) (by kernel_rfl) (by kernel_rfl) (fun _ _ _ h => h) (Or.inl ⟨by rfl, ?_⟩) hHeld ?_
        rotate_left
        · intro W9 hSw; (try dsimp only at hSw); go_simp; (try with_reducible rfl)
        simp only [Act.put, List.getElem_toArray, List.getElem_cons_zero, List.getElem_cons_succ, List.setIfInBounds_toArray, List.set_cons_zero, List.set_cons_succ]
        refine wpAnyH_take (i := 11) (v := ?_) rfl (by kernel_rfl) (by kernel_rfl) (by kernel_rfl) (fun _ _ _ h => h) (Or.inl ⟨by rfl, ?_⟩) hHeld ?_
        rotate_left
        · intro W9 hSw; (try dsimp only at hSw); go_simp; (try with_reducible rfl)
        simp only [Act.put, List.getElem_toArray, List.getElem_cons_zero, List.getElem_cons_succ, List.setIfInBounds_toArray, List.set_cons_zero, List.set_cons_succ]
        refine wpAnyH_take (i := 12) (v := ?_) rfl (by kernel_rfl) (by kernel_rfl) (by kernel_rfl) (fun _ _ _ h => h) (Or.inl ⟨by rfl, ?_⟩) hHeld ?_
        rotate_left
        · intro W9 hSw; (try dsimp only at hSw); go_simp; (try with_reducible rfl)
        simp only [Act.put, List.getElem_toArray, List.getElem_cons_zero, List.getElem_cons_succ, List.setIfInBounds_toArray, List.set_cons_zero, List.set_cons_succ]
        refine wpAnyH_take (i := 13) (v := ?_) rfl (by kernel_rfl) (by kernel_rfl) (by kernel_rfl) (fun _ _ _ h => h) (Or.inl ⟨by rfl, ?_⟩) hHeld ?_
        rotate_left
        · intro W9 hSw; (try dsimp only at hSw); go_simp; (try with_reducible rfl)
        simp only [Act.put, List.getElem_toArray, List.getElem_cons_zero, List.getElem_cons_succ, List.setIfInBounds_toArray, List.set_cons_zero, List.set_cons_succ]
        refine wpAnyH_take (i := 14) (v := ?_) rfl (by kernel_rfl) (by kernel_rfl) (by kernel_rfl) (fun _ _ _ h => h) (Or.inl ⟨by rfl, ?_⟩) hHeld ?_
        rotate_left
        · intro W9 hSw; (try dsimp only at hSw); go_simp; (try with_reducible rfl)
        simp only [Act.put, List.getElem_toArray, List.getElem_cons_zero, List.getElem_cons_succ, List.setIfInBounds_toArray, List.set_cons_zero, List.set_cons_succ]
        refine wpAnyH_ready (rs := [15]) (by kernel_rfl) (by simp) ?_
        refine AllReadyH.cons rfl (fun K hK => ?_) AllReadyH.nil
        go_simp
        go_at_call 36
        refine (hsame.out (World.drew w5) acc4 ps1 (n + 1) hXd.out).mono ?_
        rintro e w6 ⟨rfl, hX5, hb5⟩
        clear hb5
        replace hX5 := Lib.hid hX5
        refine hK.out _ _ (hS.out _ _ _ _ hX5.out) (fun hHeld2 => ?_)
        clear hK K hHeld
        have hHeld := hHeld2
        clear hHeld2
        refine wpAnyH_take (i := 16) (v := ?_) rfl (by kernel_rfl) (by kernel_rfl) (by kernel_rfl) (fun _ _ _ h => h) (Or.inl ⟨by rfl, ?_⟩) hHeld ?_
        rotate_left
        · intro W9 hSw; (try dsimp only at hSw); go_simp; (try with_reducible rfl)
        simp only [Act.put, List.getElem_toArray, List.getElem_cons_zero, List.getElem_cons_succ, List.setIfInBounds_toArray, List.set_cons_zero, List.set_cons_succ]
        refine wpAnyH_take (i := 17) (v := ?_) rfl (by kernel_rfl) (by kernel_rfl) (by kernel_rfl) (fun _ _ _ h => h) (Or.inl ⟨by rfl, ?_⟩) hHeld ?_
        rotate_left
        · intro W9 hSw; (try dsimp only at hSw); go_simp; (try with_reducible rfl)
        simp only [Act.put, List.getElem_toArray, List.getElem_cons_zero, List.getElem_cons_succ, List.setIfInBounds_toArray, List.set_cons_zero, List.set_cons_succ]
        refine wpAnyH_ready (rs := [18]) (by kernel_rfl) (by simp) ?_
        refine AllReadyH.cons rfl (fun K hK => ?_) AllReadyH.nil
        go_simp
        go_at_call 35
        refine (hadd.out _ acc4 ps1 (n + 1) 5 (!(pal l)) hX5.out (by omega)).mono ?_
        rintro e w7 ⟨rfl, hX6⟩
        rw [hs.out, ha5.out] at hX6
        replace hX6 := Lib.hid hX6
        refine hK.out _ _ (hS.out _ _ _ _ hX6.out) (fun hHeld2 => ?_)
        clear hK K hHeld
        have hHeld := hHeld2
        clear hHeld2
        refine wpAnyH_done (by kernel_rfl) ?_ _
        go_wp2_with fail
        go_meet
        exact hX6
      · skip
        have hlfb : (last == first) = false := by rw [beq_eq_false_iff_ne]; exact hlf
        have hs : Hid (s5 l = false) := by show _ = _; rw [hs5.out, decide_eq_false hlf]; simp
        replace hlf := Lib.hid hlf
        refine wp_region_held_drew (S := fun W' => W'.cell? ⟨bP, n1, none⟩ = some (.int .i64 last) ∧ W'.cell? ⟨bP, 0, none⟩ = some (.int .i64 first)) (by kernel_rfl) (hS.out _ _ _ _ hXd.out) (fun hHeld => ?_)
        refine wpAnyH_take (i := 0) (v := ?_) rfl (by kernel_rfl) (by kernel_rfl) (by kernel_rfl) (fun _ _ _ h => h) (Or.inl ⟨by rfl, ?_⟩) hHeld ?_
        rotate_left
        · intro W9 hSw; (try dsimp only at hSw); go_simp; (try with_reducible rfl)
        simp only [Act.put, List.getElem_toArray, List.getElem_cons_zero, List.getElem_cons_succ, List.setIfInBounds_toArray, List.set_cons_zero, List.set_cons_succ]
        refine wpAnyH_take (i := 1) (v := ?_) rfl (by kernel_rfl) (by kernel_rfl) (by kernel_rfl) (fun _ _ _ h => h) (Or.inl ⟨by rfl, ?_⟩) hHeld ?_
        rotate_left
        · intro W9 hSw; (try dsimp only at hSw); go_simp; (try with_reducible rfl)
        simp only [Act.put, List.getElem_toArray, List.getElem_cons_zero, List.getElem_cons_succ, List.setIfInBounds_toArray, List.set_cons_zero, List.set_cons_succ]
        refine wpAnyH_take (i := 2) (v := ?_) rfl (by kernel_rfl) (by kernel_rfl) (by kernel_rfl) (fun _ _ _ h => h) (Or.inl ⟨by rfl, ?_⟩) hHeld ?_
        rotate_left
        · intro W9 hSw; (try dsimp only at hSw); go_simp; (try with_reducible rfl)
        simp only [Act.put, List.getElem_toArray, List.getElem_cons_zero, List.getElem_cons_succ, List.setIfInBounds_toArray, List.set_cons_zero, List.set_cons_succ]
        refine wpAnyH_take (i := 3) (v := ?_) rfl (by kernel_rfl) (by kernel_rfl) (by kernel_rfl) (fun _ _ _ h => h) (Or.inl ⟨by rfl, ?_⟩) hHeld ?_
        rotate_left
        · intro W9 hSw; (try dsimp only at hSw); go_simp; (try with_reducible rfl)
        simp only [Act.put, List.getElem_toArray, List.getElem_cons_zero, List.getElem_cons_succ, List.setIfInBounds_toArray, List.set_cons_zero, List.set_cons_succ]
        refine wpAnyH_take (i := 4) (v := ?_) rfl (by kernel_rfl) (by kernel_rfl) (by kernel_rfl) (fun _ _ _ h => h) (Or.inl ⟨by rfl, ?_⟩) hHeld ?_
        rotate_left
        · intro W9 hSw; (try dsimp only at hSw); go_simp; (try with_reducible rfl)
        simp only [Act.put, List.getElem_toArray, List.getElem_cons_zero, List.getElem_cons_succ, List.setIfInBounds_toArray, List.set_cons_zero, List.set_cons_succ]
        refine wpAnyH_take (i := 5) (v := ?_) rfl (by kernel_rfl) (by kernel_rfl) (by kernel_rfl) (fun _ _ _ h => h) (Or.inl ⟨by rfl, ?_⟩) hHeld ?_
        rotate_left
        · intro W9 hSw; (try dsimp only at hSw); go_simp; (try with_reducible rfl)
        simp only [Act.put, List.getElem_toArray, List.getElem_cons_zero, List.getElem_cons_succ, List.setIfInBounds_toArray, List.set_cons_zero, List.set_cons_succ]
        refine wpAnyH_take (i := 6) (v := ?_) rfl (by kernel_rfl) (by kernel_rfl) (by kernel_rfl) (fun _ _ _ h => h) (Or.inl ⟨by rfl, ?_⟩) hHeld ?_
        rotate_left
        · intro W9 hSw; (try dsimp only at hSw); go_simp; (try with_reducible rfl)
        simp only [Act.put, List.getElem_toArray, List.getElem_cons_zero, List.getElem_cons_succ, List.setIfInBounds_toArray, List.set_cons_zero, List.set_cons_succ]
        refine wpAnyH_take (i := 7) (v := ?_) rfl (by kernel_rfl) (by kernel_rfl) (by kernel_rfl) (fun _ _ _ h => h) (Or.inl ⟨by rfl, ?_⟩) hHeld ?_
        rotate_left
        · intro W9 hSw; (try dsimp only at hSw); go_simp; (try with_reducible rfl)
        simp only [Act.put, List.getElem_toArray, List.getElem_cons_zero, List.getElem_cons_succ, List.setIfInBounds_toArray, List.set_cons_zero, List.set_cons_succ]
        refine wpAnyH_take (i := 8) (v := ?_) rfl (by kernel_rfl) (by kernel_rfl) (by kernel_rfl) (fun _ _ _ h => h) (Or.inl ⟨by rfl, ?_⟩) hHeld ?_
        rotate_left
        · intro W9 hSw; (try dsimp only at hSw); go_simp; (try with_reducible rfl)
        simp only [Act.put, List.getElem_toArray, List.getElem_cons_zero, List.getElem_cons_succ, List.setIfInBounds_toArray, List.set_cons_zero, List.set_cons_succ]
        refine wpAnyH_take (i := 9) (v := ?_) rfl (by kernel_rfl) (by kernel_rfl) (by kernel_rfl) (fun _ _ _ h => h) (Or.inl ⟨by rfl, ?_⟩) hHeld ?_
        rotate_left
        · intro W9 hSw; (try dsimp only at hSw); go_simp; (try with_reducible rfl)
        simp only [Act.put, List.getElem_toArray, List.getElem_cons_zero, List.getElem_cons_succ, List.setIfInBounds_toArray, List.set_cons_zero, List.set_cons_succ]
        refine wpAnyH_take (i := 10) (v := ?_) rfl (by kernel_rfl) (by kernel_rfl) (by kernel_rfl) (fun _ _ _ h => h) (Or.inl ⟨by rfl, ?_⟩) hHeld ?_
        rotate_left
        · intro W9 hSw; (try dsimp only at hSw); go_simp; (try with_reducible rfl)
        simp only [Act.put, List.getElem_toArray, List.getElem_cons_zero, List.getElem_cons_succ, List.setIfInBounds_toArray, List.set_cons_zero, List.set_cons_succ]
        refine wpAnyH_take (i := 11) (v := ?_) rfl (by kernel_rfl) (by kernel_rfl) (by kernel_rfl) (fun _ _ _ h => h) (Or.inl ⟨by rfl, ?_⟩) hHeld ?_
        rotate_left
        · intro W9 hSw; (try dsimp only at hSw); go_simp; (try with_reducible rfl)
        simp only [Act.put, List.getElem_toArray, List.getElem_cons_zero, List.getElem_cons_succ, List.setIfInBounds_toArray, List.set_cons_zero, List.set_cons_succ]
        refine wpAnyH_take (i := 12) (v := ?_) rfl (by kernel_rfl) (by kernel_rfl) (by kernel_rfl) (fun _ _ _ h => h) (Or.inl ⟨by rfl, ?_⟩) hHeld ?_
        rotate_left
        · intro W9 hSw; (try dsimp only at hSw); go_simp; (try with_reducible rfl)
        simp only [Act.put, List.getElem_toArray, List.getElem_cons_zero, List.getElem_cons_succ, List.setIfInBounds_toArray, List.set_cons_zero, List.set_cons_succ]
        refine wpAnyH_take (i := 13) (v := ?_) rfl (by kernel_rfl) (by kernel_rfl) (by kernel_rfl) (fun _ _ _ h => h) (Or.inl ⟨by rfl, ?_⟩) hHeld ?_
        rotate_left
        · intro W9 hSw; (try dsimp only at hSw); go_simp; (try with_reducible rfl)
        simp only [Act.put, List.getElem_toArray, List.getElem_cons_zero, List.getElem_cons_succ, List.setIfInBounds_toArray, List.set_cons_zero, List.set_cons_succ]
        refine wpAnyH_take (i := 14) (v := undef) rfl (by kernel_rfl) (by kernel_rfl) (by kernel_rfl) (fun _ _ _ h => h) (Or.inr ⟨by rfl, rfl⟩) hHeld ?_
        simp only [Act.put, List.getElem_toArray, List.getElem_cons_zero, List.getElem_cons_succ, List.setIfInBounds_toArray, List.set_cons_zero, List.set_cons_succ]
        refine wpAnyH_take (i := 15) (v := undef) rfl (by kernel_rfl) (by kernel_rfl) (by kernel_rfl) (fun _ _ _ h => h) (Or.inr ⟨by rfl, rfl⟩) hHeld ?_
        simp only [Act.put, List.getElem_toArray, List.getElem_cons_zero, List.getElem_cons_succ, List.setIfInBounds_toArray, List.set_cons_zero, List.set_cons_succ]
        refine wpAnyH_take (i := 16) (v := undef) rfl (by kernel_rfl) (by kernel_rfl) (by kernel_rfl) (fun _ _ _ h => h) (Or.inr ⟨by rfl, rfl⟩) hHeld ?_
        simp only [Act.put, List.getElem_toArray, List.getElem_cons_zero, List.getElem_cons_succ, List.setIfInBounds_toArray, List.set_cons_zero, List.set_cons_succ]
        refine wpAnyH_take (i := 17) (v := ?_) rfl (by kernel_rfl) (by kernel_rfl) (by kernel_rfl) (fun _ _ _ h => h) (Or.inl ⟨by rfl, ?_⟩) hHeld ?_
        rotate_left
        · intro W9 hSw; (try dsimp only at hSw); go_simp; (try with_reducible rfl)
        simp only [Act.put, List.getElem_toArray, List.getElem_cons_zero, List.getElem_cons_succ, List.setIfInBounds_toArray, List.set_cons_zero, List.set_cons_succ]
        refine wpAnyH_ready (rs := [18]) (by kernel_rfl) (by simp) ?_
        refine AllReadyH.cons rfl (fun K hK => ?_) AllReadyH.nil
        go_simp
        go_at_call 35
        refine (hadd.out _ acc4 ps1 (n + 1) 5 false hXd.out (by omega)).mono ?_
        rintro e w7 ⟨rfl, hX6⟩
        rw [← hs.out, ha5.out] at hX6
        replace hX6 := Lib.hid hX6
        refine hK.out _ _ (hS.out _ _ _ _ hX6.out) (fun hHeld2 => ?_)
        clear hK K hHeld
        have hHeld := hHeld2
        clear hHeld2
        refine wpAnyH_done (by kernel_rfl) ?_ _
        go_wp2_with fail
        go_meet
        exact hX6
    · skip
      have hd3 : decide ((3 : Int) ≤ (n1 : Int)) = false := decide_eq_false (by omega)
      have hs : Hid (s5 l = false) := by show _ = _; rw [hs5.out, decide_eq_false h3]; rfl
      refine wp_region_held_drew (S := fun W' => W'.cell? ⟨bP, n1, none⟩ = some (.int .i64 last) ∧ W'.cell? ⟨bP, 0, none⟩ = some (.int .i64 first)) (by kernel_rfl) (hS.out _ _ _ _ hXd.out) (fun hHeld => ?_)
      refine wpAnyH_take (i := 0) (v := ?_) rfl (by kernel_rfl) (by kernel_rfl) (by kernel_rfl) (fun _ _ _ h => h) (Or.inl ⟨by rfl, ?_⟩) hHeld ?_
      rotate_left
      · intro W9 hSw; (try dsimp only at hSw); go_simp; (try with_reducible rfl)
      simp only [Act.put, List.getElem_toArray, List.getElem_cons_zero, List.getElem_cons_succ, List.setIfInBounds_toArray, List.set_cons_zero, List.set_cons_succ]
      refine wpAnyH_take (i := 1) (v := ?_) rfl (by kernel_rfl) (by kernel_rfl) (by kernel_rfl) (fun _ _ _ h => h) (Or.inl ⟨by rfl, ?_⟩) hHeld ?_
      rotate_left
      · intro W9 hSw; (try dsimp only at hSw); go_simp; (try with_reducible rfl)
      simp only [Act.put, List.getElem_toArray, List.getElem_cons_zero, List.getElem_cons_succ, List.setIfInBounds_toArray, List.set_cons_zero, List.set_cons_succ]
      refine wpAnyH_take (i := 2) (v := ?_) rfl (by kernel_rfl) (by kernel_rfl) (by kernel_rfl) (fun _ _ _ h => h) (Or.inl ⟨by rfl, ?_⟩) hHeld ?_
      rotate_left
      · intro W9 hSw; (try dsimp only at hSw); go_simp; (try with_reducible rfl)
      simp only [Act.put, List.getElem_toArray, List.getElem_cons_zero, List.getElem_cons_succ, List.setIfInBounds_toArray, List.set_cons_zero, List.set_cons_succ]
      refine wpAnyH_take (i := 3) (v := ?_) rfl (by kernel_rfl) (by kernel_rfl) (by kernel_rfl) (fun _ _ _ h => h) (Or.inl ⟨by rfl, ?_⟩) hHeld ?_
      rotate_left
      · intro W9 hSw; (try dsimp only at hSw); go_simp; (try with_reducible rfl)
      simp only [Act.put, List.getElem_toArray, List.getElem_cons_zero, List.getElem_cons_succ, List.setIfInBounds_toArray, List.set_cons_zero, List.set_cons_succ]
      refine wpAnyH_take (i := 4) (v := undef) rfl (by kernel_rfl) (by kernel_rfl) (by kernel_rfl) (fun _ _ _ h => h) (Or.inr ⟨by rfl, rfl⟩) hHeld ?_
      simp only [Act.put, List.getElem_toArray, List.getElem_cons_zero, List.getElem_cons_succ, List.setIfInBounds_toArray, List.set_cons_zero, List.set_cons_succ]
      refine wpAnyH_take (i := 5) (v := undef) rfl (by kernel_rfl) (by kernel_rfl) (by kernel_rfl) (fun _ _ _ h => h) (Or.inr ⟨by rfl, rfl⟩) hHeld ?_
      simp only [Act.put, List.getElem_toArray, List.getElem_cons_zero, List.getElem_cons_succ, List.setIfInBounds_toArray, List.set_cons_zero, List.set_cons_succ]
      refine wpAnyH_take (i := 6) (v := undef) rfl (by kernel_rfl) (by kernel_rfl) (by kernel_rfl) (fun _ _ _ h => h) (Or.inr ⟨by rfl, rfl⟩) hHeld ?_
      simp only [Act.put, List.getElem_toArray, List.getElem_cons_zero, List.getElem_cons_succ, List.setIfInBounds_toArray, List.set_cons_zero, List.set_cons_succ]
      refine wpAnyH_take (i := 7) (v := undef) rfl (by kernel_rfl) (by kernel_rfl) (by kernel_rfl) (fun _ _ _ h => h) (Or.inr ⟨by rfl, rfl⟩) hHeld ?_
      simp only [Act.put, List.getElem_toArray, List.getElem_cons_zero, List.getElem_cons_succ, List.setIfInBounds_toArray, List.set_cons_zero, List.set_cons_succ]
      refine wpAnyH_take (i := 8) (v := undef) rfl (by kernel_rfl) (by kernel_rfl) (by kernel_rfl) (fun _ _ _ h => h) (Or.inr ⟨by rfl, rfl⟩) hHeld ?_
      simp only [Act.put, List.getElem_toArray, List.getElem_cons_zero, List.getElem_cons_succ, List.setIfInBounds_toArray, List.set_cons_zero, List.set_cons_succ]
      refine wpAnyH_take (i := 9) (v := undef) rfl (by kernel_rfl) (by kernel_rfl) (by kernel_rfl) (fun _ _ _ h => h) (Or.inr ⟨by rfl, rfl⟩) hHeld ?_
      simp only [Act.put, List.getElem_toArray, List.getElem_cons_zero, List.getElem_cons_succ, List.setIfInBounds_toArray, List.set_cons_zero, List.set_cons_succ]
      refine wpAnyH_take (i := 10) (v := undef) rfl (by kernel_rfl) (by kernel_rfl) (by kernel_rfl) (fun _ _ _ h => h) (Or.inr ⟨by rfl, rfl⟩) hHeld ?_
      simp only [Act.put, List.getElem_toArray, List.getElem_cons_zero, List.getElem_cons_succ, List.setIfInBounds_toArray, List.set_cons_zero, List.set_cons_succ]
      refine wpAnyH_take (i := 11) (v := undef) rfl (by kernel_rfl) (by kernel_rfl) (by kernel_rfl) (fun _ _ _ h => h) (Or.inr ⟨by rfl, rfl⟩) hHeld ?_
      simp only [Act.put, List.getElem_toArray, List.getElem_cons_zero, List.getElem_cons_succ, List.setIfInBounds_toArray, List.set_cons_zero, List.set_cons_succ]
      refine wpAnyH_take (i := 12) (v := ?_) rfl (by kernel_rfl) (by kernel_rfl) (by kernel_rfl) (fun _ _ _ h => h) (Or.inl ⟨by rfl, ?_⟩) hHeld ?_
      rotate_left
      · intro W9 hSw; (try dsimp only at hSw); go_simp; (try with_reducible rfl)
      simp only [Act.put, List.getElem_toArray, List.getElem_cons_zero, List.getElem_cons_succ, List.setIfInBounds_toArray, List.set_cons_zero, List.set_cons_succ]
      refine wpAnyH_take (i := 13) (v := ?_) rfl (by kernel_rfl) (by kernel_rfl) (by kernel_rfl) (fun _ _ _ h => h) (Or.inl ⟨by rfl, ?_⟩) hHeld ?_
      rotate_left
      · intro W9 hSw; (try dsimp only at hSw); go_simp; (try with_reducible rfl)
      simp only [Act.put, List.getElem_toArray, List.getElem_cons_zero, List.getElem_cons_succ, List.setIfInBounds_toArray, List.set_cons_zero, List.set_cons_succ]
      refine wpAnyH_take (i := 14) (v := undef) rfl (by kernel_rfl) (by kernel_rfl) (by kernel_rfl) (fun _ _ _ h => h) (Or.inr ⟨by rfl, rfl⟩) hHeld ?_
      simp only [Act.put, List.getElem_toArray, List.getElem_cons_zero, List.getElem_cons_succ, List.setIfInBounds_toArray, List.set_cons_zero, List.set_cons_succ]
      refine wpAnyH_take (i := 15) (v := undef) rfl (by kernel_rfl) (by kernel_rfl) (by kernel_rfl) (fun _ _ _ h => h) (Or.inr ⟨by rfl, rfl⟩) hHeld ?_
      simp only [Act.put, List.getElem_toArray, List.getElem_cons_zero, List.getElem_cons_succ, List.setIfInBounds_toArray, List.set_cons_zero, List.set_cons_succ]
      refine wpAnyH_take (i := 16) (v := undef) rfl (by kernel_rfl) (by kernel_rfl) (by kernel_rfl) (fun _ _ _ h => h) (Or.inr ⟨by rfl, rfl⟩) hHeld ?_
      simp only [Act.put, List.getElem_toArray, List.getElem_cons_zero, List.getElem_cons_succ, List.setIfInBounds_toArray, List.set_cons_zero, List.set_cons_succ]
      refine wpAnyH_take (i := 17) (v := ?_) rfl (by kernel_rfl) (by kernel_rfl) (by kernel_rfl) (fun _ _ _ h => h) (Or.inl ⟨by rfl, ?_⟩) hHeld ?_
      rotate_left
      · intro W9 hSw; (try dsimp only at hSw); go_simp; (try with_reducible rfl)
      simp only [Act.put, List.getElem_toArray, List.getElem_cons_zero, List.getElem_cons_succ, List.setIfInBounds_toArray, List.set_cons_zero, List.set_cons_succ]
      refine wpAnyH_ready (rs := [18]) (by kernel_rfl) (by simp) ?_
      refine AllReadyH.cons rfl (fun K hK => ?_) AllReadyH.nil
      go_simp
      go_at_call 35
      refine (hadd.out _ acc4 ps1 (n + 1) 5 false hXd.out (by omega)).mono ?_
      rintro e w7 ⟨rfl, hX6⟩
      rw [← hs.out, ha5.out] at hX6
      replace hX6 := Lib.hid hX6
      refine hK.out _ _ (hS.out _ _ _ _ hX6.out) (fun hHeld2 => ?_)
      clear hK K hHeld
      have hHeld := hHeld2
      clear hHeld2
      refine wpAnyH_done (by kernel_rfl) ?_ _
      go_wp2_with fail
      go_meet
      exact hX6
  rename_i wc
  have hX5 : Hid (CX m0 n0 f q bk (some ⟨bT, oT, none⟩) t ct O w1 wc acc5 ps1 (n + 1)) := hcut
  clear hcut hX4 hXd
  generalize wc = w6 at *
  obtain ⟨sv, hsv⟩ : ∃ sv, (bk == (p % 2 == 1)) = sv := ⟨_, rfl⟩
  have hcb := hX5.out.cells.2.2.1
  have hx0 := (hcx.out _ _ _ _ hX5.out).1
  go_upto_region 12 with fail
  have hX6 : Hid (CX m0 n0 f q bk (some ⟨bT, oT, none⟩) t ct O w1 (World.drew w6) acc5 ps1 (n + 1)) := hX5.out.next (Below.refl _ _).drew
  have hS6 : Hid (∀ W' acc ps n, CX m0 n0 f q bk (some ⟨bT, oT, none⟩) t ct O w1 W' acc ps n → W'.cell? ⟨W.heap.size + 1, 3, none⟩ = some (.int .i8 mc) ∧ W'.cell? ⟨bP, 0, none⟩ = some (.int .i64 first) ∧ W'.cell? ⟨m0, 0, none⟩ = some (.int .i64 f) ∧ W'.cell? ⟨m0, 1, none⟩ = some (.int .i64 q)) := fun W' acc ps n h =>
    ⟨(hcx.out W' acc ps n h).2.1, (hS.out W' acc ps n h).2, h.cells.1, h.cells.2.1⟩
  have hs6 : Hid (s6 f q bk (p, ma, mb, mc) l = (decide (mc ≠ 0) && (decide (2 ≤ n1) && decide (first / f = rk2 q sv)))) := by
    show _ = _
    unfold s6 nPr sd
    rw [hfi.out, hsn.out]
    congr 1
    congr 1
    · rw [decide_eq_decide]; omega
    · rw [← hsv]
  obtain ⟨acc6, ha6⟩ : ∃ acc6, acc5 ++ addL (s6 f q bk (p, ma, mb, mc) l) 6 k = acc6 := ⟨_, rfl⟩
  have hfin6 : Hid (fnd f q bk t (k + 1) = acc6) := by
    show _ = _
    rw [hfs.out, hsh.out, ← ha6, ← ha5.out, ← ha4.out, ← ha3.out, ← ha2.out, ← ha1.out]
    simp only [List.append_assoc]
  replace ha6 := Lib.hid ha6
  have hendq : Hid (∀ W', CX m0 n0 f q bk (some ⟨bT, oT, none⟩) t ct O w1 W' acc6 ps1 (n + 1) → ∃ O', FI m0 n0 f q bk (some ⟨bT, oT, none⟩) t ct (k + 1) O' W' ∧ VFr O O' (Value.slice (some ⟨bP, 0, none⟩) l.length cp).ownBlock W W') := fun W' h => hend.out W' (n + 1) (by omega) (by rw [hfin6.out, hps1]; exact h)
  clear hend hcb hx0
  have hsec : Hid (∀ W' acc ps n, CX m0 n0 f q bk (some ⟨bT, oT, none⟩) t ct O w1 W' acc ps n → Calls Try.prog 37 #[.agg #[.int .i64 f, .int .i64 q], .bool sv] W' fun e w' => e = .returned (.int .i64 (rk2 q sv)) ∧ CX m0 n0 f q bk (some ⟨bT, oT, none⟩) t ct O w1 w' acc ps n) := fun W' acc ps n h => (psecond f q sv W' (by omega) (by omega)).mono fun e w' he => ⟨he.1, h.next he.2⟩
  replace hps1 := Lib.hid hps1
  replace hsv := Lib.hid hsv
  cases h0 : (mc != 0) with
  | false =>
    have hs : Hid (s6 f q bk (p, ma, mb, mc) l = false) := by show _ = _; rw [hs6.out, decide_eq_false (show ¬ mc ≠ 0 by simpa using h0)]; rfl
    refine wp_region_held_drew (S := (fun W' => W'.cell? ⟨W.heap.size + 1, 3, none⟩ = some (.int .i8 mc) ∧ W'.cell? ⟨bP, 0, none⟩ = some (.int .i64 first) ∧ W'.cell? ⟨m0, 0, none⟩ = some (.int .i64 f) ∧ W'.cell? ⟨m0, 1, none⟩ = some (.int .i64 q))) (by kernel_rfl) (hS6.out _ _ _ _ hX6.out) (fun hHeld => ?_)
    refine wpAnyH_take (i := 0) (v := ?_) rfl (by kernel_rfl) (by kernel_rfl) (by kernel_rfl) (fun _ _ _ h => h) (Or.inl ⟨by rfl, ?_⟩) hHeld ?_
    rotate_left
    · intro W9 hSw; (try dsimp only at hSw); go_simp; (try with_reducible rfl)
    simp only [Act.put, List.getElem_toArray, List.getElem_cons_zero, List.getElem_cons_succ, List.setIfInBounds_toArray, List.set_cons_zero, List.set_cons_succ]
    refine wpAnyH_take (i := 1) (v := ?_) rfl (by kernel_rfl) (by kernel_rfl) (by kernel_rfl) (fun _ _ _ h => h) (Or.inl ⟨by rfl, ?_⟩) hHeld ?_
    rotate_left
    · intro W9 hSw; (try dsimp only at hSw); go_simp; (try with_reducible rfl)
    simp only [Act.put, List.getElem_toArray, List.getElem_cons_zero, List.getElem_cons_succ, List.setIfInBounds_toArray, List.set_cons_zero, List.set_cons_succ]
    refine wpAnyH_take (i := 2) (v := ?_) rfl (by kernel_rfl) (by kernel_rfl) (by kernel_rfl) (fun _ _ _ h => h) (Or.inl ⟨by rfl, ?_⟩) hHeld ?_
    rotate_left
    · intro W9 hSw; (try dsimp only at hSw); go_simp; (try with_reducible rfl)
    simp only [Act.put, List.getElem_toArray, List.getElem_cons_zero, List.getElem_cons_succ, List.setIfInBounds_toArray, List.set_cons_zero, List.set_cons_succ]
    refine wpAnyH_take (i := 3) (v := ?_) rfl (by kernel_rfl) (by kernel_rfl) (by kernel_rfl) (fun _ _ _ h => h) (Or.inl ⟨by rfl, ?_⟩) hHeld ?_
    rotate_left
    · intro W9 hSw; (try dsimp only at hSw); go_simp; (try with_reducible rfl)
    simp only [Act.put, List.getElem_toArray, List.getElem_cons_zero, List.getElem_cons_succ, List.setIfInBounds_toArray, List.set_cons_zero, List.set_cons_succ]
    refine wpAnyH_take (i := 4) (v := ?_) rfl (by kernel_rfl) (by kernel_rfl) (by kernel_rfl) (fun _ _ _ h => h) (Or.inl ⟨by rfl, ?_⟩) hHeld ?_
    rotate_left
    · intro W9 hSw; (try dsimp only at hSw); go_simp; (try with_reducible rfl)
    simp only [Act.put, List.getElem_toArray, List.getElem_cons_zero, List.getElem_cons_succ, List.setIfInBounds_toArray, List.set_cons_zero, List.set_cons_succ]
    refine wpAnyH_take (i := 5) (v := ?_) rfl (by kernel_rfl) (by kernel_rfl) (by kernel_rfl) (fun _ _ _ h => h) (Or.inl ⟨by rfl, ?_⟩) hHeld ?_
    rotate_left
    · intro W9 hSw; (try dsimp only at hSw); go_simp; (try with_reducible rfl)
    simp only [Act.put, List.getElem_toArray, List.getElem_cons_zero, List.getElem_cons_succ, List.setIfInBounds_toArray, List.set_cons_zero, List.set_cons_succ]
    refine wpAnyH_take (i := 6) (v := undef) rfl (by kernel_rfl) (by kernel_rfl) (by kernel_rfl) (fun _ _ _ h => h) (Or.inr ⟨by rfl, rfl⟩) hHeld ?_
    simp only [Act.put, List.getElem_toArray, List.getElem_cons_zero, List.getElem_cons_succ, List.setIfInBounds_toArray, List.set_cons_zero, List.set_cons_succ]
    refine wpAnyH_take (i := 7) (v := undef) rfl (by kernel_rfl) (by kernel_rfl) (by kernel_rfl) (fun _ _ _ h => h) (Or.inr ⟨by rfl, rfl⟩) hHeld ?_
    simp only [Act.put, List.getElem_toArray, List.getElem_cons_zero, List.getElem_cons_succ, List.setIfInBounds_toArray, List.set_cons_zero, List.set_cons_succ]
    refine wpAnyH_take (i := 8) (v := ?_) rfl (by kernel_rfl) (by kernel_rfl) (by kernel_rfl) (fun _ _ _ h => h) (Or.inl ⟨by rfl, ?_⟩) hHeld ?_
    rotate_left
    · intro W9 hSw; (try dsimp only at hSw); go_simp; (try with_reducible rfl)
    simp only [Act.put, List.getElem_toArray, List.getElem_cons_zero, List.getElem_cons_succ, List.setIfInBounds_toArray, List.set_cons_zero, List.set_cons_succ]
    refine wpAnyH_take (i := 9) (v := ?_) rfl (by kernel_rfl) (by kernel_rfl) (by kernel_rfl) (fun _ _ _ h => h) (Or.inl ⟨by rfl, ?_⟩) hHeld ?_
    rotate_left
    · intro W9 hSw; (try dsimp only at hSw); go_simp; (try with_reducible rfl)
    simp only [Act.put, List.getElem_toArray, List.getElem_cons_zero, List.getElem_cons_succ, List.setIfInBounds_toArray, List.set_cons_zero, List.set_cons_succ]
    refine wpAnyH_take (i := 10) (v := undef) rfl (by kernel_rfl) (by kernel_rfl) (by kernel_rfl) (fun _ _ _ h => h) (Or.inr ⟨by rfl, rfl⟩) hHeld ?_
    simp only [Act.put, List.getElem_toArray, List.getElem_cons_zero, List.getElem_cons_succ, List.setIfInBounds_toArray, List.set_cons_zero, List.set_cons_succ]
    refine wpAnyH_take (i := 11) (v := undef) rfl (by kernel_rfl) (by kernel_rfl) (by kernel_rfl) (fun _ _ _ h => h) (Or.inr ⟨by rfl, rfl⟩) hHeld ?_
    simp only [Act.put, List.getElem_toArray, List.getElem_cons_zero, List.getElem_cons_succ, List.setIfInBounds_toArray, List.set_cons_zero, List.set_cons_succ]
    refine wpAnyH_take (i := 12) (v := undef) rfl (by kernel_rfl) (by kernel_rfl) (by kernel_rfl) (fun _ _ _ h => h) (Or.inr ⟨by rfl, rfl⟩) hHeld ?_
    simp only [Act.put, List.getElem_toArray, List.getElem_cons_zero, List.getElem_cons_succ, List.setIfInBounds_toArray, List.set_cons_zero, List.set_cons_succ]
    refine wpAnyH_take (i := 13) (v := undef) rfl (by kernel_rfl) (by kernel_rfl) (by kernel_rfl) (fun _ _ _ h => h) (Or.inr ⟨by rfl, rfl⟩) hHeld ?_
    simp only [Act.put, List.getElem_toArray, List.getElem_cons_zero, List.getElem_cons_succ, List.setIfInBounds_toArray, List.set_cons_zero, List.set_cons_succ]
    refine wpAnyH_take (i := 14) (v := undef) rfl (by kernel_rfl) (by kernel_rfl) (by kernel_rfl) (fun _ _ _ h => h) (Or.inr ⟨by rfl, rfl⟩) hHeld ?_
    simp only [Act.put, List.getElem_toArray, List.getElem_cons_zero, List.getElem_cons_succ, List.setIfInBounds_toArray, List.set_cons_zero, List.set_cons_succ]
    refine wpAnyH_take (i := 15) (v := undef) rfl (by kernel_rfl) (by kernel_rfl) (by kernel_rfl) (fun _ _ _ h => h) (Or.inr ⟨by rfl, rfl⟩) hHeld ?_
    simp only [Act.put, List.getElem_toArray, List.getElem_cons_zero, List.getElem_cons_succ, List.setIfInBounds_toArray, List.set_cons_zero, List.set_cons_succ]
    refine wpAnyH_take (i := 16) (v := undef) rfl (by kernel_rfl) (by kernel_rfl) (by kernel_rfl) (fun _ _ _ h => h) (Or.inr ⟨by rfl, rfl⟩) hHeld ?_
    simp only [Act.put, List.getElem_toArray, List.getElem_cons_zero, List.getElem_cons_succ, List.setIfInBounds_toArray, List.set_cons_zero, List.set_cons_succ]
    refine wpAnyH_take (i := 17) (v := undef) rfl (by kernel_rfl) (by kernel_rfl) (by kernel_rfl) (fun _ _ _ h => h) (Or.inr ⟨by rfl, rfl⟩) hHeld ?_
    simp only [Act.put, List.getElem_toArray, List.getElem_cons_zero, List.getElem_cons_succ, List.setIfInBounds_toArray, List.set_cons_zero, List.set_cons_succ]
    refine wpAnyH_take (i := 18) (v := undef) rfl (by kernel_rfl) (by kernel_rfl) (by kernel_rfl) (fun _ _ _ h => h) (Or.inr ⟨by rfl, rfl⟩) hHeld ?_
    simp only [Act.put, List.getElem_toArray, List.getElem_cons_zero, List.getElem_cons_succ, List.setIfInBounds_toArray, List.set_cons_zero, List.set_cons_succ]
    refine wpAnyH_take (i := 19) (v := undef) rfl (by kernel_rfl) (by kernel_rfl) (by kernel_rfl) (fun _ _ _ h => h) (Or.inr ⟨by rfl, rfl⟩) hHeld ?_
    simp only [Act.put, List.getElem_toArray, List.getElem_cons_zero, List.getElem_cons_succ, List.setIfInBounds_toArray, List.set_cons_zero, List.set_cons_succ]
    refine wpAnyH_take (i := 20) (v := ?_) rfl (by kernel_rfl) (by kernel_rfl) (by kernel_rfl) (fun _ _ _ h => h) (Or.inl ⟨by rfl, ?_⟩) hHeld ?_
    rotate_left
    · intro W9 hSw; (try dsimp only at hSw); go_simp; (try with_reducible rfl)
    simp only [Act.put, List.getElem_toArray, List.getElem_cons_zero, List.getElem_cons_succ, List.setIfInBounds_toArray, List.set_cons_zero, List.set_cons_succ]
    refine wpAnyH_ready (rs := [21]) (by kernel_rfl) (by simp) ?_
    refine AllReadyH.cons rfl (fun K hK => ?_) AllReadyH.nil
    go_simp
    go_at_call 35
    refine (hadd.out _ acc5 ps1 (n + 1) 6 false hX6.out (by omega)).mono ?_
    rintro e w7 ⟨rfl, hX7⟩
    rw [← hs.out, ha6.out] at hX7
    replace hX7 := Lib.hid hX7
    refine hK.out _ _ (hS6.out _ _ _ _ hX7.out) (fun hHeld2 => ?_)
    clear hK K hHeld
    have hHeld := hHeld2
    clear hHeld2
    refine wpAnyH_done (by kernel_rfl) ?_ _
    go_wp2_with fail
    refine bodyPost_end (results_none rfl _ _ _) rfl ?_
    have h9 := hendq.out _ hX7.out
    rw [hsn.out] at h9
    exact ⟨rfl, h9⟩
  | true =>
    by_cases h2 : 2 ≤ n1
    · skip
      have hd2 : decide ((2 : Int) ≤ (n1 : Int)) = true := decide_eq_true (by omega)
      have h2' : (2 : Int) ≤ (n1 : Int) := by omega
      have hs : Hid ((first / f == rk2 q sv) = s6 f q bk (p, ma, mb, mc) l) := by
        show _ = _
        rw [hs6.out, decide_eq_true (show mc ≠ 0 by simpa using h0), decide_eq_true h2, Bool.true_and, Bool.true_and, Bool.eq_iff_iff, beq_iff_eq, decide_eq_true_iff]
      have hf00 : (f = 0) = False := by rw [eq_iff_iff, iff_false]; omega
      have htd : Int.tdiv first f = first / f := Int.tdiv_eq_ediv_of_nonneg hfb.1
      have hwq : IntKind.i64.wrap (first / f) = first / f := IntWalk.i64_in _ (by
        have h1 : 0 ≤ first / f := Int.ediv_nonneg hfb.1 (by omega)
        have h2 : first / f ≤ first := Int.ediv_le_self _ hfb.1
        omega)
      refine wp_region_held_drew (S := (fun W' => W'.cell? ⟨W.heap.size + 1, 3, none⟩ = some (.int .i8 mc) ∧ W'.cell? ⟨bP, 0, none⟩ = some (.int .i64 first) ∧ W'.cell? ⟨m0, 0, none⟩ = some (.int .i64 f) ∧ W'.cell? ⟨m0, 1, none⟩ = some (.int .i64 q))) (by kernel_rfl) (hS6.out _ _ _ _ hX6.out) (fun hHeld => ?_)
      refine wpAnyH_take (i := 0) (v := ?_) rfl (by kernel_rfl) (by kernel_rfl) (by kernel_rfl) (fun _ _ _ h => h) (Or.inl ⟨by rfl, ?_⟩) hHeld ?_
      rotate_left
      · intro W9 hSw; (try dsimp only at hSw); go_simp; (try with_reducible rfl)
      simp only [Act.put, List.getElem_toArray, List.getElem_cons_zero, List.getElem_cons_succ, List.setIfInBounds_toArray, List.set_cons_zero, List.set_cons_succ]
      refine wpAnyH_take (i := 1) (v := ?_) rfl (by kernel_rfl) (by kernel_rfl) (by kernel_rfl) (fun _ _ _ h => h) (Or.inl ⟨by rfl, ?_⟩) hHeld ?_
      rotate_left
      · intro W9 hSw; (try dsimp only at hSw); go_simp; (try with_reducible rfl)
      simp only [Act.put, List.getElem_toArray, List.getElem_cons_zero, List.getElem_cons_succ, List.setIfInBounds_toArray, List.set_cons_zero, List.set_cons_succ]
      refine wpAnyH_take (i := 2) (v := ?_) rfl (by kernel_rfl) (by kernel_rfl) (by kernel_rfl) (fun _ _ _ h => h) (Or.inl ⟨by rfl, ?_⟩) hHeld ?_
      rotate_left
      · intro W9 hSw; (try dsimp only at hSw); go_simp; (try with_reducible rfl)
      simp only [Act.put, List.getElem_toArray, List.getElem_cons_zero, List.getElem_cons_succ, List.setIfInBounds_toArray, List.set_cons_zero, List.set_cons_succ]
      refine wpAnyH_take (i := 3) (v := ?_) rfl (by kernel_rfl) (by kernel_rfl) (by kernel_rfl) (fun _ _ _ h => h) (Or.inl ⟨by rfl, ?_⟩) hHeld ?_
      rotate_left
      · intro W9 hSw; (try dsimp only at hSw); go_simp; (try with_reducible rfl)
      simp only [Act.put, List.getElem_toArray, List.getElem_cons_zero, List.getElem_cons_succ, List.setIfInBounds_toArray, List.set_cons_zero, List.set_cons_succ]
      refine wpAnyH_take (i := 4) (v := ?_) rfl (by kernel_rfl) (by kernel_rfl) (by kernel_rfl) (fun _ _ _ h => h) (Or.inl ⟨by rfl, ?_⟩) hHeld ?_
      rotate_left
      · intro W9 hSw; (try dsimp only at hSw); go_simp; (try with_reducible rfl)
      simp only [Act.put, List.getElem_toArray, List.getElem_cons_zero, List.getElem_cons_succ, List.setIfInBounds_toArray, List.set_cons_zero, List.set_cons_succ]
      refine wpAnyH_take (i := 5) (v := ?_) rfl (by kernel_rfl) (by kernel_rfl) (by kernel_rfl) (fun _ _ _ h => h) (Or.inl ⟨by rfl, ?_⟩) hHeld ?_
      rotate_left
      · intro W9 hSw; (try dsimp only at hSw); go_simp; (try with_reducible rfl)
      simp only [Act.put, List.getElem_toArray, List.getElem_cons_zero, List.getElem_cons_succ, List.setIfInBounds_toArray, List.set_cons_zero, List.set_cons_succ]
      refine wpAnyH_take (i := 6) (v := ?_) rfl (by kernel_rfl) (by kernel_rfl) (by kernel_rfl) (fun _ _ _ h => h) (Or.inl ⟨by rfl, ?_⟩) hHeld ?_
      rotate_left
      · intro W9 hSw; (try dsimp only at hSw); go_simp; (try with_reducible rfl)
      simp only [Act.put, List.getElem_toArray, List.getElem_cons_zero, List.getElem_cons_succ, List.setIfInBounds_toArray, List.set_cons_zero, List.set_cons_succ]
      refine wpAnyH_take (i := 7) (v := ?_) rfl (by kernel_rfl) (by kernel_rfl) (by kernel_rfl) (fun _ _ _ h => h) (Or.inl ⟨by rfl, ?_⟩) hHeld ?_
      rotate_left
      · intro W9 hSw; (try dsimp only at hSw); go_simp; (try with_reducible rfl)
      simp only [Act.put, List.getElem_toArray, List.getElem_cons_zero, List.getElem_cons_succ, List.setIfInBounds_toArray, List.set_cons_zero, List.set_cons_succ]
      refine wpAnyH_take (i := 8) (v := ?_) rfl (by kernel_rfl) (by kernel_rfl) (by kernel_rfl) (fun _ _ _ h => h) (Or.inl ⟨by rfl, ?_⟩) hHeld ?_
      rotate_left
      · intro W9 hSw; (try dsimp only at hSw); go_simp; (try with_reducible rfl)
      simp only [Act.put, List.getElem_toArray, List.getElem_cons_zero, List.getElem_cons_succ, List.setIfInBounds_toArray, List.set_cons_zero, List.set_cons_succ]
      refine wpAnyH_take (i := 9) (v := ?_) rfl (by kernel_rfl) (by kernel_rfl) (by kernel_rfl) (fun _ _ _ h => h) (Or.inl ⟨by rfl, ?_⟩) hHeld ?_
      rotate_left
      · intro W9 hSw; (try dsimp only at hSw); go_simp; (try with_reducible rfl)
      simp only [Act.put, List.getElem_toArray, List.getElem_cons_zero, List.getElem_cons_succ, List.setIfInBounds_toArray, List.set_cons_zero, List.set_cons_succ]
      refine wpAnyH_take (i := 10) (v := ?_) rfl (by kernel_rfl) (by kernel_rfl) (by kernel_rfl) (fun _ _ _ h => h) (Or.inl ⟨by rfl, ?_⟩) hHeld ?_
      rotate_left
      · intro W9 hSw; (try dsimp only at hSw); go_simp; (try with_reducible rfl)
      simp only [Act.put, List.getElem_toArray, List.getElem_cons_zero, List.getElem_cons_succ, List.setIfInBounds_toArray, List.set_cons_zero, List.set_cons_succ]
      refine wpAnyH_take (i := 11) (v := ?_) rfl (by kernel_rfl) (by kernel_rfl) (by kernel_rfl) (fun _ _ _ h => h) (Or.inl ⟨by rfl, ?_⟩) hHeld ?_
      rotate_left
      · intro W9 hSw; (try dsimp only at hSw); go_simp; (try with_reducible rfl)
      simp only [Act.put, List.getElem_toArray, List.getElem_cons_zero, List.getElem_cons_succ, List.setIfInBounds_toArray, List.set_cons_zero, List.set_cons_succ]
      refine wpAnyH_take (i := 12) (v := ?_) rfl (by kernel_rfl) (by kernel_rfl) (by kernel_rfl) (fun _ _ _ h => h) (Or.inl ⟨by rfl, ?_⟩) hHeld ?_
      rotate_left
      · intro W9 hSw; (try dsimp only at hSw); go_simp; (try with_reducible rfl)
      simp only [Act.put, List.getElem_toArray, List.getElem_cons_zero, List.getElem_cons_succ, List.setIfInBounds_toArray, List.set_cons_zero, List.set_cons_succ]
      refine wpAnyH_take (i := 13) (v := ?_) rfl (by kernel_rfl) (by kernel_rfl) (by kernel_rfl) (fun _ _ _ h => h) (Or.inl ⟨by rfl, ?_⟩) hHeld ?_
      rotate_left
      · intro W9 hSw; (try dsimp only at hSw); go_simp; (try with_reducible rfl)
      simp only [Act.put, List.getElem_toArray, List.getElem_cons_zero, List.getElem_cons_succ, List.setIfInBounds_toArray, List.set_cons_zero, List.set_cons_succ]
      refine wpAnyH_take (i := 14) (v := ?_) rfl (by kernel_rfl) (by kernel_rfl) (by kernel_rfl) (fun _ _ _ h => h) (Or.inl ⟨by rfl, ?_⟩) hHeld ?_
      rotate_left
      · intro W9 hSw; (try dsimp only at hSw); go_simp; (try with_reducible rfl)
      simp only [Act.put, List.getElem_toArray, List.getElem_cons_zero, List.getElem_cons_succ, List.setIfInBounds_toArray, List.set_cons_zero, List.set_cons_succ]
      refine wpAnyH_take (i := 15) (v := ?_) rfl (by kernel_rfl) (by kernel_rfl) (by kernel_rfl) (fun _ _ _ h => h) (Or.inl ⟨by rfl, ?_⟩) hHeld ?_
      rotate_left
      · intro W9 hSw; (try dsimp only at hSw); go_simp; (try with_reducible rfl)
      simp only [Act.put, List.getElem_toArray, List.getElem_cons_zero, List.getElem_cons_succ, List.setIfInBounds_toArray, List.set_cons_zero, List.set_cons_succ]
      refine wpAnyH_take (i := 16) (v := ?_) rfl (by kernel_rfl) (by kernel_rfl) (by kernel_rfl) (fun _ _ _ h => h) (Or.inl ⟨by rfl, ?_⟩) hHeld ?_
      rotate_left
      · intro W9 hSw; (try dsimp only at hSw); go_simp; (try with_reducible rfl)
      simp only [Act.put, List.getElem_toArray, List.getElem_cons_zero, List.getElem_cons_succ, List.setIfInBounds_toArray, List.set_cons_zero, List.set_cons_succ]
      refine wpAnyH_take (i := 17) (v := ?_) rfl (by kernel_rfl) (by kernel_rfl) (by kernel_rfl) (fun _ _ _ h => h) (Or.inl ⟨by rfl, ?_⟩) hHeld ?_
      rotate_left
      · intro W9 hSw; (try dsimp only at hSw); go_simp; (try with_reducible rfl)
      simp only [Act.put, List.getElem_toArray, List.getElem_cons_zero, List.getElem_cons_succ, List.setIfInBounds_toArray, List.set_cons_zero, List.set_cons_succ]
      refine wpAnyH_ready (rs := [18]) (by kernel_rfl) (by simp) ?_
      refine AllReadyH.cons rfl (fun K hK => ?_) AllReadyH.nil
      go_simp
      go_at_call 37
      refine (hsec.out _ acc5 ps1 (n + 1) hX6.out).mono ?_
      rintro e w7 ⟨rfl, hX7⟩
      replace hX7 := Lib.hid hX7
      refine hK.out _ _ (hS6.out _ _ _ _ hX7.out) (fun hHeld2 => ?_)
      clear hK K hHeld
      have hHeld := hHeld2
      clear hHeld2
      refine wpAnyH_take (i := 19) (v := ?_) rfl (by kernel_rfl) (by kernel_rfl) (by kernel_rfl) (fun _ _ _ h => h) (Or.inl ⟨by rfl, ?_⟩) hHeld ?_
      rotate_left
      · intro W9 hSw; (try dsimp only at hSw); go_simp; (try with_reducible rfl)
      simp only [Act.put, List.getElem_toArray, List.getElem_cons_zero, List.getElem_cons_succ, List.setIfInBounds_toArray, List.set_cons_zero, List.set_cons_succ]
      refine wpAnyH_take (i := 20) (v := ?_) rfl (by kernel_rfl) (by kernel_rfl) (by kernel_rfl) (fun _ _ _ h => h) (Or.inl ⟨by rfl, ?_⟩) hHeld ?_
      rotate_left
      · intro W9 hSw; (try dsimp only at hSw); go_simp; (try with_reducible rfl)
      simp only [Act.put, List.getElem_toArray, List.getElem_cons_zero, List.getElem_cons_succ, List.setIfInBounds_toArray, List.set_cons_zero, List.set_cons_succ]
      refine wpAnyH_ready (rs := [21]) (by kernel_rfl) (by simp) ?_
      refine AllReadyH.cons rfl (fun K hK => ?_) AllReadyH.nil
      go_simp
      go_at_call 35
      refine (hadd.out _ acc5 ps1 (n + 1) 6 (first / f == rk2 q sv) hX7.out (by omega)).mono ?_
      rintro e w8 ⟨rfl, hX8⟩
      rw [hs.out, ha6.out] at hX8
      replace hX8 := Lib.hid hX8
      refine hK.out _ _ (hS6.out _ _ _ _ hX8.out) (fun hHeld2 => ?_)
      clear hK K hHeld
      have hHeld := hHeld2
      clear hHeld2
      refine wpAnyH_done (by kernel_rfl) ?_ _
      go_wp2_with fail
      refine bodyPost_end (results_none rfl _ _ _) rfl ?_
      have h9 := hendq.out _ hX8.out
      rw [hsn.out] at h9
      exact ⟨rfl, h9⟩
    · skip
      have hd2 : decide ((2 : Int) ≤ (n1 : Int)) = false := decide_eq_false (by omega)
      have hs : Hid (s6 f q bk (p, ma, mb, mc) l = false) := by show _ = _; rw [hs6.out, decide_eq_false h2]; simp
      refine wp_region_held_drew (S := (fun W' => W'.cell? ⟨W.heap.size + 1, 3, none⟩ = some (.int .i8 mc) ∧ W'.cell? ⟨bP, 0, none⟩ = some (.int .i64 first) ∧ W'.cell? ⟨m0, 0, none⟩ = some (.int .i64 f) ∧ W'.cell? ⟨m0, 1, none⟩ = some (.int .i64 q))) (by kernel_rfl) (hS6.out _ _ _ _ hX6.out) (fun hHeld => ?_)
      refine wpAnyH_take (i := 0) (v := ?_) rfl (by kernel_rfl) (by kernel_rfl) (by kernel_rfl) (fun _ _ _ h => h) (Or.inl ⟨by rfl, ?_⟩) hHeld ?_
      rotate_left
      · intro W9 hSw; (try dsimp only at hSw); go_simp; (try with_reducible rfl)
      simp only [Act.put, List.getElem_toArray, List.getElem_cons_zero, List.getElem_cons_succ, List.setIfInBounds_toArray, List.set_cons_zero, List.set_cons_succ]
      refine wpAnyH_take (i := 1) (v := ?_) rfl (by kernel_rfl) (by kernel_rfl) (by kernel_rfl) (fun _ _ _ h => h) (Or.inl ⟨by rfl, ?_⟩) hHeld ?_
      rotate_left
      · intro W9 hSw; (try dsimp only at hSw); go_simp; (try with_reducible rfl)
      simp only [Act.put, List.getElem_toArray, List.getElem_cons_zero, List.getElem_cons_succ, List.setIfInBounds_toArray, List.set_cons_zero, List.set_cons_succ]
      refine wpAnyH_take (i := 2) (v := ?_) rfl (by kernel_rfl) (by kernel_rfl) (by kernel_rfl) (fun _ _ _ h => h) (Or.inl ⟨by rfl, ?_⟩) hHeld ?_
      rotate_left
      · intro W9 hSw; (try dsimp only at hSw); go_simp; (try with_reducible rfl)
      simp only [Act.put, List.getElem_toArray, List.getElem_cons_zero, List.getElem_cons_succ, List.setIfInBounds_toArray, List.set_cons_zero, List.set_cons_succ]
      refine wpAnyH_take (i := 3) (v := ?_) rfl (by kernel_rfl) (by kernel_rfl) (by kernel_rfl) (fun _ _ _ h => h) (Or.inl ⟨by rfl, ?_⟩) hHeld ?_
      rotate_left
      · intro W9 hSw; (try dsimp only at hSw); go_simp; (try with_reducible rfl)
      simp only [Act.put, List.getElem_toArray, List.getElem_cons_zero, List.getElem_cons_succ, List.setIfInBounds_toArray, List.set_cons_zero, List.set_cons_succ]
      refine wpAnyH_take (i := 4) (v := ?_) rfl (by kernel_rfl) (by kernel_rfl) (by kernel_rfl) (fun _ _ _ h => h) (Or.inl ⟨by rfl, ?_⟩) hHeld ?_
      rotate_left
      · intro W9 hSw; (try dsimp only at hSw); go_simp; (try with_reducible rfl)
      simp only [Act.put, List.getElem_toArray, List.getElem_cons_zero, List.getElem_cons_succ, List.setIfInBounds_toArray, List.set_cons_zero, List.set_cons_succ]
      refine wpAnyH_take (i := 5) (v := ?_) rfl (by kernel_rfl) (by kernel_rfl) (by kernel_rfl) (fun _ _ _ h => h) (Or.inl ⟨by rfl, ?_⟩) hHeld ?_
      rotate_left
      · intro W9 hSw; (try dsimp only at hSw); go_simp; (try with_reducible rfl)
      simp only [Act.put, List.getElem_toArray, List.getElem_cons_zero, List.getElem_cons_succ, List.setIfInBounds_toArray, List.set_cons_zero, List.set_cons_succ]
      refine wpAnyH_take (i := 6) (v := ?_) rfl (by kernel_rfl) (by kernel_rfl) (by kernel_rfl) (fun _ _ _ h => h) (Or.inl ⟨by rfl, ?_⟩) hHeld ?_
      rotate_left
      · intro W9 hSw; (try dsimp only at hSw); go_simp; (try with_reducible rfl)
      simp only [Act.put, List.getElem_toArray, List.getElem_cons_zero, List.getElem_cons_succ, List.setIfInBounds_toArray, List.set_cons_zero, List.set_cons_succ]
      refine wpAnyH_take (i := 7) (v := ?_) rfl (by kernel_rfl) (by kernel_rfl) (by kernel_rfl) (fun _ _ _ h => h) (Or.inl ⟨by rfl, ?_⟩) hHeld ?_
      rotate_left
      · intro W9 hSw; (try dsimp only at hSw); go_simp; (try with_reducible rfl)
      simp only [Act.put, List.getElem_toArray, List.getElem_cons_zero, List.getElem_cons_succ, List.setIfInBounds_toArray, List.set_cons_zero, List.set_cons_succ]
      refine wpAnyH_take (i := 8) (v := ?_) rfl (by kernel_rfl) (by kernel_rfl) (by kernel_rfl) (fun _ _ _ h => h) (Or.inl ⟨by rfl, ?_⟩) hHeld ?_
      rotate_left
      · intro W9 hSw; (try dsimp only at hSw); go_simp; (try with_reducible rfl)
      simp only [Act.put, List.getElem_toArray, List.getElem_cons_zero, List.getElem_cons_succ, List.setIfInBounds_toArray, List.set_cons_zero, List.set_cons_succ]
      refine wpAnyH_take (i := 9) (v := ?_) rfl (by kernel_rfl) (by kernel_rfl) (by kernel_rfl) (fun _ _ _ h => h) (Or.inl ⟨by rfl, ?_⟩) hHeld ?_
      rotate_left
      · intro W9 hSw; (try dsimp only at hSw); go_simp; (try with_reducible rfl)
      simp only [Act.put, List.getElem_toArray, List.getElem_cons_zero, List.getElem_cons_succ, List.setIfInBounds_toArray, List.set_cons_zero, List.set_cons_succ]
      refine wpAnyH_take (i := 10) (v := undef) rfl (by kernel_rfl) (by kernel_rfl) (by kernel_rfl) (fun _ _ _ h => h) (Or.inr ⟨by rfl, rfl⟩) hHeld ?_
      simp only [Act.put, List.getElem_toArray, List.getElem_cons_zero, List.getElem_cons_succ, List.setIfInBounds_toArray, List.set_cons_zero, List.set_cons_succ]
      refine wpAnyH_take (i := 11) (v := undef) rfl (by kernel_rfl) (by kernel_rfl) (by kernel_rfl) (fun _ _ _ h => h) (Or.inr ⟨by rfl, rfl⟩) hHeld ?_
      simp only [Act.put, List.getElem_toArray, List.getElem_cons_zero, List.getElem_cons_succ, List.setIfInBounds_toArray, List.set_cons_zero, List.set_cons_succ]
      refine wpAnyH_take (i := 12) (v := undef) rfl (by kernel_rfl) (by kernel_rfl) (by kernel_rfl) (fun _ _ _ h => h) (Or.inr ⟨by rfl, rfl⟩) hHeld ?_
      simp only [Act.put, List.getElem_toArray, List.getElem_cons_zero, List.getElem_cons_succ, List.setIfInBounds_toArray, List.set_cons_zero, List.set_cons_succ]
      refine wpAnyH_take (i := 13) (v := undef) rfl (by kernel_rfl) (by kernel_rfl) (by kernel_rfl) (fun _ _ _ h => h) (Or.inr ⟨by rfl, rfl⟩) hHeld ?_
      simp only [Act.put, List.getElem_toArray, List.getElem_cons_zero, List.getElem_cons_succ, List.setIfInBounds_toArray, List.set_cons_zero, List.set_cons_succ]
      refine wpAnyH_take (i := 14) (v := undef) rfl (by kernel_rfl) (by kernel_rfl) (by kernel_rfl) (fun _ _ _ h => h) (Or.inr ⟨by rfl, rfl⟩) hHeld ?_
      simp only [Act.put, List.getElem_toArray, List.getElem_cons_zero, List.getElem_cons_succ, List.setIfInBounds_toArray, List.set_cons_zero, List.set_cons_succ]
      refine wpAnyH_take (i := 15) (v := undef) rfl (by kernel_rfl) (by kernel_rfl) (by kernel_rfl) (fun _ _ _ h => h) (Or.inr ⟨by rfl, rfl⟩) hHeld ?_
      simp only [Act.put, List.getElem_toArray, List.getElem_cons_zero, List.getElem_cons_succ, List.setIfInBounds_toArray, List.set_cons_zero, List.set_cons_succ]
      refine wpAnyH_take (i := 16) (v := undef) rfl (by kernel_rfl) (by kernel_rfl) (by kernel_rfl) (fun _ _ _ h => h) (Or.inr ⟨by rfl, rfl⟩) hHeld ?_
      simp only [Act.put, List.getElem_toArray, List.getElem_cons_zero, List.getElem_cons_succ, List.setIfInBounds_toArray, List.set_cons_zero, List.set_cons_succ]
      refine wpAnyH_take (i := 17) (v := undef) rfl (by kernel_rfl) (by kernel_rfl) (by kernel_rfl) (fun _ _ _ h => h) (Or.inr ⟨by rfl, rfl⟩) hHeld ?_
      simp only [Act.put, List.getElem_toArray, List.getElem_cons_zero, List.getElem_cons_succ, List.setIfInBounds_toArray, List.set_cons_zero, List.set_cons_succ]
      refine wpAnyH_take (i := 18) (v := undef) rfl (by kernel_rfl) (by kernel_rfl) (by kernel_rfl) (fun _ _ _ h => h) (Or.inr ⟨by rfl, rfl⟩) hHeld ?_
      simp only [Act.put, List.getElem_toArray, List.getElem_cons_zero, List.getElem_cons_succ, List.setIfInBounds_toArray, List.set_cons_zero, List.set_cons_succ]
      refine wpAnyH_take (i := 19) (v := undef) rfl (by kernel_rfl) (by kernel_rfl) (by kernel_rfl) (fun _ _ _ h => h) (Or.inr ⟨by rfl, rfl⟩) hHeld ?_
      simp only [Act.put, List.getElem_toArray, List.getElem_cons_zero, List.getElem_cons_succ, List.setIfInBounds_toArray, List.set_cons_zero, List.set_cons_succ]
      refine wpAnyH_take (i := 20) (v := ?_) rfl (by kernel_rfl) (by kernel_rfl) (by kernel_rfl) (fun _ _ _ h => h) (Or.inl ⟨by rfl, ?_⟩) hHeld ?_
      rotate_left
      · intro W9 hSw; (try dsimp only at hSw); go_simp; (try with_reducible rfl)
      simp only [Act.put, List.getElem_toArray, List.getElem_cons_zero, List.getElem_cons_succ, List.setIfInBounds_toArray, List.set_cons_zero, List.set_cons_succ]
      refine wpAnyH_ready (rs := [21]) (by kernel_rfl) (by simp) ?_
      refine AllReadyH.cons rfl (fun K hK => ?_) AllReadyH.nil
      go_simp
      go_at_call 35
      refine (hadd.out _ acc5 ps1 (n + 1) 6 false hX6.out (by omega)).mono ?_
      rintro e w7 ⟨rfl, hX7⟩
      rw [← hs.out, ha6.out] at hX7
      replace hX7 := Lib.hid hX7
      refine hK.out _ _ (hS6.out _ _ _ _ hX7.out) (fun hHeld2 => ?_)
      clear hK K hHeld
      have hHeld := hHeld2
      clear hHeld2
      refine wpAnyH_done (by kernel_rfl) ?_ _
      go_wp2_with fail
      refine bodyPost_end (results_none rfl _ _ _) rfl ?_
      have h9 := hendq.out _ hX7.out
      rw [hsn.out] at h9
      exact ⟨rfl, h9⟩
end Go.Proofs.Yteaclphankckiaa
