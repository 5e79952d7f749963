/- Layer 7: the move with a text, the reference's. -/
import Derived.Test.YtlnphcdanadaeaaDoorMf
namespace Go.Proofs.YtlnphcdanadaeaaDoor
open Go.RowKit
set_option linter.unusedSimpArgs false
set_option linter.unusedVariables false

/-- the square with a name, of the reference; -1: there is none -/
def rpV (f r : Int) (t : ByteArray) : Int := match (List.range 64).find? (fun k : Nat => sqB f r (k : Int) && ((nm ((k : Int) % f) ((k : Int) / f)).data.toList == t.data.toList)) with
  | some k => (k : Int)
  | none => -1
theorem ba_eq {a b : ByteArray} (h : a.data.toList = b.data.toList) : a = b := by
  obtain ⟨⟨a⟩⟩ := a
  obtain ⟨⟨b⟩⟩ := b
  simp only at h
  rw [h]
theorem rpV_yes {f r n : Int} {t : ByteArray} (h : sqB f r n = true) (hn : nm (n % f) (n / f) = t) : rpV f r t = n := by
  obtain ⟨hs, n0, n1⟩ := sqB_out h
  obtain ⟨f0, f1, r0, r1⟩ := szB_out hs
  have hm := (mul_bd f0 f1 r0 r1).2
  unfold rpV
  split
  · rename_i k hk
    have hp := List.find?_some hk
    simp only [Bool.and_eq_true, beq_iff_eq] at hp
    exact nm_sq hp.1 h ((ba_eq hp.2).trans hn.symm)
  · rename_i hk
    rw [List.find?_eq_none] at hk
    have := hk n.toNat (List.mem_range.2 (by omega))
    rw [show ((n.toNat : Nat) : Int) = n by omega] at this
    rw [h, hn] at this
    simp at this
theorem rpV_no {f r : Int} {t : ByteArray} (h : ∀ n : Int, sqB f r n = true → nm (n % f) (n / f) ≠ t) : rpV f r t = -1 := by
  unfold rpV
  split
  · rename_i k hk
    have hp := List.find?_some hk
    simp only [Bool.and_eq_true, beq_iff_eq] at hp
    exact absurd (ba_eq hp.2) (h _ hp.1)
  · rfl
theorem rsp (f r : Int) (t : ByteArray) (w : World) (hs : szB f r = true) : Calls Tryd.prog 31 #[.agg #[.int .i64 f, .int .i64 r], .string t] w fun e w' => e = .returned (.int .i64 (rpV f r t)) ∧ Below w.heap.size w w' := by
  by_cases h : ∃ n : Int, sqB f r n = true ∧ nm (n % f) (n / f) = t
  · obtain ⟨n, hn, ht⟩ := h
    rw [rpV_yes hn ht]
    exact rparse_yes f r n t w hn ht
  · have h' : ∀ n : Int, sqB f r n = true → nm (n % f) (n / f) ≠ t := fun n hn ht => h ⟨n, hn, ht⟩
    rw [rpV_no h']
    exact rparse_no f r t w hs h'
def rres (ok : Bool) (a b p : Int) : Value := if ok then .tuple #[.agg #[.int .i64 a, .int .i64 b, .int .i8 p], .bool true] else .tuple #[.agg #[.int .i64 0, .int .i64 0, .int .i8 0], .bool false]
/-- the promotion with a letter among the first ones, of the reference -/
def Ln (n : Nat) : UInt8 := [78, 66, 82, 81].getD n 0
def pk (c : UInt8) : Nat → Int
  | 0 => 0
  | n + 1 => if c = Ln n then (n : Int) + 2 else pk c n
def plV (c : UInt8) : Int := pk c 4
def pkI (c : UInt8) (q : Int) : Int := pk c (q.toNat - 2)
theorem ln_eq (n : Nat) (h : n < 4) (c : UInt8) : (((⟨#[78, 66, 82, 81]⟩ : ByteArray).extract n (n + 1)).toList == [c]) = decide (c = Ln n) := by
  have e : ((⟨#[78, 66, 82, 81]⟩ : ByteArray).extract n (n + 1)).toList = [Ln n] := by
    rw [ByteArray.toList_eq]
    match n, h with
    | 0, _ => rfl
    | 1, _ => rfl
    | 2, _ => rfl
    | 3, _ => rfl
  rw [e, Bool.eq_iff_iff]
  simp only [beq_iff_eq, List.cons.injEq, and_true, decide_eq_true_eq]
  exact eq_comm
theorem s_two {w W W' : World} {f r : Int} (c0 : W.cell? ⟨w.heap.size, 0, none⟩ = some (.int .i64 f)) (c1 : W.cell? ⟨w.heap.size, 1, none⟩ = some (.int .i64 r)) (h : Below (w.heap.size + 1 + 1) W W') :
    W'.cell? ⟨w.heap.size, 0, none⟩ = some (.int .i64 f) ∧ W'.cell? ⟨w.heap.size, 1, none⟩ = some (.int .i64 r) :=
  ⟨(h.cell (p := ⟨w.heap.size, 0, none⟩) (by show w.heap.size < _; omega)).trans c0, (h.cell (p := ⟨w.heap.size, 1, none⟩) (by show w.heap.size < _; omega)).trans c1⟩
theorem rmp_len (f r : Int) (s : ByteArray) (w : World) (h : s.size < 4 ∨ (4 ≤ s.size ∧ 5 < s.size)) (hm : s.size ≤ maxLen) : Calls Tryd.prog 15 #[.agg #[.int .i64 f, .int .i64 r], .string s] w fun e w' => e = .returned (.tuple #[.agg #[.int .i64 0, .int .i64 0, .int .i8 0], .bool false]) ∧ Below w.heap.size w w' := by
  unfold maxLen at hm
  have hK := Lib.hid (PR.first f r w 23 27)
  have m0 := hK.out.mb.m0
  have m1 := hK.out.mb.m1
  have m2 := hK.out.mb.m2
  have f0 := hK.out.fr 0
  have f1 := hK.out.fr 1
  have f2 := hK.out.fr 2
  have hS := Lib.hid (set3 m0 m1 m2 (.int .i64 0) (.int .i64 0) (.int .i8 0))
  rcases h with h | h
  all_goals
    go_enter Tryd.func15, Tryd.ntmps15
    go_wp2_with fail
    obtain ⟨s0, s1, s2⟩ := hS.out
    exact bodyPost_ret (v := .tuple #[.agg #[.int .i64 0, .int .i64 0, .int .i8 0], .bool false]) (by simp [results, Tryd.results15, go_sem, s0, s1, s2]) rfl ⟨rfl, by first | exact hK.out.mb.below | exact below_set3 hK.out.mb.below (by omega) _ _ _⟩
set_option maxRecDepth 100000 in
set_option maxHeartbeats 1000000 in
theorem rmp4 (f r a b : Int) (s t1 t2 : ByteArray) (w : World) (hs : szB f r = true) (hsz : s.size = 4) (hx1 : s.extract 0 2 = t1) (hx2 : s.extract 2 4 = t2) (ha : rpV f r t1 = a) (hb : rpV f r t2 = b) :
    Calls Tryd.prog 15 #[.agg #[.int .i64 f, .int .i64 r], .string s] w fun e w' => e = .returned (rres (mvB f r a b 0) a b 0) ∧ Below w.heap.size w w' := by
  have hK := Lib.hid (PR.first f r w 23 27)
  have c0 := hK.out.mb.c0
  have c1 := hK.out.mb.c1
  have m0 := hK.out.mb.m0
  have m1 := hK.out.mb.m1
  have m2 := hK.out.mb.m2
  have f0 := hK.out.fr 0
  have f1 := hK.out.fr 1
  have f2 := hK.out.fr 2
  have hsH := Lib.hid hs
  clear hs
  go_enter Tryd.func15, Tryd.ntmps15
  go_upto_region 3 with fail
  clear m0 m1 m2 f0 f1 f2
  generalize (w.alloc (.cells #[.int .i64 f, .int .i64 r] 23)).alloc (.cells #[.int .i64 0, .int .i64 0, .int .i8 0] 27) = W at *
  go_cut [6] from 100 (fun s6 wc => ∃ Bm : Nat, s6 = .pointer (some ⟨Bm, 0, none⟩) ∧ Hid (PM f r a b 0 Bm w wc))
  case first =>
    have hW2 : w.heap.size + 1 < W.heap.size := hK.out.mb.lt
    go_region_held3 (fun w' => w'.cell? ⟨w.heap.size, 0, none⟩ = some (.int .i64 f) ∧ w'.cell? ⟨w.heap.size, 1, none⟩ = some (.int .i64 r)) (exact s_two c0 c1 (by (repeat (first | exact Below.refl _ _ | exact hX2.out | exact hX1.out | refine Below.drew ?_ | refine Below.alloc ?_ (by first | omega | (simp only [World.size_setCell, World.size_alloc, World.size_drew]; omega)) _ | refine Below.setCell ?_ (by first | omega | (dsimp only; omega)) _))))
      (first
      | (go_at_call 31; refine (rsp _ _ _ _ hsH.out).mono ?_; rintro e w1 ⟨rfl, hb1⟩; rw [ha]; have hs1 := hb1.size; (try simp only [World.size_alloc, World.size_drew] at hs1); have hX1 : Hid (Below (w.heap.size + 1 + 1) W w1) := Below.trans (by (repeat (first | exact Below.refl _ _ | exact hX2.out | exact hX1.out | refine Below.drew ?_ | refine Below.alloc ?_ (by first | omega | (simp only [World.size_setCell, World.size_alloc, World.size_drew]; omega)) _ | refine Below.setCell ?_ (by first | omega | (dsimp only; omega)) _))) (hb1.mono (by first | omega | (simp only [World.size_setCell, World.size_alloc, World.size_drew]; omega))); (first | (have hq1 := Lib.hid ((tri_new W.drew W.heap.size _ _ _ _ rfl).next hb1); have k0 := hq1.out.c0; have k1 := hq1.out.c1; have k2 := hq1.out.c2; have g0 := hq1.out.fr 0; have g1 := hq1.out.fr 1; have g2 := hq1.out.fr 2) | skip); clear hb1)
      | (go_at_call 31; refine (rsp _ _ _ _ hsH.out).mono ?_; rintro e w2 ⟨rfl, hb2⟩; rw [hb]; have hs2 := hb2.size; (try simp only [World.size_alloc, World.size_drew] at hs2); have hX2 : Hid (Below (w.heap.size + 1 + 1) W w2) := Below.trans (by (repeat (first | exact Below.refl _ _ | exact hX2.out | exact hX1.out | refine Below.drew ?_ | refine Below.alloc ?_ (by first | omega | (simp only [World.size_setCell, World.size_alloc, World.size_drew]; omega)) _ | refine Below.setCell ?_ (by first | omega | (dsimp only; omega)) _))) (hb2.mono (by first | omega | (simp only [World.size_setCell, World.size_alloc, World.size_drew]; omega))); (first | (have hq2 := Lib.hid (hq1.out.next hb2); replace k0 := hq2.out.c0; replace k1 := hq2.out.c1; replace k2 := hq2.out.c2; replace g0 := hq2.out.fr 0; replace g1 := hq2.out.fr 1; replace g2 := hq2.out.fr 2) | (have hq2 := Lib.hid ((tri_new w1 w1.heap.size _ _ _ _ rfl).next hb2); have k0 := hq2.out.c0; have k1 := hq2.out.c1; have k2 := hq2.out.c2; have g0 := hq2.out.fr 0; have g1 := hq2.out.fr 1; have g2 := hq2.out.fr 2) | skip); clear hb2))
    all_goals
      go_wp2_with fail
      go_meet
      refine ⟨_, rfl, PM.of (hK.out.keep (by (repeat (first | exact Below.refl _ _ | exact hX2.out | exact hX1.out | refine Below.drew ?_ | refine Below.alloc ?_ (by first | omega | (simp only [World.size_setCell, World.size_alloc, World.size_drew]; omega)) _ | refine Below.setCell ?_ (by first | omega | (dsimp only; omega)) _)))) ?_ ?_⟩
      · (repeat (first | exact tri_new _ _ _ _ _ _ (by first | rfl | omega | (simp only [World.size_setCell, World.size_alloc, World.size_drew]; done)) | exact hq2.out | exact hq1.out | exact Tri.set hq2.out _ _ _ | exact Tri.set hq1.out _ _ _ | refine Tri.alloc ?_ _ | refine Tri.drew ?_))
      · first | omega | (simp only [World.size_setCell, World.size_alloc, World.size_drew]; omega)
  case rest =>
    clear hK c0 c1
    obtain ⟨Bm, rfl, hM⟩ := hcut
    have c0 := hM.out.pr.mb.c0
    have c1 := hM.out.pr.mb.c1
    have k0 := hM.out.k0
    have k1 := hM.out.k1
    have k2 := hM.out.k2
    have m0 := hM.out.pr.mb.m0
    have m1 := hM.out.pr.mb.m1
    have m2 := hM.out.pr.mb.m2
    have f0 := hM.out.pr.fr 0
    have f1 := hM.out.pr.fr 1
    have f2 := hM.out.pr.fr 2
    rcases hv : mvB f r a b 0 with _ | _
    · go_wp2_with (go_at_call 10; refine (rmvalid _ _ _ _ _ _).mono ?_; rintro e w5 ⟨rfl, hbw⟩; rw [hv]; replace hM := Lib.hid (hM.out.next hbw); replace c0 := hM.out.pr.mb.c0; replace c1 := hM.out.pr.mb.c1; replace k0 := hM.out.k0; replace k1 := hM.out.k1; replace k2 := hM.out.k2; replace m0 := hM.out.pr.mb.m0; replace m1 := hM.out.pr.mb.m1; replace m2 := hM.out.pr.mb.m2; replace f0 := hM.out.pr.fr 0; replace f1 := hM.out.pr.fr 1; replace f2 := hM.out.pr.fr 2; clear hbw)
      obtain ⟨s0, s1, s2⟩ := set3 m0 m1 m2 (.int .i64 0) (.int .i64 0) (.int .i8 0)
      exact bodyPost_ret (v := .tuple #[.agg #[.int .i64 0, .int .i64 0, .int .i8 0], .bool false]) (by simp [results, Tryd.results15, go_sem, s0, s1, s2]) rfl ⟨by rw [hv]; rfl, below_set3 hM.out.pr.mb.below (by omega) _ _ _⟩
    · go_wp2_with (go_at_call 10; refine (rmvalid _ _ _ _ _ _).mono ?_; rintro e w5 ⟨rfl, hbw⟩; rw [hv]; replace hM := Lib.hid (hM.out.next hbw); replace c0 := hM.out.pr.mb.c0; replace c1 := hM.out.pr.mb.c1; replace k0 := hM.out.k0; replace k1 := hM.out.k1; replace k2 := hM.out.k2; replace m0 := hM.out.pr.mb.m0; replace m1 := hM.out.pr.mb.m1; replace m2 := hM.out.pr.mb.m2; replace f0 := hM.out.pr.fr 0; replace f1 := hM.out.pr.fr 1; replace f2 := hM.out.pr.fr 2; clear hbw)
      obtain ⟨s0, s1, s2⟩ := set3 m0 m1 m2 (.int .i64 a) (.int .i64 b) (.int .i8 0)
      exact bodyPost_ret (v := .tuple #[.agg #[.int .i64 a, .int .i64 b, .int .i8 0], .bool true]) (by simp [results, Tryd.results15, go_sem, s0, s1, s2]) rfl ⟨by rw [hv]; rfl, below_set3 hM.out.pr.mb.below (by omega) _ _ _⟩
set_option maxRecDepth 100000 in
set_option maxHeartbeats 1000000 in
theorem rmp5 (f r a b : Int) (s t1 t2 : ByteArray) (w : World) (hs : szB f r = true) (hsz : s.size = 5) (hx1 : s.extract 0 2 = t1) (hx2 : s.extract 2 4 = t2) (ha : rpV f r t1 = a) (hb : rpV f r t2 = b) (c : UInt8) (hx3 : s.extract 4 5 = ⟨#[c]⟩) :
    Calls Tryd.prog 15 #[.agg #[.int .i64 f, .int .i64 r], .string s] w fun e w' => e = .returned (rres (decide (plV c ≠ 0) && mvB f r a b (plV c)) a b (plV c)) ∧ Below w.heap.size w w' := by
  obtain ⟨R, hR⟩ : ∃ R, rres (decide (plV c ≠ 0) && mvB f r a b (plV c)) a b (plV c) = R := ⟨_, rfl⟩
  rw [hR]
  replace hR := Lib.hid hR
  have hK := Lib.hid (PR.first f r w 23 27)
  have c0 := hK.out.mb.c0
  have c1 := hK.out.mb.c1
  have m0 := hK.out.mb.m0
  have m1 := hK.out.mb.m1
  have m2 := hK.out.mb.m2
  have f0 := hK.out.fr 0
  have f1 := hK.out.fr 1
  have f2 := hK.out.fr 2
  have hsH := Lib.hid hs
  clear hs
  go_enter Tryd.func15, Tryd.ntmps15
  go_upto_region 3 with fail
  clear m0 m1 m2 f0 f1 f2
  generalize (w.alloc (.cells #[.int .i64 f, .int .i64 r] 23)).alloc (.cells #[.int .i64 0, .int .i64 0, .int .i8 0] 27) = W at *
  go_cut [6] from 100 (fun s6 wc => ∃ Bm : Nat, s6 = .pointer (some ⟨Bm, 0, none⟩) ∧ Hid (PM f r a b 0 Bm w wc))
  case first =>
    have hW2 : w.heap.size + 1 < W.heap.size := hK.out.mb.lt
    go_region_held3 (fun w' => w'.cell? ⟨w.heap.size, 0, none⟩ = some (.int .i64 f) ∧ w'.cell? ⟨w.heap.size, 1, none⟩ = some (.int .i64 r)) (exact s_two c0 c1 (by (repeat (first | exact Below.refl _ _ | exact hX2.out | exact hX1.out | refine Below.drew ?_ | refine Below.alloc ?_ (by first | omega | (simp only [World.size_setCell, World.size_alloc, World.size_drew]; omega)) _ | refine Below.setCell ?_ (by first | omega | (dsimp only; omega)) _))))
      (first
      | (go_at_call 31; refine (rsp _ _ _ _ hsH.out).mono ?_; rintro e w1 ⟨rfl, hb1⟩; rw [ha]; have hs1 := hb1.size; (try simp only [World.size_alloc, World.size_drew] at hs1); have hX1 : Hid (Below (w.heap.size + 1 + 1) W w1) := Below.trans (by (repeat (first | exact Below.refl _ _ | exact hX2.out | exact hX1.out | refine Below.drew ?_ | refine Below.alloc ?_ (by first | omega | (simp only [World.size_setCell, World.size_alloc, World.size_drew]; omega)) _ | refine Below.setCell ?_ (by first | omega | (dsimp only; omega)) _))) (hb1.mono (by first | omega | (simp only [World.size_setCell, World.size_alloc, World.size_drew]; omega))); (first | (have hq1 := Lib.hid ((tri_new W.drew W.heap.size _ _ _ _ rfl).next hb1); have k0 := hq1.out.c0; have k1 := hq1.out.c1; have k2 := hq1.out.c2; have g0 := hq1.out.fr 0; have g1 := hq1.out.fr 1; have g2 := hq1.out.fr 2) | skip); clear hb1)
      | (go_at_call 31; refine (rsp _ _ _ _ hsH.out).mono ?_; rintro e w2 ⟨rfl, hb2⟩; rw [hb]; have hs2 := hb2.size; (try simp only [World.size_alloc, World.size_drew] at hs2); have hX2 : Hid (Below (w.heap.size + 1 + 1) W w2) := Below.trans (by (repeat (first | exact Below.refl _ _ | exact hX2.out | exact hX1.out | refine Below.drew ?_ | refine Below.alloc ?_ (by first | omega | (simp only [World.size_setCell, World.size_alloc, World.size_drew]; omega)) _ | refine Below.setCell ?_ (by first | omega | (dsimp only; omega)) _))) (hb2.mono (by first | omega | (simp only [World.size_setCell, World.size_alloc, World.size_drew]; omega))); (first | (have hq2 := Lib.hid (hq1.out.next hb2); replace k0 := hq2.out.c0; replace k1 := hq2.out.c1; replace k2 := hq2.out.c2; replace g0 := hq2.out.fr 0; replace g1 := hq2.out.fr 1; replace g2 := hq2.out.fr 2) | (have hq2 := Lib.hid ((tri_new w1 w1.heap.size _ _ _ _ rfl).next hb2); have k0 := hq2.out.c0; have k1 := hq2.out.c1; have k2 := hq2.out.c2; have g0 := hq2.out.fr 0; have g1 := hq2.out.fr 1; have g2 := hq2.out.fr 2) | skip); clear hb2))
    all_goals
      go_wp2_with fail
      go_meet
      refine ⟨_, rfl, PM.of (hK.out.keep (by (repeat (first | exact Below.refl _ _ | exact hX2.out | exact hX1.out | refine Below.drew ?_ | refine Below.alloc ?_ (by first | omega | (simp only [World.size_setCell, World.size_alloc, World.size_drew]; omega)) _ | refine Below.setCell ?_ (by first | omega | (dsimp only; omega)) _)))) ?_ ?_⟩
      · (repeat (first | exact tri_new _ _ _ _ _ _ (by first | rfl | omega | (simp only [World.size_setCell, World.size_alloc, World.size_drew]; done)) | exact hq2.out | exact hq1.out | exact Tri.set hq2.out _ _ _ | exact Tri.set hq1.out _ _ _ | refine Tri.alloc ?_ _ | refine Tri.drew ?_))
      · first | omega | (simp only [World.size_setCell, World.size_alloc, World.size_drew]; omega)
  case rest =>
    clear hK c0 c1
    obtain ⟨Bm, rfl, hM⟩ := hcut
    have c0 := hM.out.pr.mb.c0
    have c1 := hM.out.pr.mb.c1
    have k0 := hM.out.k0
    have k1 := hM.out.k1
    have k2 := hM.out.k2
    have m0 := hM.out.pr.mb.m0
    have m1 := hM.out.pr.mb.m1
    have m2 := hM.out.pr.mb.m2
    have f0 := hM.out.pr.fr 0
    have f1 := hM.out.pr.fr 1
    have f2 := hM.out.pr.fr 2
    clear c0 c1 k0 k1 k2 m0 m1 m2 f0 f1 f2
    go_wp2_with fail
    go_loopw [7] (fun p7 wr => ∃ q : Int, 2 ≤ q ∧ q ≤ 6 ∧ p7 = .int .i8 q ∧ Hid (PM f r a b (pkI c q) Bm w wr)) (fun i _ => (6 - intOf i).toNat)
    case atStart => exact ⟨2, by omega, by omega, rfl, hM⟩
    case round =>
      clear hM
      obtain ⟨q, hq0, hq1, rfl, hM⟩ := hrel
      by_cases hlt : q < 6
      · obtain ⟨n, hn, rfl⟩ : ∃ n : Nat, n < 4 ∧ q = (n : Int) + 2 := ⟨q.toNat - 2, by omega, by omega⟩
        have hnext : Hid (pkI c ((n : Int) + 2 + 1) = if c = Ln n then (n : Int) + 2 else pkI c ((n : Int) + 2)) := by
          show _ = _
          unfold pkI
          rw [show ((n : Int) + 2 + 1).toNat - 2 = n + 1 by omega, show ((n : Int) + 2).toNat - 2 = n by omega]
          rfl
        have heq := ln_eq n hn c
        have k2 := hM.out.k2
        have g2 := hM.out.fk 2
        generalize hQ1 : pkI c ((n : Int) + 2 + 1) = P' at hnext
        replace hQ1 := Lib.hid hQ1
        generalize pkI c ((n : Int) + 2) = P0 at *
        by_cases hcm : c = Ln n
        · have hP : Hid (P' = (n : Int) + 2) := by rw [hnext.out, if_pos hcm]; rfl
          rw [decide_eq_true hcm] at heq
          clear hcm hnext
          go_wp2_with fail
          go_quiet (fail)
          go_wp2_with fail
          go_ways
          go_roundw
          case rel => exact ⟨(n : Int) + 2 + 1, by omega, by omega, rfl, by rw [hQ1.out, hP.out]; exact Lib.hid ((hM.out.drewN _).set2 ((n : Int) + 2))⟩
          case measure => simp [intOf]; omega
        · have hP : Hid (P' = P0) := by rw [hnext.out, if_neg hcm]; rfl
          rw [decide_eq_false hcm] at heq
          clear hcm hnext
          go_wp2_with fail
          go_quiet (fail)
          go_wp2_with fail
          go_ways
          go_roundw
          case rel => exact ⟨(n : Int) + 2 + 1, by omega, by omega, rfl, by rw [hQ1.out, hP.out]; exact Lib.hid (hM.out.drewN _)⟩
          case measure => simp [intOf]; omega
      · obtain rfl : q = 6 := by omega
        have hpl : Hid (plV c = pkI c 6) := rfl
        have c0 := hM.out.pr.mb.c0
        have c1 := hM.out.pr.mb.c1
        have k0 := hM.out.k0
        have k1 := hM.out.k1
        have k2 := hM.out.k2
        have m0 := hM.out.pr.mb.m0
        have m1 := hM.out.pr.mb.m1
        have m2 := hM.out.pr.mb.m2
        have f0 := hM.out.pr.fr 0
        have f1 := hM.out.pr.fr 1
        have f2 := hM.out.pr.fr 2
        generalize pkI c 6 = P at *
        by_cases hP0 : P = 0
        · have hP1 : (P == 0) = true := by rw [beq_iff_eq]; exact hP0
          have hr : Hid (R = .tuple #[.agg #[.int .i64 0, .int .i64 0, .int .i8 0], .bool false]) := by show _ = _; rw [← hR.out, hpl.out, hP0]; rfl
          clear hP0
          go_wp2_with fail
          obtain ⟨s0, s1, s2⟩ := set3 m0 m1 m2 (.int .i64 0) (.int .i64 0) (.int .i8 0)
          exact bodyPost_ret (v := .tuple #[.agg #[.int .i64 0, .int .i64 0, .int .i8 0], .bool false]) (by simp [results, Tryd.results15, go_sem, s0, s1, s2]) rfl ⟨congrArg Ending.returned hr.out.symm, below_set3 hM.out.pr.mb.below (by omega) _ _ _⟩
        · have hP1 : (P == 0) = false := by rw [beq_eq_false_iff_ne]; exact hP0
          have hd : Hid ((decide (plV c ≠ 0) && mvB f r a b (plV c)) = mvB f r a b P) := by show _ = _; rw [hpl.out, decide_eq_true hP0]; rfl
          clear hP0
          rcases hv : mvB f r a b P with _ | _
          · have hr : Hid (R = .tuple #[.agg #[.int .i64 0, .int .i64 0, .int .i8 0], .bool false]) := by show _ = _; rw [← hR.out, hd.out, hv]; rfl
            go_wp2_with (go_at_call 10; refine (rmvalid _ _ _ _ _ _).mono ?_; rintro e w5 ⟨rfl, hbw⟩; rw [hv]; replace hM := Lib.hid (hM.out.next hbw); replace c0 := hM.out.pr.mb.c0; replace c1 := hM.out.pr.mb.c1; replace k0 := hM.out.k0; replace k1 := hM.out.k1; replace k2 := hM.out.k2; replace m0 := hM.out.pr.mb.m0; replace m1 := hM.out.pr.mb.m1; replace m2 := hM.out.pr.mb.m2; replace f0 := hM.out.pr.fr 0; replace f1 := hM.out.pr.fr 1; replace f2 := hM.out.pr.fr 2; clear hbw)
            obtain ⟨s0, s1, s2⟩ := set3 m0 m1 m2 (.int .i64 0) (.int .i64 0) (.int .i8 0)
            exact bodyPost_ret (v := .tuple #[.agg #[.int .i64 0, .int .i64 0, .int .i8 0], .bool false]) (by simp [results, Tryd.results15, go_sem, s0, s1, s2]) rfl ⟨congrArg Ending.returned hr.out.symm, below_set3 hM.out.pr.mb.below (by omega) _ _ _⟩
          · have hr : Hid (R = .tuple #[.agg #[.int .i64 a, .int .i64 b, .int .i8 P], .bool true]) := by show _ = _; rw [← hR.out, hd.out, hv, hpl.out]; rfl
            go_wp2_with (go_at_call 10; refine (rmvalid _ _ _ _ _ _).mono ?_; rintro e w5 ⟨rfl, hbw⟩; rw [hv]; replace hM := Lib.hid (hM.out.next hbw); replace c0 := hM.out.pr.mb.c0; replace c1 := hM.out.pr.mb.c1; replace k0 := hM.out.k0; replace k1 := hM.out.k1; replace k2 := hM.out.k2; replace m0 := hM.out.pr.mb.m0; replace m1 := hM.out.pr.mb.m1; replace m2 := hM.out.pr.mb.m2; replace f0 := hM.out.pr.fr 0; replace f1 := hM.out.pr.fr 1; replace f2 := hM.out.pr.fr 2; clear hbw)
            obtain ⟨s0, s1, s2⟩ := set3 m0 m1 m2 (.int .i64 a) (.int .i64 b) (.int .i8 P)
            exact bodyPost_ret (v := .tuple #[.agg #[.int .i64 a, .int .i64 b, .int .i8 P], .bool true]) (by simp [results, Tryd.results15, go_sem, s0, s1, s2]) rfl ⟨congrArg Ending.returned hr.out.symm, below_set3 hM.out.pr.mb.below (by omega) _ _ _⟩
end Go.Proofs.YtlnphcdanadaeaaDoor
