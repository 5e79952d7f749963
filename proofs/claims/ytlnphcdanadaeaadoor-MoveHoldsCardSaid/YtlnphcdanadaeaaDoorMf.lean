/- Layer 7: the move with a text, the program's: four and five bytes. -/
import Derived.Test.YtlnphcdanadaeaaDoorMe
import Derived.Deep.RegionHeld3
import Derived.Deep.DrawnRows
import Derived.Deep.DeepCutAuto
import Derived.Deep.CutRange
import Derived.Deep.LoopGhost
namespace Go.Proofs.YtlnphcdanadaeaaDoor
open Go.RowKit
set_option linter.unusedSimpArgs false
set_option linter.unusedVariables false

/-- square.Parse at a text gives a number and an error -/
def SqP (f r : Int) (t : ByteArray) (A E : Int) : Prop := ∀ W : World, Calls Tryd.prog 29 #[.agg #[.int .i64 f, .int .i64 r], .string t] W fun e w' => e = .returned (.tuple #[.int .i64 A, .int .i64 E]) ∧ Below W.heap.size W w'
/-- whether a text that has been read in parts is that of a move; what is returned then -/
def mok (f r a b p E1 E2 G : Int) : Bool := decide (E1 = 0 ∧ E2 = 0 ∧ G = 0) && mvB f r a b p
def mres (ok : Bool) (a b p : Int) : Value := if ok then .tuple #[.agg #[.int .i64 a, .int .i64 b, .int .i8 p], .int .i64 0] else .tuple #[.agg #[.int .i64 0, .int .i64 0, .int .i8 0], .int .i64 6]
theorem mok_e {f r a b p E1 E2 G : Int} (h : ¬ (E1 = 0 ∧ E2 = 0 ∧ G = 0)) : mok f r a b p E1 E2 G = false := by unfold mok; rw [decide_eq_false h]; rfl
theorem mok_v {f r a b p E1 E2 G : Int} (h : E1 = 0 ∧ E2 = 0 ∧ G = 0) : mok f r a b p E1 E2 G = mvB f r a b p := by unfold mok; rw [decide_eq_true h]; rfl

set_option maxRecDepth 100000 in
set_option maxHeartbeats 1000000 in
theorem pmp4 (f r a b E1 E2 : Int) (s t1 t2 : ByteArray) (w : World) (hs : szB f r = true) (hsz : s.size = 4) (hx1 : s.extract 0 2 = t1) (hx2 : s.extract 2 4 = t2) (P1 : SqP f r t1 a E1) (P2 : SqP f r t2 b E2) :
    Calls Tryd.prog 13 #[.agg #[.int .i64 f, .int .i64 r], .string s] w fun e w' => e = .returned (mres (mok f r a b 0 E1 E2 0) a b 0) ∧ Below w.heap.size w w' := by
  have hK := Lib.hid (PR.first f r w 23 27)
  have c0 := hK.out.mb.c0
  have c1 := hK.out.mb.c1
  have P1H := Lib.hid P1
  have P2H := Lib.hid P2
  clear P1 P2
  go_enter Tryd.func13, Tryd.ntmps13
  go_wp2_with (go_at_call 28; refine (pvsize _ _ _).mono ?_; rintro e w1 ⟨rfl, hbw⟩; rw [hs]; replace hK := Lib.hid (hK.out.next hbw); replace c0 := hK.out.mb.c0; replace c1 := hK.out.mb.c1; clear hbw)
  have hM := Lib.hid (PM.first hK.out 27)
  clear hK
  obtain ⟨W, hW⟩ : ∃ W, w1.alloc (.cells #[.int .i64 0, .int .i64 0, .int .i8 0] 27) = W := ⟨_, rfl⟩
  rw [hW] at hM ⊢
  clear hW
  generalize w1.heap.size = Bm at *
  replace c0 := hM.out.pr.mb.c0
  replace c1 := hM.out.pr.mb.c1
  have k0 := hM.out.k0
  have k1 := hM.out.k1
  have k2 := hM.out.k2
  have g0 := hM.out.fk 0
  have g1 := hM.out.fk 1
  have g2 := hM.out.fk 2
  go_upto_region 7 with fail
  go_region_held3 (fun w' => w'.cell? ⟨w.heap.size, 0, none⟩ = some (.int .i64 f) ∧ w'.cell? ⟨w.heap.size, 1, none⟩ = some (.int .i64 r)) (first | exact ⟨c0, c1⟩ | exact ⟨(hM.out.set0 _).pr.mb.c0, (hM.out.set0 _).pr.mb.c1⟩ | go_keep)
    (first | (go_at_call 29; refine (P1H.out _).mono ?_; rintro e w2 ⟨rfl, hbw⟩; replace hM : Hid (PM f r 0 0 0 Bm w w2) := (by first | exact hM.out.next hbw | exact hM.out.next (undrew hbw)); replace c0 := hM.out.pr.mb.c0; replace c1 := hM.out.pr.mb.c1; replace k0 := hM.out.k0; replace g0 := hM.out.fk 0; clear hbw))
  rename_i hHeld
  clear hHeld
  replace hM := Lib.hid (hM.out.set0 a)
  obtain ⟨W7, hW⟩ : ∃ W', w2.setCell ⟨Bm, 0, none⟩ (.int .i64 a) = W' := ⟨_, rfl⟩
  rw [hW] at hM ⊢
  clear hW
  replace c0 := hM.out.pr.mb.c0
  replace c1 := hM.out.pr.mb.c1
  replace k0 := hM.out.k0
  replace k1 := hM.out.k1
  replace k2 := hM.out.k2
  replace g0 := hM.out.fk 0
  replace g1 := hM.out.fk 1
  replace g2 := hM.out.fk 2
  go_upto_region 8 with fail
  go_region_held3 (fun w' => w'.cell? ⟨w.heap.size, 0, none⟩ = some (.int .i64 f) ∧ w'.cell? ⟨w.heap.size, 1, none⟩ = some (.int .i64 r)) (first | exact ⟨c0, c1⟩ | exact ⟨(hM.out.set1 _).pr.mb.c0, (hM.out.set1 _).pr.mb.c1⟩ | go_keep)
    (first | (go_at_call 29; refine (P2H.out _).mono ?_; rintro e w2 ⟨rfl, hbw⟩; replace hM : Hid (PM f r a 0 0 Bm w w2) := (by first | exact hM.out.next hbw | exact hM.out.next (undrew hbw)); replace c0 := hM.out.pr.mb.c0; replace c1 := hM.out.pr.mb.c1; replace k1 := hM.out.k1; replace g1 := hM.out.fk 1; clear hbw))
  rename_i hHeld
  clear hHeld
  replace hM := Lib.hid (hM.out.set1 b)
  obtain ⟨W8, hW⟩ : ∃ W', w2.setCell ⟨Bm, 1, none⟩ (.int .i64 b) = W' := ⟨_, rfl⟩
  rw [hW] at hM ⊢
  clear hW
  replace c0 := hM.out.pr.mb.c0
  replace c1 := hM.out.pr.mb.c1
  replace k0 := hM.out.k0
  replace k1 := hM.out.k1
  replace k2 := hM.out.k2
  replace g0 := hM.out.fk 0
  replace g1 := hM.out.fk 1
  replace g2 := hM.out.fk 2
  have m0 := hM.out.pr.mb.m0
  have m1 := hM.out.pr.mb.m1
  have m2 := hM.out.pr.mb.m2
  have f0 := hM.out.pr.fr 0
  have f1 := hM.out.pr.fr 1
  have f2 := hM.out.pr.fr 2
  by_cases h1 : E1 = 0
  case neg =>
    have hn : (E1 != 0) = true := by rw [bne_iff_ne]; exact h1
    have hr : Hid (mok f r a b 0 E1 E2 0 = false) := mok_e (fun h => h1 (by first | exact h.1 | exact h.2.1 | exact h.2.2))
    clear h1
    go_wp2_with fail
    obtain ⟨s0, s1, s2⟩ := set3 m0 m1 m2 (.int .i64 0) (.int .i64 0) (.int .i8 0)
    exact bodyPost_ret (v := .tuple #[.agg #[.int .i64 0, .int .i64 0, .int .i8 0], .int .i64 6]) (by simp [results, Tryd.results13, go_sem, s0, s1, s2]) rfl ⟨by rw [hr.out]; rfl, below_set3 hM.out.pr.mb.below (by omega) _ _ _⟩
  have h1n : (E1 != 0) = false := by rw [bne_eq_false_iff_eq]; exact h1
  have h1H := Lib.hid h1
  clear h1
  by_cases h2 : E2 = 0
  case neg =>
    have hn : (E2 != 0) = true := by rw [bne_iff_ne]; exact h2
    have hr : Hid (mok f r a b 0 E1 E2 0 = false) := mok_e (fun h => h2 (by first | exact h.1 | exact h.2.1 | exact h.2.2))
    clear h2
    go_wp2_with fail
    obtain ⟨s0, s1, s2⟩ := set3 m0 m1 m2 (.int .i64 0) (.int .i64 0) (.int .i8 0)
    exact bodyPost_ret (v := .tuple #[.agg #[.int .i64 0, .int .i64 0, .int .i8 0], .int .i64 6]) (by simp [results, Tryd.results13, go_sem, s0, s1, s2]) rfl ⟨by rw [hr.out]; rfl, below_set3 hM.out.pr.mb.below (by omega) _ _ _⟩
  have h2n : (E2 != 0) = false := by rw [bne_eq_false_iff_eq]; exact h2
  have h2H := Lib.hid h2
  clear h2
  have hok := Lib.hid (mok_v (f := f) (r := r) (a := a) (b := b) (p := 0) (E1 := E1) (E2 := E2) (G := 0) ⟨h1H.out, h2H.out, rfl⟩)
  rcases hv : mvB f r a b 0 with _ | _
  · have hr : Hid (mok f r a b 0 E1 E2 0 = false) := hok.out.trans hv
    go_wp2_with (go_at_call 21; refine (pmvalid _ _ _ _ _ _).mono ?_; rintro e w2 ⟨rfl, hbw⟩; rw [hv]; replace hM := Lib.hid (hM.out.next hbw); replace c0 := hM.out.pr.mb.c0; replace c1 := hM.out.pr.mb.c1; replace k0 := hM.out.k0; replace k1 := hM.out.k1; replace k2 := hM.out.k2; replace m0 := hM.out.pr.mb.m0; replace m1 := hM.out.pr.mb.m1; replace m2 := hM.out.pr.mb.m2; replace f0 := hM.out.pr.fr 0; replace f1 := hM.out.pr.fr 1; replace f2 := hM.out.pr.fr 2; clear hbw)
    obtain ⟨s0, s1, s2⟩ := set3 m0 m1 m2 (.int .i64 0) (.int .i64 0) (.int .i8 0)
    exact bodyPost_ret (v := .tuple #[.agg #[.int .i64 0, .int .i64 0, .int .i8 0], .int .i64 6]) (by simp [results, Tryd.results13, go_sem, s0, s1, s2]) rfl ⟨by rw [hr.out]; rfl, below_set3 hM.out.pr.mb.below (by omega) _ _ _⟩
  · have hr : Hid (mok f r a b 0 E1 E2 0 = true) := hok.out.trans hv
    go_wp2_with (go_at_call 21; refine (pmvalid _ _ _ _ _ _).mono ?_; rintro e w2 ⟨rfl, hbw⟩; rw [hv]; replace hM := Lib.hid (hM.out.next hbw); replace c0 := hM.out.pr.mb.c0; replace c1 := hM.out.pr.mb.c1; replace k0 := hM.out.k0; replace k1 := hM.out.k1; replace k2 := hM.out.k2; replace m0 := hM.out.pr.mb.m0; replace m1 := hM.out.pr.mb.m1; replace m2 := hM.out.pr.mb.m2; replace f0 := hM.out.pr.fr 0; replace f1 := hM.out.pr.fr 1; replace f2 := hM.out.pr.fr 2; clear hbw)
    obtain ⟨s0, s1, s2⟩ := set3 m0 m1 m2 (.int .i64 a) (.int .i64 b) (.int .i8 0)
    exact bodyPost_ret (v := .tuple #[.agg #[.int .i64 a, .int .i64 b, .int .i8 0], .int .i64 0]) (by simp [results, Tryd.results13, go_sem, s0, s1, s2]) rfl ⟨by rw [hr.out]; rfl, below_set3 hM.out.pr.mb.below (by omega) _ _ _⟩
set_option maxRecDepth 100000 in
set_option maxHeartbeats 1000000 in
theorem pmp5 (f r a b E1 E2 p G : Int) (s t1 t2 : ByteArray) (w : World) (hs : szB f r = true) (hsz : s.size = 5) (hx1 : s.extract 0 2 = t1) (hx2 : s.extract 2 4 = t2) (P1 : SqP f r t1 a E1) (P2 : SqP f r t2 b E2) (h4 : 4 < s.size)
    (P3 : ∀ W : World, Below w.heap.size w W → Calls Tryd.prog 30 #[.int .u8 ((s[4]'h4).toNat : Int)] W fun e w' => e = .returned (.tuple #[.int .i8 p, .int .i64 G]) ∧ W = w') :
    Calls Tryd.prog 13 #[.agg #[.int .i64 f, .int .i64 r], .string s] w fun e w' => e = .returned (mres (mok f r a b p E1 E2 G) a b p) ∧ Below w.heap.size w w' := by
  have hK := Lib.hid (PR.first f r w 23 27)
  have c0 := hK.out.mb.c0
  have c1 := hK.out.mb.c1
  have P1H := Lib.hid P1
  have P2H := Lib.hid P2
  clear P1 P2
  have P3H := Lib.hid P3
  have hi4 : (4 : Int) < (s.size : Int) := by omega
  clear P3
  go_enter Tryd.func13, Tryd.ntmps13
  go_wp2_with (go_at_call 28; refine (pvsize _ _ _).mono ?_; rintro e w1 ⟨rfl, hbw⟩; rw [hs]; replace hK := Lib.hid (hK.out.next hbw); replace c0 := hK.out.mb.c0; replace c1 := hK.out.mb.c1; clear hbw)
  have hM := Lib.hid (PM.first hK.out 27)
  clear hK
  obtain ⟨W, hW⟩ : ∃ W, w1.alloc (.cells #[.int .i64 0, .int .i64 0, .int .i8 0] 27) = W := ⟨_, rfl⟩
  rw [hW] at hM ⊢
  clear hW
  generalize w1.heap.size = Bm at *
  replace c0 := hM.out.pr.mb.c0
  replace c1 := hM.out.pr.mb.c1
  have k0 := hM.out.k0
  have k1 := hM.out.k1
  have k2 := hM.out.k2
  have g0 := hM.out.fk 0
  have g1 := hM.out.fk 1
  have g2 := hM.out.fk 2
  go_upto_region 7 with fail
  go_region_held3 (fun w' => w'.cell? ⟨w.heap.size, 0, none⟩ = some (.int .i64 f) ∧ w'.cell? ⟨w.heap.size, 1, none⟩ = some (.int .i64 r)) (first | exact ⟨c0, c1⟩ | exact ⟨(hM.out.set0 _).pr.mb.c0, (hM.out.set0 _).pr.mb.c1⟩ | go_keep)
    (first | (go_at_call 29; refine (P1H.out _).mono ?_; rintro e w2 ⟨rfl, hbw⟩; replace hM : Hid (PM f r 0 0 0 Bm w w2) := (by first | exact hM.out.next hbw | exact hM.out.next (undrew hbw)); replace c0 := hM.out.pr.mb.c0; replace c1 := hM.out.pr.mb.c1; replace k0 := hM.out.k0; replace g0 := hM.out.fk 0; clear hbw))
  rename_i hHeld
  clear hHeld
  replace hM := Lib.hid (hM.out.set0 a)
  obtain ⟨W7, hW⟩ : ∃ W', w2.setCell ⟨Bm, 0, none⟩ (.int .i64 a) = W' := ⟨_, rfl⟩
  rw [hW] at hM ⊢
  clear hW
  replace c0 := hM.out.pr.mb.c0
  replace c1 := hM.out.pr.mb.c1
  replace k0 := hM.out.k0
  replace k1 := hM.out.k1
  replace k2 := hM.out.k2
  replace g0 := hM.out.fk 0
  replace g1 := hM.out.fk 1
  replace g2 := hM.out.fk 2
  go_upto_region 8 with fail
  go_region_held3 (fun w' => w'.cell? ⟨w.heap.size, 0, none⟩ = some (.int .i64 f) ∧ w'.cell? ⟨w.heap.size, 1, none⟩ = some (.int .i64 r)) (first | exact ⟨c0, c1⟩ | exact ⟨(hM.out.set1 _).pr.mb.c0, (hM.out.set1 _).pr.mb.c1⟩ | go_keep)
    (first | (go_at_call 29; refine (P2H.out _).mono ?_; rintro e w2 ⟨rfl, hbw⟩; replace hM : Hid (PM f r a 0 0 Bm w w2) := (by first | exact hM.out.next hbw | exact hM.out.next (undrew hbw)); replace c0 := hM.out.pr.mb.c0; replace c1 := hM.out.pr.mb.c1; replace k1 := hM.out.k1; replace g1 := hM.out.fk 1; clear hbw))
  rename_i hHeld
  clear hHeld
  replace hM := Lib.hid (hM.out.set1 b)
  obtain ⟨W8, hW⟩ : ∃ W', w2.setCell ⟨Bm, 1, none⟩ (.int .i64 b) = W' := ⟨_, rfl⟩
  rw [hW] at hM ⊢
  clear hW
  replace c0 := hM.out.pr.mb.c0
  replace c1 := hM.out.pr.mb.c1
  replace k0 := hM.out.k0
  replace k1 := hM.out.k1
  replace k2 := hM.out.k2
  replace g0 := hM.out.fk 0
  replace g1 := hM.out.fk 1
  replace g2 := hM.out.fk 2
  go_upto_region 11 with (go_at_call 30; refine (P3H.out _ hM.out.pr.mb.below).mono ?_; rintro e w2 ⟨rfl, rfl⟩)
  replace hM := Lib.hid (hM.out.set2 p)
  obtain ⟨W11, hW⟩ : ∃ W', W8.setCell ⟨Bm, 2, none⟩ (.int .i8 p) = W' := ⟨_, rfl⟩
  rw [hW] at hM ⊢
  clear hW
  replace c0 := hM.out.pr.mb.c0
  replace c1 := hM.out.pr.mb.c1
  replace k0 := hM.out.k0
  replace k1 := hM.out.k1
  replace k2 := hM.out.k2
  clear g0 g1 g2
  have m0 := hM.out.pr.mb.m0
  have m1 := hM.out.pr.mb.m1
  have m2 := hM.out.pr.mb.m2
  have f0 := hM.out.pr.fr 0
  have f1 := hM.out.pr.fr 1
  have f2 := hM.out.pr.fr 2
  by_cases h1 : E1 = 0
  case neg =>
    have hn : (E1 != 0) = true := by rw [bne_iff_ne]; exact h1
    have hr : Hid (mok f r a b p E1 E2 G = false) := mok_e (fun h => h1 (by first | exact h.1 | exact h.2.1 | exact h.2.2))
    clear h1
    go_wp2_with fail
    obtain ⟨s0, s1, s2⟩ := set3 m0 m1 m2 (.int .i64 0) (.int .i64 0) (.int .i8 0)
    exact bodyPost_ret (v := .tuple #[.agg #[.int .i64 0, .int .i64 0, .int .i8 0], .int .i64 6]) (by simp [results, Tryd.results13, go_sem, s0, s1, s2]) rfl ⟨by rw [hr.out]; rfl, below_set3 hM.out.pr.mb.below (by omega) _ _ _⟩
  have h1n : (E1 != 0) = false := by rw [bne_eq_false_iff_eq]; exact h1
  have h1H := Lib.hid h1
  clear h1
  by_cases h2 : E2 = 0
  case neg =>
    have hn : (E2 != 0) = true := by rw [bne_iff_ne]; exact h2
    have hr : Hid (mok f r a b p E1 E2 G = false) := mok_e (fun h => h2 (by first | exact h.1 | exact h.2.1 | exact h.2.2))
    clear h2
    go_wp2_with fail
    obtain ⟨s0, s1, s2⟩ := set3 m0 m1 m2 (.int .i64 0) (.int .i64 0) (.int .i8 0)
    exact bodyPost_ret (v := .tuple #[.agg #[.int .i64 0, .int .i64 0, .int .i8 0], .int .i64 6]) (by simp [results, Tryd.results13, go_sem, s0, s1, s2]) rfl ⟨by rw [hr.out]; rfl, below_set3 hM.out.pr.mb.below (by omega) _ _ _⟩
  have h2n : (E2 != 0) = false := by rw [bne_eq_false_iff_eq]; exact h2
  have h2H := Lib.hid h2
  clear h2
  by_cases h3 : G = 0
  case neg =>
    have hn : (G != 0) = true := by rw [bne_iff_ne]; exact h3
    have hr : Hid (mok f r a b p E1 E2 G = false) := mok_e (fun h => h3 (by first | exact h.1 | exact h.2.1 | exact h.2.2))
    clear h3
    go_wp2_with fail
    obtain ⟨s0, s1, s2⟩ := set3 m0 m1 m2 (.int .i64 0) (.int .i64 0) (.int .i8 0)
    exact bodyPost_ret (v := .tuple #[.agg #[.int .i64 0, .int .i64 0, .int .i8 0], .int .i64 6]) (by simp [results, Tryd.results13, go_sem, s0, s1, s2]) rfl ⟨by rw [hr.out]; rfl, below_set3 hM.out.pr.mb.below (by omega) _ _ _⟩
  have h3n : (G != 0) = false := by rw [bne_eq_false_iff_eq]; exact h3
  have h3H := Lib.hid h3
  clear h3
  have hok := Lib.hid (mok_v (f := f) (r := r) (a := a) (b := b) (p := p) (E1 := E1) (E2 := E2) (G := G) ⟨h1H.out, h2H.out, h3H.out⟩)
  rcases hv : mvB f r a b p with _ | _
  · have hr : Hid (mok f r a b p E1 E2 G = false) := hok.out.trans hv
    go_wp2_with (go_at_call 21; refine (pmvalid _ _ _ _ _ _).mono ?_; rintro e w2 ⟨rfl, hbw⟩; rw [hv]; replace hM := Lib.hid (hM.out.next hbw); replace c0 := hM.out.pr.mb.c0; replace c1 := hM.out.pr.mb.c1; replace k0 := hM.out.k0; replace k1 := hM.out.k1; replace k2 := hM.out.k2; replace m0 := hM.out.pr.mb.m0; replace m1 := hM.out.pr.mb.m1; replace m2 := hM.out.pr.mb.m2; replace f0 := hM.out.pr.fr 0; replace f1 := hM.out.pr.fr 1; replace f2 := hM.out.pr.fr 2; clear hbw)
    obtain ⟨s0, s1, s2⟩ := set3 m0 m1 m2 (.int .i64 0) (.int .i64 0) (.int .i8 0)
    exact bodyPost_ret (v := .tuple #[.agg #[.int .i64 0, .int .i64 0, .int .i8 0], .int .i64 6]) (by simp [results, Tryd.results13, go_sem, s0, s1, s2]) rfl ⟨by rw [hr.out]; rfl, below_set3 hM.out.pr.mb.below (by omega) _ _ _⟩
  · have hr : Hid (mok f r a b p E1 E2 G = true) := hok.out.trans hv
    go_wp2_with (go_at_call 21; refine (pmvalid _ _ _ _ _ _).mono ?_; rintro e w2 ⟨rfl, hbw⟩; rw [hv]; replace hM := Lib.hid (hM.out.next hbw); replace c0 := hM.out.pr.mb.c0; replace c1 := hM.out.pr.mb.c1; replace k0 := hM.out.k0; replace k1 := hM.out.k1; replace k2 := hM.out.k2; replace m0 := hM.out.pr.mb.m0; replace m1 := hM.out.pr.mb.m1; replace m2 := hM.out.pr.mb.m2; replace f0 := hM.out.pr.fr 0; replace f1 := hM.out.pr.fr 1; replace f2 := hM.out.pr.fr 2; clear hbw)
    obtain ⟨s0, s1, s2⟩ := set3 m0 m1 m2 (.int .i64 a) (.int .i64 b) (.int .i8 p)
    exact bodyPost_ret (v := .tuple #[.agg #[.int .i64 a, .int .i64 b, .int .i8 p], .int .i64 0]) (by simp [results, Tryd.results13, go_sem, s0, s1, s2]) rfl ⟨by rw [hr.out]; rfl, below_set3 hM.out.pr.mb.below (by omega) _ _ _⟩
end Go.Proofs.YtlnphcdanadaeaaDoor
