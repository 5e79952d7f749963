/- Layer 45: the theorem of the stage, walked: valid arguments. -/
import Derived.Test.YtlmdmdjcokmgjaaDoorRq
import Derived.Test.YtlmdmdjcokmgjaaDoorOx
import Derived.Deep.RegionHeld3
import Derived.Deep.DrawnRows
import Derived.Deep.DeepCutAuto
import Derived.Deep.CutRange
import Derived.Deep.LoopGhost
namespace Go.Proofs.YtlmdmdjcokmgjaaDoor
open Go.RowKit
set_option linter.unusedSimpArgs false
set_option linter.unusedVariables false
attribute [local go_sem ↓] Go.wp_at_zero Go.wp_at_succ

abbrev RG := @R3 (Int × Int) gEnc 2

theorem vld1 {x y : Int} (x0 : 0 ≤ x) (x1 : x ≤ 4000) (y0 : 0 ≤ y) (y1 : y ≤ 2) : vldG [(x, y)] = true :=
  vld_of (fun k hk => by obtain rfl : k = 0 := by simp at hk; omega
                         exact ⟨x0, x1, y0, y1⟩) (by simp)

theorem recs_d {α : Type} {f : α → List Value} {size B : Nat} {w : World} {A : Option Addr} {l : List α} (h : RecAt f size w B A l) : RecAt f size w.drew B A l := h
theorem games1e (w : World) (x y : Int) (t : TypeId) {b : Nat} (hb : b = w.heap.size) : RecAt gEnc 2 (w.alloc (.cells #[.int .i64 x, .int .i64 y] t)) (w.alloc (.cells #[.int .i64 x, .int .i64 y] t)).heap.size (some ⟨b, 0, none⟩) [(x, y)] := by
  subst hb; exact games1r w x y t
theorem games1r_alloc (w : World) (x y : Int) (t : TypeId) (o : Obj) : RecAt gEnc 2 ((w.alloc (.cells #[.int .i64 x, .int .i64 y] t)).alloc o) ((w.alloc (.cells #[.int .i64 x, .int .i64 y] t)).alloc o).heap.size (some ⟨w.heap.size, 0, none⟩) [(x, y)] :=
  ((games1r w x y t).below (Nat.le_refl _) ((Below.refl _ _).alloc (Nat.le_refl _) _)).more (by simp)
theorem recs_app {α : Type} {f : α → List Value} {size : Nat} {w w' : World} {A B : Option Addr} {l m : List α} {d : Nat} (h : RecAt f size w w.heap.size A l) (hg : w.grownBy w' (Value.slice B m.length d).ownBlock) (hap : ApartA A B) : RecAt f size w' w'.heap.size A l := by
  intro hl
  obtain ⟨b, off, rfl, hlt, hc⟩ := h hl
  refine ⟨b, off, rfl, Nat.lt_of_lt_of_le hlt hg.size, fun k x hk j u hu => ?_⟩
  rw [World.cell?_of_block (w := w) (hg.block b hlt (by
    rw [ownBlock_slice]
    cases B with
    | none => simp
    | some b' =>
      simp only [Option.map_some, ne_eq, Option.some.injEq]
      exact hap _ b' rfl rfl))]
  exact hc k x hk j u hu
theorem apart_new {α : Type} {f : α → List Value} {size base : Nat} {e : TypeId} {w : World} {A : Option Addr} {c : Nat} {l : List α} (h : Own1 f size base e w A c l) {b : Nat} (hb : w.heap.size ≤ b) : ApartA (some ⟨b, 0, none⟩) A := by
  intro a a' ha ha' e
  obtain rfl := Option.some.inj ha
  have h1 := (h.lt ha').2
  have h2 : b = a'.block := e
  omega

set_option maxRecDepth 100000 in
set_option maxHeartbeats 1000000 in
theorem law_holds_ge (a b c k : Int) (A : Option Addr) (l : List (Int × Int)) (cc : Nat) (w : World) (hl : LimsAt w) (hg : GamesAt w w.heap.size A l) (hm : l.length ≤ 20)
    (a0 : 0 ≤ a) (a1 : a ≤ 4000) (b0 : 0 ≤ b) (b1 : b ≤ 4000) (c0 : 0 ≤ c) (c1 : c ≤ 4000) (k0 : 1 ≤ k) (k1 : k ≤ 60) (hv : vldG l = true) (hab : b ≤ a) :
    Calls Tryd.prog 6 #[.int .i64 a, .int .i64 b, .int .i64 c, .int .i64 k, .slice A l.length cc] w fun e w' => e = .returned (.bool true) ∧ Below w.heap.size w w' := by
  have hpos := hl.pos
  have hlH := Lib.hid hl
  have hgH := Lib.hid hg
  have hvH := Lib.hid hv
  clear hl hg
  have ha := inB_yes a0 a1
  have hb := inB_yes b0 b1
  have hc := inB_yes c0 c1
  have hsum : (expV a c + expV c a != 100) = false := by rw [expV_sum]; rfl
  obtain ⟨e10, e11⟩ := expV_bd a c
  obtain ⟨e20, e21⟩ := expV_bd b c
  obtain ⟨e30, e31⟩ := expV_bd c a
  have hmono : b ≤ a → expV b c ≤ expV a c ∧ balV a l ≤ balV b l := fun h => ⟨expV_mono h, balV_mono h l⟩
  have hwin := next_win (b := b) a0 a1 k0
  have hloss := next_loss (b := b) a0 a1 k0
  obtain ⟨m1, m2⟩ := hmono hab
  clear hmono
  go_enter Tryd.func6, Tryd.ntmps6
  go_wp2_with (first
    | (go_at_call 9; refine (rrat _ _).mono ?_; rintro e w' ⟨rfl, rfl⟩)
    | (go_at_call 14; refine (rvalid _ _ _ _ hgH.out (by unfold maxLen; omega)).mono ?_; rintro e w' ⟨rfl, rfl⟩)
    | (go_at_call 8; refine (pExpect_yes _ _ _ hlH.out (by omega) (by omega) (by omega) (by omega)).mono ?_; rintro e w' ⟨rfl, rfl⟩))
  refine (pBal_yes _ _ _ _ _ hlH.out hgH.out a0 a1 hvH.out).mono ?_
  rintro e w1 ⟨rfl, hb1⟩
  have hbw1 := Lib.hid hb1
  have hl1 := Lib.hid (hlH.out.below hpos hb1)
  have hg1 := Lib.hid ((hgH.out.below (Nat.le_refl _) hb1).more hb1.size)
  clear hb1
  go_wp2_with fail
  refine (pBal_yes _ _ _ _ _ hl1.out hg1.out b0 b1 hvH.out).mono ?_
  rintro e w2 ⟨rfl, hb2⟩
  have hbw2 := Lib.hid (hbw1.out.trans (hb2.mono hbw1.out.size))
  have hl2 := Lib.hid (hlH.out.below hpos hbw2.out)
  clear hb2 hl1 hg1 hbw1
  go_wp2_with fail
  refine (pNext_yes a k _ [(b, 2)] _ _ (hl2.out.below (by have := hbw2.out.size; omega) ((Below.refl _ _).alloc (Nat.le_refl _) _)) (games1 _ _ _ _) a0 a1 k0 k1 (vld1 b0 b1 (by decide) (by decide))).mono ?_
  rintro e w3 ⟨rfl, hb3⟩
  have hbw3 := Lib.hid ((hbw2.out.alloc hbw2.out.size _).trans (hb3.mono (by have := hbw2.out.size; simp; omega)))
  have hl3 := Lib.hid (hlH.out.below hpos hbw3.out)
  clear hb3 hl2 hbw2
  go_wp2_with fail
  refine (pNext_yes a k _ [(b, 0)] _ _ (hl3.out.below (by have := hbw3.out.size; omega) ((Below.refl _ _).alloc (Nat.le_refl _) _)) (games1 _ _ _ _) a0 a1 k0 k1 (vld1 b0 b1 (by decide) (by decide))).mono ?_
  rintro e w4 ⟨rfl, hb4⟩
  have hbw4 := Lib.hid ((hbw3.out.alloc hbw3.out.size _).trans (hb4.mono (by have := hbw3.out.size; simp; omega)))
  have hg4 := Lib.hid (hgH.out.below (Nat.le_refl _) hbw4.out)
  have hsz4 := hbw4.out.size
  clear hb4 hl3 hbw3
  go_wp2_with fail
  go_loopg [23, 24, 25, 26] l.length (fun gk s23 s24 s25 s26 wr => ∃ (n : Nat) (A1 : Option Addr) (c1 : Nat) (A2 : Option Addr) (c2 : Nat) (A3 : Option Addr) (c3 : Nat), n + gk = l.length ∧ s26 = .int .i64 (n : Int) ∧
    s23 = .slice A1 (mineL b l n).length c1 ∧ s24 = .slice A2 (yoursL a l n).length c2 ∧ s25 = .slice A3 (backL l n).length c3 ∧ Hid (RG w4.heap.size 31 w4 wr A1 c1 (mineL b l n) A2 c2 (yoursL a l n) A3 c3 (backL l n)))
  case atStart => exact ⟨0, none, 0, none, 0, none, 0, by omega, rfl, rfl, rfl, rfl, ⟨owns_nil, owns_nil, owns_nil, (fun _ _ h => by cases h), (fun _ _ h => by cases h), (fun _ _ h => by cases h), Below.refl _ _, Nat.le_refl _⟩⟩
  case round =>
    obtain ⟨n, A1, c1', A2, c2', A3, c3', hgk, rfl, rfl, rfl, rfl, hR⟩ := hrel
    have hn : n ≤ l.length := by omega
    have hgkH := Lib.hid hgk
    clear hgk
    have hl1 := Lib.hid (mineL_length b l n)
    have hl2 := Lib.hid (yoursL_length a l n)
    have hl3 := Lib.hid (backL_length l n)
    by_cases hlt : n < l.length
    · obtain ⟨ba, off, rfl, hba, hcell⟩ := hg4.out (by omega)
      have hbel := Lib.hid hR.out.below
      have q24 := (hcell n hlt).2
      have hba4 : ba < w4.heap.size := by omega
      have q2 := (hbel.out.cell (p := ⟨ba, off + n * 2 + 1, none⟩) (by show ba < w4.heap.size; omega)).trans (hcell n hlt).2
      have q34 := (hcell (l.length - 1 - n) (by omega)).1
      have q44 := (hcell (l.length - 1 - n) (by omega)).2
      have q3 := (hbel.out.cell (p := ⟨ba, off + (l.length - 1 - n) * 2, none⟩) (by show ba < w4.heap.size; omega)).trans (hcell (l.length - 1 - n) (by omega)).1
      have q4 := (hbel.out.cell (p := ⟨ba, off + (l.length - 1 - n) * 2 + 1, none⟩) (by show ba < w4.heap.size; omega)).trans (hcell (l.length - 1 - n) (by omega)).2
      have hs1 := Lib.hid (mineL_succ b l n)
      have hs2 := Lib.hid (yoursL_succ a l n)
      have hs3 := Lib.hid (backL_succ l n)
      have hok := (vldG_out hvH.out).1 n hlt
      clear hcell
      generalize gameAt l n = g1 at *
      generalize gameAt l (l.length - 1 - n) = g2 at *
      obtain ⟨x1, y1⟩ := g1
      obtain ⟨x2, y2⟩ := g2
      obtain ⟨_, _, y10, y11⟩ := hok
      have hi0 : (0 : Int) ≤ (n : Int) := Int.natCast_nonneg _
      have hi1 : (n : Int) < (l.length : Int) := by omega
      have hn1 := World.new_ne wr ⟨ba, off + n * 2 + 1, none⟩ q2
      have hfar : ∀ g, w4.heap.size ≤ g → ba ≠ g := fun g hg => by omega
      have hfarH := Lib.hid hfar
      clear hfar
      have hw2 : IntKind.i64.wrap (2 - y1) = 2 - y1 := IntWalk.i64_in _ (by omega)
      go_upto_region 18 with fail
      go_cut [23, 24] from 165 to 202 (fun s23 s24 wc => ∃ (A1 : Option Addr) (c1 : Nat) (A2 : Option Addr) (c2 : Nat), s23 = .slice A1 (mineL b l (n + 1)).length c1 ∧ s24 = .slice A2 (yoursL a l (n + 1)).length c2 ∧ Hid (RG w4.heap.size 31 w4 wc A1 c1 (mineL b l (n + 1)) A2 c2 (yoursL a l (n + 1)) A3 c3' (backL l n)))
      case first =>
        have hT := hR.out
        go_region_held3 (fun w' => w'.cell? ⟨ba, off + n * 2 + 1, none⟩ = some (.int .i64 y1)) (first | exact (hT.below.cell (p := ⟨ba, off + n * 2 + 1, none⟩) hba4).trans q24 | go_keep)
          ((first
            | (refine step_append_recs ratedRow gEnc_len gEnc_one (by rfl) _ _ (by rfl) w4.heap.size A1 c1' (mineL b l n) (by rfl) (by first | exact (hT.alloc _).drew.o1 | exact ((hT.alloc _).alloc _).drew.o1 | exact hT.o1 | exact (hT.alloc _).o1) _ 1 [(b, y1)] (by rfl) (by first | exact recs_d (games1e _ _ _ _ (by simp)) | exact recs_d (games1r_alloc _ _ _ _ _) | exact games1e _ _ _ _ (by simp) | exact hr1) (by have h := hl1.out; simp; omega) (by first | exact (hT.alloc _).drew.size | exact ((hT.alloc _).alloc _).drew.size | exact hT.size | exact (hT.alloc _).size) ?_; intro A5 c5 w5 hown5 hg5 hat5; (first | have hr2 := recs_app (recs_d (games1r_alloc wr a (2 - y1) _ _)) hg5 (apart_new hR.out.o1 (by simp)) | have hr2 := recs_app (recs_d (games1e (wr.alloc _) a (2 - y1) _ (b := wr.heap.size + 1) (by simp))) hg5 (apart_new hR.out.o1 (by simp)) | skip); rw [hs1.out] at hown5 hat5 ⊢; have hT := R3.app1 (by first | exact (hT.alloc _).drew | exact ((hT.alloc _).alloc _).drew | exact hT | exact hT.alloc _) hown5 hg5 hat5; clear hown5 hg5 hat5)
            | (refine step_append_recs ratedRow gEnc_len gEnc_one (by rfl) _ _ (by rfl) w4.heap.size A2 c2' (yoursL a l n) (by rfl) (by first | exact (hT.alloc _).drew.o2 | exact ((hT.alloc _).alloc _).drew.o2 | exact hT.o2 | exact (hT.alloc _).o2) _ 1 [(a, 2 - y1)] (by rfl) (by first | exact recs_d (games1e _ _ _ _ (by simp)) | exact recs_d (games1r_alloc _ _ _ _ _) | exact games1e _ _ _ _ (by simp) | exact hr2) (by have h := hl2.out; simp; omega) (by first | exact (hT.alloc _).drew.size | exact ((hT.alloc _).alloc _).drew.size | exact hT.size | exact (hT.alloc _).size) ?_; intro A6 c6 w6 hown6 hg6 hat6; (first | have hr1 := recs_app (recs_d (games1r_alloc wr b y1 _ _)) hg6 (apart_new hR.out.o2 (by simp)) | have hr1 := recs_app (recs_d (games1e (wr.alloc _) b y1 _ (b := wr.heap.size + 1) (by simp))) hg6 (apart_new hR.out.o2 (by simp)) | skip); rw [hs2.out] at hown6 hat6 ⊢; have hT := R3.app2 (by first | exact (hT.alloc _).drew | exact ((hT.alloc _).alloc _).drew | exact hT | exact hT.alloc _) hown6 hg6 hat6; clear hown6 hg6 hat6)))
        all_goals (go_wp2_with fail; go_meet; exact ⟨A5, c5, A6, c6, rfl, rfl, hT⟩)
      case rest =>
        obtain ⟨A5, c5, A6, c6, rfl, rfl, hR5⟩ := hcut
        have hbel5 := Lib.hid hR5.out.below
        have q35 := (hbel5.out.cell (p := ⟨ba, off + (l.length - 1 - n) * 2, none⟩) hba4).trans q34
        have q45 := (hbel5.out.cell (p := ⟨ba, off + (l.length - 1 - n) * 2 + 1, none⟩) hba4).trans q44
        clear q2 q3 q4 q24
        go_wp2_with (at_builtin; refine wpList_append_recs ratedRow gEnc_len gEnc_one rfl _ _ rfl w4.heap.size A3 c3' (backL l n) rfl (hR5.out.alloc _).o3 _ 1 [(x2, y2)] rfl (games1r wc x2 y2 _) (by have h := hl3.out; simp; omega) (hR5.out.alloc _).size ?_; intro A7 c7 w7 hown7 hg7 hat7; rw [hs3.out] at hown7 hat7 ⊢; have hR7 := Lib.hid ((hR5.out.alloc _).app3 hown7 hg7 hat7); clear hown7 hg7 hat7)
        go_roundg (gk - 1)
        case measure => have := hgkH.out; omega
        case rel => exact ⟨n + 1, A5, c5, A6, c6, A7, c7, by have := hgkH.out; omega, by go_num, rfl, rfl, rfl, hR7⟩
    · have hge : l.length ≤ n := by omega
      have hbwr := Lib.hid (hbw4.out.trans (hR.out.below.mono hbw4.out.size))
      have hlr := Lib.hid (hlH.out.below hpos hbwr.out)
      have hp1 := Lib.hid (games_own hR.out.o1)
      have hp2 := Lib.hid (games_own hR.out.o2)
      have hp3 := Lib.hid (games_own hR.out.o3)
      have hv1 := Lib.hid (vld_mine hvH.out b0 b1 hn)
      have hv2 := Lib.hid (vld_yours hvH.out a0 a1 hn)
      have hv3 := Lib.hid (vld_back hvH.out hn)
      obtain ⟨s10, s11⟩ := balV_bd a _ hv1.out
      obtain ⟨s20, s21⟩ := balV_bd b _ hv2.out
      have hpq : (balV a (mineL b l n) + balV b (yoursL a l n) == 0) = true := by rw [bal_mine_yours]; rfl
      have hbk : (balV a (backL l n) == balV a l) = true := by
        rw [show n = l.length by omega, bal_back]; simp
      clear hR hbw4
      go_wp2_with fail
      refine (pBal_yes _ _ (mineL b l n) _ _ hlr.out hp1.out a0 a1 hv1.out).mono ?_
      rintro e w5 ⟨rfl, hb5⟩
      have hbw5 := Lib.hid (hbwr.out.trans (hb5.mono hbwr.out.size))
      have hl5 := Lib.hid (hlH.out.below hpos hbw5.out)
      have hp2 := Lib.hid ((hp2.out.below (Nat.le_refl _) hb5).more hb5.size)
      have hp3 := Lib.hid ((hp3.out.below (Nat.le_refl _) hb5).more hb5.size)
      clear hb5 hbwr hlr
      go_wp2_with fail
      refine (pBal_yes _ _ (yoursL a l n) _ _ hl5.out hp2.out b0 b1 hv2.out).mono ?_
      rintro e w6 ⟨rfl, hb6⟩
      have hbw6 := Lib.hid (hbw5.out.trans (hb6.mono hbw5.out.size))
      have hl6 := Lib.hid (hlH.out.below hpos hbw6.out)
      have hp3 := Lib.hid ((hp3.out.below (Nat.le_refl _) hb6).more hb6.size)
      clear hb6 hbw5 hl5
      go_wp2_with fail
      refine (pBal_yes _ _ (backL l n) _ _ hl6.out hp3.out a0 a1 hv3.out).mono ?_
      rintro e w7 ⟨rfl, hb7⟩
      have hbw7 := Lib.hid (hbw6.out.trans (hb7.mono hbw6.out.size))
      have hl7 := Lib.hid (hlH.out.below hpos hbw7.out)
      clear hb7 hbw6 hl6
      go_wp2_with (go_at_call 10; refine (pknown _ hl7.out).mono ?_; rintro e w8 ⟨rfl, hb8⟩)
      go_ret
      exact ⟨rfl, hbw7.out.trans (hb8.mono hbw7.out.size)⟩
end Go.Proofs.YtlmdmdjcokmgjaaDoor
