/- Layer 45: the law on the new rating, walked by cases. -/
import Derived.Test.YtlmdmdjcokmgjaaDoorRl
import Derived.Test.YtlmdmdjcokmgjaaDoorOw
namespace Go.Proofs.YtlmdmdjcokmgjaaDoor
open Go.RowKit
set_option linter.unusedSimpArgs false
set_option linter.unusedVariables false

def gEnc (g : Int × Int) : List Value := [.int .i64 g.1, .int .i64 g.2]
theorem gEnc_len (g : Int × Int) : (gEnc g).length = 2 := rfl
theorem gEnc_one (g : Int × Int) : ∀ u ∈ gEnc g, u.oneCell' = true := by
  intro u hu
  simp only [gEnc, List.mem_cons, List.not_mem_nil, or_false] at hu
  rcases hu with rfl | rfl <;> rfl
theorem ratedRow : RowOf Tryd.prog 29 31 2 16 :=
  RowOf.mk' (z := .agg #[.int .i64 0, .int .i64 0]) Tryd.underlying29 (by kernel_rfl) (by decide) (by decide) rfl
theorem gameAt_get {l : List (Int × Int)} {k : Nat} (hk : k < l.length) : l[k]? = some (gameAt l k) := by
  unfold gameAt
  rw [List.getD, List.getElem?_eq_getElem hk]
  rfl
theorem recs_of_games {w : World} {B : Nat} {A : Option Addr} {l : List (Int × Int)} (h : GamesAt w B A l) : RecAt gEnc 2 w B A l := by
  intro hl
  obtain ⟨b, off, e, hb, hc⟩ := h hl
  refine ⟨b, off, e, hb, fun k x hk j u hu => ?_⟩
  have hkl : k < l.length := (List.getElem?_eq_some_iff.1 hk).1
  have hx : x = gameAt l k := Option.some.inj (hk.symm.trans (gameAt_get hkl))
  subst hx
  have h2 := hc k hkl
  match j, hu with
  | 0, hu => rw [show u = .int .i64 (gameAt l k).1 from (Option.some.inj hu).symm]; exact h2.1
  | 1, hu => rw [show u = .int .i64 (gameAt l k).2 from (Option.some.inj hu).symm]; exact h2.2
  | (j + 2), hu => simp [gEnc] at hu
theorem games_of_recs {w : World} {B : Nat} {A : Option Addr} {l : List (Int × Int)} (h : RecAt gEnc 2 w B A l) : GamesAt w B A l := by
  intro hl
  obtain ⟨b, off, e, hb, hc⟩ := h hl
  exact ⟨b, off, e, hb, fun k hk => ⟨hc k _ (gameAt_get hk) 0 _ rfl, hc k _ (gameAt_get hk) 1 _ rfl⟩⟩
theorem games_own {w : World} {base : Nat} {e : TypeId} {A : Option Addr} {c : Nat} {l : List (Int × Int)} (h : w.ownsRow base e 2 (.slice A l.length c) l.length (flatR gEnc l)) : GamesAt w w.heap.size A l :=
  games_of_recs (RecAt.of_own gEnc_len rfl h)
theorem below_none {w w' : World} (hg : w.grownBy w' none) : Below w.heap.size w w' := (Below.refl _ _).grown hg (Nat.le_refl _) (fun k h => by cases h)
theorem below_own {w w1 w2 : World} {base : Nat} {e : TypeId} {v : Value} {n : Nat} {xs : List Value} (hb : Below base w w1) (hown : w1.ownsRow base e 2 v n xs) (hg : w1.grownBy w2 v.ownBlock) (hs : base ≤ w1.heap.size) : Below base w w2 :=
  hb.grown hg hs (fun k hk => (hown.lt k hk).1)

/-- the list with copies of its first game behind it -/
def extL (l : List (Int × Int)) (n : Nat) : List (Int × Int) := l ++ List.replicate n (gameAt l 0)
theorem extL_zero (l : List (Int × Int)) : extL l 0 = l := by simp [extL]
theorem extL_length (l : List (Int × Int)) (n : Nat) : (extL l n).length = l.length + n := by simp [extL]
theorem extL_succ (l : List (Int × Int)) (n : Nat) (g : Int × Int) (h : gameAt l 0 = g) : extL l n ++ [g] = extL l (n + 1) := by
  subst h
  unfold extL
  rw [List.append_assoc, ← List.replicate_succ']
def lenV : Value → Nat
  | .slice _ n _ => n
  | _ => 0
theorem games1r (w : World) (x y : Int) (t : TypeId) : RecAt gEnc 2 (w.alloc (.cells #[.int .i64 x, .int .i64 y] t)) (w.alloc (.cells #[.int .i64 x, .int .i64 y] t)).heap.size (some ⟨w.heap.size, 0, none⟩) [(x, y)] := recs_of_games (games1 w x y t)

set_option maxRecDepth 100000 in
set_option maxHeartbeats 4000000 in
theorem law_nexts_low (r k many : Int) (A : Option Addr) (l : List (Int × Int)) (c : Nat) (w : World) (hl : LimsAt w) (hg : GamesAt w w.heap.size A l) (hm : l.length ≤ 20) (h1 : many < 190) : Calls Tryd.prog 4 #[.int .i64 r, .int .i64 k, .slice A l.length c, .int .i64 many] w fun e w' => e = .returned (.bool true) ∧ Below w.heap.size w w' := by
  have hpos := hl.pos
  have hlH := Lib.hid hl
  have hgH := Lib.hid hg
  clear hl hg
  go_enter Tryd.func4, Tryd.ntmps4
  go_wp2_with (first | (at_builtin; refine wpList_append_recs ratedRow gEnc_len gEnc_one rfl _ _ rfl w.heap.size none 0 [] rfl owns_nil A c l rfl (recs_of_games hgH.out) (by simp; omega) (Nat.le_refl _) ?_; intro A1 c1 w1 hown1 hg1 _; simp only [List.nil_append] at hown1 ⊢; have hbH1 := Lib.hid (below_none hg1); have hownH := Lib.hid hown1; clear hg1 hown1) | (at_builtin; refine wpList_append_recs ratedRow gEnc_len gEnc_one rfl _ _ rfl w1.heap.size none 0 [] rfl owns_nil A1 c1 l rfl (RecAt.of_own gEnc_len rfl hownH.out) (by simp; omega) (Nat.le_refl _) ?_; intro A2 c2 w2 hown2 hg2 _; simp only [List.nil_append] at hown2 ⊢; have hownH2 := Lib.hid hown2; have hb2 := Lib.hid (below_none hg2); clear hg2 hown2))
  have hgA := Lib.hid ((games_own hownH.out).below (Nat.le_refl _) hb2.out)
  have hgB := Lib.hid (games_own hownH2.out)
  have hbw := Lib.hid (hbH1.out.trans (hb2.out.mono hbH1.out.size))
  have hgA := Lib.hid (hgA.out.more hb2.out.size)
  clear hownH hownH2 hb2 hbH1
  have hlw := Lib.hid (hlH.out.below hpos hbw.out)
  rcases inB_or r 0 4000 with ⟨r0, r1, hr⟩ | hr
  · cases hv : vldG (l)
    · refine (pBal_no _ _ (l) _ _ hgA.out (by unfold maxLen; omega) (.inr hv)).mono ?_
      rintro e w3 ⟨rfl, hb3⟩
      have hga := Lib.hid ((hgA.out.below (Nat.le_refl _) hb3).more hb3.size)
      have hgb := Lib.hid ((hgB.out.below (Nat.le_refl _) hb3).more hb3.size)
      have hbw3 := Lib.hid (hbw.out.trans (hb3.mono hbw.out.size))
      have hlw3 := Lib.hid (hlH.out.below hpos hbw3.out)
      clear hb3 hgA hgB
      go_wp2_with fail
      refine (pNext_no _ _ _ (l) _ _ hga.out (by unfold maxLen; omega) (.inr (.inr hv))).mono ?_
      rintro e w4 ⟨rfl, hb4⟩
      have hga := Lib.hid ((hga.out.below (Nat.le_refl _) hb4).more hb4.size)
      have hgb := Lib.hid ((hgb.out.below (Nat.le_refl _) hb4).more hb4.size)
      have hbw4 := Lib.hid (hbw3.out.trans (hb4.mono hbw3.out.size))
      clear hb4 hbw3 hlw3
      go_wp2_with fail
      go_loopw [15] (fun i wr => ∃ q : Nat, q ≤ (l).length ∧ i = .int .i64 q ∧ Below w4.heap.size w4 wr) (fun i _ => (l).length - (intOf i).toNat)
      case atStart => exact ⟨0, by omega, rfl, Below.refl _ _⟩
      case round =>
        obtain ⟨q, hq, rfl, hbr⟩ := hrel
        have hbrH := Lib.hid hbr
        clear hbr
        by_cases hlt : q < (l).length
        · obtain ⟨ba, oa, rfl, hba, hca⟩ := hga.out (by omega)
          obtain ⟨bb, ob, rfl, hbb, hcb⟩ := hgb.out (by omega)
          have ca1 := (hbrH.out.cell (p := ⟨ba, oa + q * 2, none⟩) hba).trans (hca q hlt).1
          have ca2 := (hbrH.out.cell (p := ⟨ba, oa + q * 2 + 1, none⟩) hba).trans (hca q hlt).2
          have cb1 := (hbrH.out.cell (p := ⟨bb, ob + q * 2, none⟩) hbb).trans (hcb q hlt).1
          have cb2 := (hbrH.out.cell (p := ⟨bb, ob + q * 2 + 1, none⟩) hbb).trans (hcb q hlt).2
          have hi0 : (0 : Int) ≤ (q : Int) := Int.natCast_nonneg _
          have hi1 : (q : Int) < ((l).length : Int) := by omega
          clear hca hcb
          generalize gameAt (l) q = g at *
          obtain ⟨x, y⟩ := g
          go_wp2
          go_quiet (fail)
          go_wp2
          go_roundw
          case rel => exact ⟨q + 1, by omega, by go_num, below_drewN hbrH.out _⟩
          case measure => simp [intOf]; omega
        · have hge : (l).length ≤ q := by omega
          have hbwr := Lib.hid (hbw4.out.trans (hbrH.out.mono hbw4.out.size))
          have hgr := Lib.hid ((hga.out.below (Nat.le_refl _) hbrH.out).more hbrH.out.size)
          have hlr := Lib.hid (hlH.out.below hpos hbwr.out)
          clear hga hgb hbrH hbw4
          go_wp2_with (first | (go_at_call 9; refine (rrat _ _).mono ?_; rintro e w' ⟨rfl, rfl⟩) | (go_at_call 14; refine (rvalid _ (l) _ _ hgr.out (by unfold maxLen; omega)).mono ?_; rintro e w' ⟨rfl, rfl⟩) | (go_at_call 10; refine (pknown _ hlr.out).mono ?_; rintro e w5 ⟨rfl, hb5⟩))
          go_ret
          exact ⟨rfl, hbwr.out.trans (hb5.mono hbwr.out.size)⟩
    · have hvH := Lib.hid hv
      rcases inB_or k 1 60 with ⟨k0, k1, hk⟩ | hk
      · refine (pBal_yes _ _ (l) _ _ hlw.out hgA.out r0 r1 hvH.out).mono ?_
        rintro e w3 ⟨rfl, hb3⟩
        have hga := Lib.hid ((hgA.out.below (Nat.le_refl _) hb3).more hb3.size)
        have hgb := Lib.hid ((hgB.out.below (Nat.le_refl _) hb3).more hb3.size)
        have hbw3 := Lib.hid (hbw.out.trans (hb3.mono hbw.out.size))
        have hlw3 := Lib.hid (hlH.out.below hpos hbw3.out)
        clear hb3 hgA hgB
        go_wp2_with fail
        refine (pNext_yes _ _ _ (l) _ _ hlw3.out hga.out r0 r1 k0 k1 hvH.out).mono ?_
        rintro e w4 ⟨rfl, hb4⟩
        have hga := Lib.hid ((hga.out.below (Nat.le_refl _) hb4).more hb4.size)
        have hgb := Lib.hid ((hgb.out.below (Nat.le_refl _) hb4).more hb4.size)
        have hbw4 := Lib.hid (hbw3.out.trans (hb4.mono hbw3.out.size))
        clear hb4 hbw3 hlw3
        go_wp2_with fail
        go_loopw [15] (fun i wr => ∃ q : Nat, q ≤ (l).length ∧ i = .int .i64 q ∧ Below w4.heap.size w4 wr) (fun i _ => (l).length - (intOf i).toNat)
        case atStart => exact ⟨0, by omega, rfl, Below.refl _ _⟩
        case round =>
          obtain ⟨q, hq, rfl, hbr⟩ := hrel
          have hbrH := Lib.hid hbr
          clear hbr
          by_cases hlt : q < (l).length
          · obtain ⟨ba, oa, rfl, hba, hca⟩ := hga.out (by omega)
            obtain ⟨bb, ob, rfl, hbb, hcb⟩ := hgb.out (by omega)
            have ca1 := (hbrH.out.cell (p := ⟨ba, oa + q * 2, none⟩) hba).trans (hca q hlt).1
            have ca2 := (hbrH.out.cell (p := ⟨ba, oa + q * 2 + 1, none⟩) hba).trans (hca q hlt).2
            have cb1 := (hbrH.out.cell (p := ⟨bb, ob + q * 2, none⟩) hbb).trans (hcb q hlt).1
            have cb2 := (hbrH.out.cell (p := ⟨bb, ob + q * 2 + 1, none⟩) hbb).trans (hcb q hlt).2
            have hi0 : (0 : Int) ≤ (q : Int) := Int.natCast_nonneg _
            have hi1 : (q : Int) < ((l).length : Int) := by omega
            clear hca hcb
            generalize gameAt (l) q = g at *
            obtain ⟨x, y⟩ := g
            go_wp2
            go_quiet (fail)
            go_wp2
            go_roundw
            case rel => exact ⟨q + 1, by omega, by go_num, below_drewN hbrH.out _⟩
            case measure => simp [intOf]; omega
          · have hge : (l).length ≤ q := by omega
            have hbwr := Lib.hid (hbw4.out.trans (hbrH.out.mono hbw4.out.size))
            have hgr := Lib.hid ((hga.out.below (Nat.le_refl _) hbrH.out).more hbrH.out.size)
            have hlr := Lib.hid (hlH.out.below hpos hbwr.out)
            clear hga hgb hbrH hbw4
            go_wp2_with (first | (go_at_call 9; refine (rrat _ _).mono ?_; rintro e w' ⟨rfl, rfl⟩) | (go_at_call 14; refine (rvalid _ (l) _ _ hgr.out (by unfold maxLen; omega)).mono ?_; rintro e w' ⟨rfl, rfl⟩))
            refine (rbal _ _ (l) _ _ hgr.out r0 r1 hvH.out).mono ?_
            rintro e w6 ⟨rfl, hb6⟩
            have hbw6 := Lib.hid (hbwr.out.trans (hb6.mono hbwr.out.size))
            have hl6 := Lib.hid (hlH.out.below hpos hbw6.out)
            have hg6 := Lib.hid ((hgr.out.below (Nat.le_refl _) hb6).more hb6.size)
            clear hb6
            go_wp2_with fail
            refine (rnext _ _ _ (l) _ _ hg6.out r0 r1 k0 k1 hvH.out).mono ?_
            rintro e w7 ⟨rfl, hb7⟩
            have hbw7 := Lib.hid (hbw6.out.trans (hb7.mono hbw6.out.size))
            have hl7 := Lib.hid (hlH.out.below hpos hbw7.out)
            clear hb7
            go_wp2_with ((go_at_call 10; refine (pknown _ hl7.out).mono ?_; rintro e w5 ⟨rfl, hb5⟩))
            go_ret
            exact ⟨rfl, hbw7.out.trans (hb5.mono hbw7.out.size)⟩
      · rcases (by unfold inB at hk; simp at hk; omega : k < 1 ∨ (1 ≤ k ∧ 60 < k)) with hk1 | ⟨hk1, hk2⟩
        all_goals
          refine (pBal_yes _ _ (l) _ _ hlw.out hgA.out r0 r1 hvH.out).mono ?_
          rintro e w3 ⟨rfl, hb3⟩
          have hga := Lib.hid ((hgA.out.below (Nat.le_refl _) hb3).more hb3.size)
          have hgb := Lib.hid ((hgB.out.below (Nat.le_refl _) hb3).more hb3.size)
          have hbw3 := Lib.hid (hbw.out.trans (hb3.mono hbw.out.size))
          have hlw3 := Lib.hid (hlH.out.below hpos hbw3.out)
          clear hb3 hgA hgB
          go_wp2_with fail
          refine (pNext_no _ _ _ (l) _ _ hga.out (by unfold maxLen; omega) (.inr (.inl hk))).mono ?_
          rintro e w4 ⟨rfl, hb4⟩
          have hga := Lib.hid ((hga.out.below (Nat.le_refl _) hb4).more hb4.size)
          have hgb := Lib.hid ((hgb.out.below (Nat.le_refl _) hb4).more hb4.size)
          have hbw4 := Lib.hid (hbw3.out.trans (hb4.mono hbw3.out.size))
          clear hb4 hbw3 hlw3
          go_wp2_with fail
          go_loopw [15] (fun i wr => ∃ q : Nat, q ≤ (l).length ∧ i = .int .i64 q ∧ Below w4.heap.size w4 wr) (fun i _ => (l).length - (intOf i).toNat)
          case atStart => exact ⟨0, by omega, rfl, Below.refl _ _⟩
          case round =>
            obtain ⟨q, hq, rfl, hbr⟩ := hrel
            have hbrH := Lib.hid hbr
            clear hbr
            by_cases hlt : q < (l).length
            · obtain ⟨ba, oa, rfl, hba, hca⟩ := hga.out (by omega)
              obtain ⟨bb, ob, rfl, hbb, hcb⟩ := hgb.out (by omega)
              have ca1 := (hbrH.out.cell (p := ⟨ba, oa + q * 2, none⟩) hba).trans (hca q hlt).1
              have ca2 := (hbrH.out.cell (p := ⟨ba, oa + q * 2 + 1, none⟩) hba).trans (hca q hlt).2
              have cb1 := (hbrH.out.cell (p := ⟨bb, ob + q * 2, none⟩) hbb).trans (hcb q hlt).1
              have cb2 := (hbrH.out.cell (p := ⟨bb, ob + q * 2 + 1, none⟩) hbb).trans (hcb q hlt).2
              have hi0 : (0 : Int) ≤ (q : Int) := Int.natCast_nonneg _
              have hi1 : (q : Int) < ((l).length : Int) := by omega
              clear hca hcb
              generalize gameAt (l) q = g at *
              obtain ⟨x, y⟩ := g
              go_wp2
              go_quiet (fail)
              go_wp2
              go_roundw
              case rel => exact ⟨q + 1, by omega, by go_num, below_drewN hbrH.out _⟩
              case measure => simp [intOf]; omega
            · have hge : (l).length ≤ q := by omega
              have hbwr := Lib.hid (hbw4.out.trans (hbrH.out.mono hbw4.out.size))
              have hgr := Lib.hid ((hga.out.below (Nat.le_refl _) hbrH.out).more hbrH.out.size)
              have hlr := Lib.hid (hlH.out.below hpos hbwr.out)
              clear hga hgb hbrH hbw4
              go_wp2_with (first | (go_at_call 9; refine (rrat _ _).mono ?_; rintro e w' ⟨rfl, rfl⟩) | (go_at_call 14; refine (rvalid _ (l) _ _ hgr.out (by unfold maxLen; omega)).mono ?_; rintro e w' ⟨rfl, rfl⟩))
              refine (rbal _ _ (l) _ _ hgr.out r0 r1 hvH.out).mono ?_
              rintro e w6 ⟨rfl, hb6⟩
              have hbw6 := Lib.hid (hbwr.out.trans (hb6.mono hbwr.out.size))
              have hl6 := Lib.hid (hlH.out.below hpos hbw6.out)
              have hg6 := Lib.hid ((hgr.out.below (Nat.le_refl _) hb6).more hb6.size)
              clear hb6
              go_wp2_with ((go_at_call 10; refine (pknown _ hl6.out).mono ?_; rintro e w5 ⟨rfl, hb5⟩))
              go_ret
              exact ⟨rfl, hbw6.out.trans (hb5.mono hbw6.out.size)⟩
  · refine (pBal_no _ _ (l) _ _ hgA.out (by unfold maxLen; omega) (.inl hr)).mono ?_
    rintro e w3 ⟨rfl, hb3⟩
    have hga := Lib.hid ((hgA.out.below (Nat.le_refl _) hb3).more hb3.size)
    have hgb := Lib.hid ((hgB.out.below (Nat.le_refl _) hb3).more hb3.size)
    have hbw3 := Lib.hid (hbw.out.trans (hb3.mono hbw.out.size))
    have hlw3 := Lib.hid (hlH.out.below hpos hbw3.out)
    clear hb3 hgA hgB
    go_wp2_with fail
    refine (pNext_no _ _ _ (l) _ _ hga.out (by unfold maxLen; omega) (.inl hr)).mono ?_
    rintro e w4 ⟨rfl, hb4⟩
    have hga := Lib.hid ((hga.out.below (Nat.le_refl _) hb4).more hb4.size)
    have hgb := Lib.hid ((hgb.out.below (Nat.le_refl _) hb4).more hb4.size)
    have hbw4 := Lib.hid (hbw3.out.trans (hb4.mono hbw3.out.size))
    clear hb4 hbw3 hlw3
    go_wp2_with fail
    go_loopw [15] (fun i wr => ∃ q : Nat, q ≤ (l).length ∧ i = .int .i64 q ∧ Below w4.heap.size w4 wr) (fun i _ => (l).length - (intOf i).toNat)
    case atStart => exact ⟨0, by omega, rfl, Below.refl _ _⟩
    case round =>
      obtain ⟨q, hq, rfl, hbr⟩ := hrel
      have hbrH := Lib.hid hbr
      clear hbr
      by_cases hlt : q < (l).length
      · obtain ⟨ba, oa, rfl, hba, hca⟩ := hga.out (by omega)
        obtain ⟨bb, ob, rfl, hbb, hcb⟩ := hgb.out (by omega)
        have ca1 := (hbrH.out.cell (p := ⟨ba, oa + q * 2, none⟩) hba).trans (hca q hlt).1
        have ca2 := (hbrH.out.cell (p := ⟨ba, oa + q * 2 + 1, none⟩) hba).trans (hca q hlt).2
        have cb1 := (hbrH.out.cell (p := ⟨bb, ob + q * 2, none⟩) hbb).trans (hcb q hlt).1
        have cb2 := (hbrH.out.cell (p := ⟨bb, ob + q * 2 + 1, none⟩) hbb).trans (hcb q hlt).2
        have hi0 : (0 : Int) ≤ (q : Int) := Int.natCast_nonneg _
        have hi1 : (q : Int) < ((l).length : Int) := by omega
        clear hca hcb
        generalize gameAt (l) q = g at *
        obtain ⟨x, y⟩ := g
        go_wp2
        go_quiet (fail)
        go_wp2
        go_roundw
        case rel => exact ⟨q + 1, by omega, by go_num, below_drewN hbrH.out _⟩
        case measure => simp [intOf]; omega
      · have hge : (l).length ≤ q := by omega
        have hbwr := Lib.hid (hbw4.out.trans (hbrH.out.mono hbw4.out.size))
        have hgr := Lib.hid ((hga.out.below (Nat.le_refl _) hbrH.out).more hbrH.out.size)
        have hlr := Lib.hid (hlH.out.below hpos hbwr.out)
        clear hga hgb hbrH hbw4
        go_wp2_with (first | (go_at_call 9; refine (rrat _ _).mono ?_; rintro e w' ⟨rfl, rfl⟩) | (go_at_call 10; refine (pknown _ hlr.out).mono ?_; rintro e w5 ⟨rfl, hb5⟩))
        go_ret
        exact ⟨rfl, hbwr.out.trans (hb5.mono hbwr.out.size)⟩
end Go.Proofs.YtlmdmdjcokmgjaaDoor
