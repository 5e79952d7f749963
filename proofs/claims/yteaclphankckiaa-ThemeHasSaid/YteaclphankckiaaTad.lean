/- Layer 35: what a tree shows: the reference; themes looked for. -/
import Derived.Test.YteaclphankckiaaTac
import Derived.Test.YteaclphankckiaaTn
import Derived.Test.YteaclphankckiaaTr
namespace Go.Proofs.Yteaclphankckiaa
open Go Go.RowKit
set_option linter.unusedSimpArgs false
set_option linter.unusedVariables false

def shV (f q : Int) (bk : Bool) (t : List Nd) (i : Nat) (x : Nd) : Nat → Bool
  | 0 => s1 x
  | 1 => s2 x
  | 2 => s3 x (kin t i)
  | 3 => s4 (pth (back t (i + 1)))
  | 4 => s5 (pth (back t (i + 1)))
  | _ => s6 f q bk x (pth (back t (i + 1)))
def shP (f q : Int) (bk : Bool) (t : List Nd) (i : Nat) (x : Nd) : Nat → List Sh'
  | 0 => []
  | j + 1 => shP f q bk t i x j ++ addL (shV f q bk t i x j) ((j : Int) + 1) i
theorem shP_six (f q : Int) (bk : Bool) (t : List Nd) (i : Nat) (x : Nd) : shP f q bk t i x 6 = shL f q bk t i x := by
  simp only [shP, shL, shV, List.nil_append]
  rfl
theorem shP_len (f q : Int) (bk : Bool) (t : List Nd) (i : Nat) (x : Nd) : ∀ j, (shP f q bk t i x j).length ≤ j
  | 0 => Nat.le_refl _
  | j + 1 => by
    have ih := shP_len f q bk t i x j
    show (shP f q bk t i x j ++ addL (shV f q bk t i x j) ((j : Int) + 1) i).length ≤ _
    rw [List.length_append]
    have := addL_len (shV f q bk t i x j) ((j : Int) + 1) i
    omega
theorem rshow (f q : Int) (bk : Bool) (At : Option Addr) (t : List Nd) (ct i j : Nat) (x : Nd) (w : World) (hT : RecAt nEnc 4 w w.heap.size At t) (hl : t.length ≤ 990) (hz : szB f q = true) (hok : okK f q t t.length = true) (hx : t[i]? = some x) (hj : j < 6) :
    Calls Try.prog 38 #[.agg #[.int .i64 f, .int .i64 q], .bool bk, .slice At t.length ct, .int .i64 (i : Int), .int .i64 ((j : Int) + 1)] w fun e w' => e = .returned (.bool (shV f q bk t i x j)) ∧ Below w.heap.size w w' := by
  have h6 : j = 0 ∨ j = 1 ∨ j = 2 ∨ j = 3 ∨ j = 4 ∨ j = 5 := by omega
  rcases h6 with rfl | rfl | rfl | rfl | rfl | rfl
  · exact rshow1 f q bk At t ct i x w hT hl hz hok hx
  · exact rshow2 f q bk At t ct i x w hT hl hz hok hx
  · exact rshow3 f q bk At t ct i x w hT hl hz hok hx
  · exact rshow4 f q bk At t ct i x w hT hl hz hok hx
  · exact rshow5 f q bk At t ct i x w hT hl hz hok hx
  · exact rshow6 f q bk At t ct i x w hT hl hz hok hx
set_option maxRecDepth 100000 in
set_option maxHeartbeats 4000000 in
theorem rfind (f q : Int) (bk : Bool) (At : Option Addr) (t : List Nd) (ct : Nat) (w : World) (hT : RecAt nEnc 4 w w.heap.size At t) (hl : t.length ≤ 990) (hv : treeB f q t = true) :
    Calls Try.prog 16 #[.agg #[.int .i64 f, .int .i64 q], .bool bk, .slice At t.length ct] w fun e w' => ∃ A c, e = .returned (.slice A (fnd f q bk t t.length).length c) ∧ O1 shEnc 2 w.heap.size 52 w w' A c (fnd f q bk t t.length) := by
  obtain ⟨hz, hok⟩ := treeB_out hv
  have hS := Lib.hid (Sz2.new w f q 23)
  have hb1 : Hid (Below w.heap.size w (w.alloc (.cells #[.int .i64 f, .int .i64 q] 23))) := (Below.refl _ _).alloc (Nat.le_refl _) _
  have hs1 : w.heap.size < (w.alloc (.cells #[.int .i64 f, .int .i64 q] 23)).heap.size := by simp
  have hTW : Hid (∀ W, Below w.heap.size w W → RecAt nEnc 4 W W.heap.size At t) := fun W hb => (hT.below (Nat.le_refl _) hb).more hb.size
  have hokH := Lib.hid hok
  have hzH := Lib.hid hz
  clear hT hv hok hz
  go_enter Try.func16, Try.ntmps16
  go_upto_region 1 with fail
  generalize w.alloc (.cells #[.int .i64 f, .int .i64 q] 23) = w1 at *
  go_wp2_with fail
  go_loopw [7, 8] (fun s7 s8 wr => ∃ (i : Nat) (A : Option Addr) (c : Nat) (acc : List Sh'), i ≤ t.length ∧ s8 = .int .i64 i ∧ s7 = .slice A acc.length c ∧ Hid (acc = fnd f q bk t i) ∧ Hid (O1 shEnc 2 w1.heap.size 52 w1 wr A c acc)) (fun _ s8 _ => t.length - (intOf s8).toNat)
  case atStart => exact ⟨0, none, 0, [], Nat.zero_le _, rfl, rfl, rfl, O1.nil (Below.refl _ _) (Nat.le_refl _)⟩
  case round =>
    obtain ⟨i, A, c, acc, hi, rfl, rfl, hacc, hO⟩ := hrel
    have hal : acc.length ≤ 6 * i := by rw [hacc.out]; exact fnd_len f q bk t i
    by_cases hin : i < t.length
    · obtain ⟨x, hx⟩ : ∃ x, t[i]? = some x := ⟨_, List.getElem?_eq_getElem hin⟩
      have hiI : (i : Int) < (t.length : Int) := by omega
      have hi0 : (0 : Int) ≤ (i : Int) := Int.natCast_nonneg _
      have hsx := Lib.hid (fun (j : Nat) (W : World) (hb : Below w.heap.size w W) (hj : j < 6) => rshow f q bk At t ct i j x W (hTW.out W hb) hl hzH.out hokH.out hx hj)
      have hfs := Lib.hid (fnd_succ (f := f) (q := q) (bk := bk) hx)
      have hpl := Lib.hid (shP_len f q bk t i x)
      have hst : Hid (acc = fnd f q bk t i ++ shP f q bk t i x 0) := by show _ = _; rw [hacc.out]; exact (List.append_nil _).symm
      clear hx hacc
      generalize wr = wo at *
      go_wp2_with fail
      go_loopw [7, 9] (fun s7 s9 wr => ∃ (j : Nat) (A2 : Option Addr) (c2 : Nat) (acc2 : List Sh'), j ≤ 6 ∧ s9 = .int .i64 ((j : Int) + 1) ∧ s7 = .slice A2 acc2.length c2 ∧ acc2.length ≤ 6 * i + j ∧ Hid (acc2 = fnd f q bk t i ++ shP f q bk t i x j) ∧ Hid (O1 shEnc 2 w1.heap.size 52 w1 wr A2 c2 acc2)) (fun _ s9 _ => 7 - (intOf s9).toNat)
      case atStart => exact ⟨0, A, c, acc, Nat.zero_le _, rfl, rfl, by omega, hst, hO⟩
      case round =>
        clear hst hO hal
        obtain ⟨j, A2, c2, acc2, hj, rfl, rfl, hal2, ha2, hO2⟩ := hrel
        have hbw := Lib.hid (hb1.out.trans (hO2.out.below.mono (by omega)))
        have hj0 : (0 : Int) ≤ (j : Int) := Int.natCast_nonneg _
        by_cases hj6 : j < 6
        · have hjI : (j : Int) + 1 ≤ 6 := by omega
          have hjc : ((j + 1 : Nat) : Int) = (j : Int) + 1 := by omega
          have c0 := (hS.out.below hs1 hO2.out.below).c0
          have c1 := (hS.out.below hs1 hO2.out.below).c1
          cases hsv : shV f q bk t i x j with
          | false =>
            have ha3 : Hid (acc2 = fnd f q bk t i ++ shP f q bk t i x (j + 1)) := by
              show _ = fnd f q bk t i ++ (shP f q bk t i x j ++ addL (shV f q bk t i x j) ((j : Int) + 1) i)
              rw [hsv, addL_no]
              exact ha2.out
            replace hjc := Lib.hid hjc
            go_wp2_with (go_at_call 38; refine (hsx.out j wr hbw.out hj6).mono ?_; rw [hsv]; rintro e w5 ⟨rfl, hb5⟩; replace hO2 := Lib.hid (hO2.out.next hb5); clear hb5)
            go_roundw
            case rel => exact ⟨j + 1, A2, c2, acc2, by omega, by rw [hjc.out], rfl, by omega, ha3, hO2⟩
            case measure => simp [intOf]; omega
          | true =>
            obtain ⟨acc3, hac3⟩ : ∃ acc3, acc2 ++ [((j : Int) + 1, (i : Int))] = acc3 := ⟨_, rfl⟩
            have ha3 : Hid (acc3 = fnd f q bk t i ++ shP f q bk t i x (j + 1)) := by
              show _ = fnd f q bk t i ++ (shP f q bk t i x j ++ addL (shV f q bk t i x j) ((j : Int) + 1) i)
              rw [hsv, ← hac3, ha2.out, List.append_assoc]
              rfl
            have hal3 : acc3.length ≤ 6 * i + (j + 1) := by rw [← hac3, List.length_append, List.length_cons, List.length_nil]; omega
            replace hjc := Lib.hid hjc
            replace hac3 := Lib.hid hac3
            go_wp2_with (first
              | (go_at_call 38; refine (hsx.out j wr hbw.out hj6).mono ?_; rw [hsv]; rintro e w5 ⟨rfl, hb5⟩; replace hO2 := Lib.hid (hO2.out.next hb5); clear hb5)
              | (at_builtin; refine wpList_append_recs shRow shEnc_len shEnc_one rfl _ _ rfl w1.heap.size A2 c2 acc2 rfl (World.ownsRow.alloc hO2.out.own _) _ 1 [((j : Int) + 1, (i : Int))] rfl (recs_sh _ ((j : Int) + 1, (i : Int)) _ rfl) (by simp only [List.length_cons, List.length_nil]; omega) (hO2.out.alloc _).size ?_; intro A6 c6 w6 hown6 hg6 _; rw [hac3.out] at hown6 ⊢; have hO3 := Lib.hid ((hO2.out.alloc _).app hown6 hg6); clear hown6 hg6))
            go_roundw
            case rel => exact ⟨j + 1, A6, c6, acc3, by omega, by rw [hjc.out], rfl, hal3, ha3, hO3⟩
            case measure => simp [intOf]; omega
        · obtain rfl : j = 6 := by omega
          have ha3 : Hid (acc2 = fnd f q bk t (i + 1)) := by show _ = _; rw [hfs.out, ← shP_six]; exact ha2.out
          go_wp2_with fail
          go_roundw
          case rel => exact ⟨i + 1, A2, c2, acc2, by omega, by go_num, rfl, ha3, hO2⟩
          case measure => simp [intOf]; omega
    · have hie : i = t.length := by omega
      subst hie
      go_wp2_with fail
      go_ret
      refine ⟨A, c, ?_, ?_⟩
      · rw [← hacc.out]; rfl
      · rw [← hacc.out]; exact hO.out.lower (by omega) hb1.out
end Go.Proofs.Yteaclphankckiaa
