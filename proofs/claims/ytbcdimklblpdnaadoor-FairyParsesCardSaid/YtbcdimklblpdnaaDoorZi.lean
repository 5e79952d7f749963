/- Layer 27: index of the program: a letter is taken off the beginning. -/
import Derived.Test.YtbcdimklblpdnaaDoorZh
import Derived.Test.YtbcdimklblpdnaaDoorZc
import Derived.Test.YtbcdimklblpdnaaDoorYt
namespace Go.Proofs.YtbcdimklblpdnaaDoor
open Go Go.RowKit
set_option linter.unusedSimpArgs false
set_option linter.unusedVariables false
theorem ib_idx (c : UInt8) : ∀ l : List UInt8, Lib.indexByte l c = if l.idxOf c < l.length then ((l.idxOf c : Nat) : Int) else -1
  | [] => rfl
  | b :: l => by
    by_cases h : b = c
    · subst h
      show (if b == b then (0 : Int) else _) = _
      rw [if_pos (by simp)]
      simp
    · have hb : (b == c) = false := beq_eq_false_iff_ne.2 h
      show (if b == c then (0 : Int) else if Lib.indexByte l c == -1 then -1 else Lib.indexByte l c + 1) = _
      rw [hb, if_neg Bool.false_ne_true, ib_idx c l, show (b :: l).idxOf c = l.idxOf c + 1 by rw [List.idxOf_cons, hb]; rfl]
      by_cases hl : l.idxOf c < l.length
      · rw [if_pos hl, if_neg (by rw [beq_iff_eq]; omega), if_pos (by simp; omega)]
        simp
      · rw [if_neg hl, if_pos (by decide), if_neg (by simp; omega)]
set_option maxRecDepth 100000 in
set_option maxHeartbeats 1000000 in
theorem pindex (of_ w : List UInt8) (B : Nat) (W : World) (hof : of_.length ≤ 100) (hw : w.length ≤ 100000) (hC : C1 W B (.string (bsB w))) :
    Calls Tryd.prog 20 #[.pointer (some ⟨B, 0, none⟩), .string (bsB of_)] W fun e w' => e = .returned (.int .i64 (idxB of_ w).1) ∧ C1 w' B (.string (bsB (idxB of_ w).2)) ∧ Chg [B] W w' := by
  have hCH := Lib.hid hC
  obtain ⟨c0, f0, hlt⟩ := hC
  have hbsz := bs_size w
  cases w with
  | nil =>
    have hq : ((bsB []).toList == (ByteArray.mk #[]).toList) = true := by rw [show ByteArray.mk #[] = bsB [] from rfl]; simp
    have hnil : (ByteArray.mk #[]) = bsB [] := rfl
    go_enter Tryd.func20, Tryd.ntmps20
    go_wp2_with fail
    go_ret
    exact ⟨rfl, hCH.out, Chg.refl _ _⟩
  | cons c t =>
    have hq : ((bsB (c :: t)).toList == (ByteArray.mk #[]).toList) = false := by
      rw [ByteArray.toList_eq, ByteArray.toList_eq]; rfl
    have hem : (bsB (c :: t)).toList.isEmpty = false := by rw [ByteArray.toList_eq]; rfl
    have hi0 : ∀ (h : 0 < (bsB (c :: t)).size), (bsB (c :: t))[0]'h = c := fun h => rfl
    have hext : (bsB (c :: t)).extract 1 ((bsB (c :: t)).size) = bsB t := by
      apply ByteArray.ext
      rw [ByteArray.data_extract, bs_size]
      simp [bsB, List.extract_toArray, List.extract_eq_take_drop]
    have hext2 : (bsB (c :: t)).extract 1 (t.length + 1) = bsB t := by
      rw [bs_size] at hext
      exact hext
    have hib : Hid (∀ W, Calls Tryd.prog 39 #[.string (bsB of_), .int .u8 (c.toNat : Int)] W fun e w' => e = .returned (.int .i64 (if of_.idxOf c < of_.length then ((of_.idxOf c : Nat) : Int) else -1)) ∧ W = w') := fun W => by
      refine (sh_strings_IndexByte (bsB of_) (c.toNat : Int) W).mono ?_
      rintro e w' ⟨rfl, h⟩
      refine ⟨?_, h.symm⟩
      rw [show (bsB of_).data.toList = of_ from rfl, show ((c.toNat : Int)).toNat.toUInt8 = c by simp, ib_idx]
    have hst : Hid (idxB of_ (c :: t) = if 0 < of_.idxOf c ∧ of_.idxOf c < of_.length then (((of_.idxOf c : Nat) : Int), t) else (0, c :: t)) := rfl
    obtain ⟨I, hI⟩ : ∃ I, of_.idxOf c = I := ⟨_, rfl⟩
    rw [hI] at hib hst
    clear hI hext
    by_cases hg : 0 < I ∧ I < of_.length
    · rw [if_pos hg.2] at hib
      rw [if_pos hg] at hst
      have q1 : ((0 : Int) < (I : Int)) = True := eq_true (by omega)
      have q1n : (0 < I) = True := eq_true hg.1
      have hII : (I : Int) ≤ 100 := by omega
      clear hg
      have hC2 : Hid (C1 (W.setCell ⟨B, 0, none⟩ (.string (bsB t))) B (.string (bsB t))) := ⟨World.cell?_setCell_same' _ _ _ (by rw [c0]; rfl), by rw [World.frozen?_setCell]; exact f0, by rw [nblk_set]; exact hlt⟩
      go_enter Tryd.func20, Tryd.ntmps20
      go_wp2_with (go_at_call 39; refine (hib.out _).mono ?_; rintro e w2 ⟨rfl, rfl⟩)
      go_ret
      exact ⟨by rw [hst.out]; rfl, by rw [hst.out]; exact hC2.out, (Chg.refl _ _).setCell (by simp) _ _⟩
    · obtain ⟨J, hJ, hJ0⟩ : ∃ J : Int, (if I < of_.length then (I : Int) else -1) = J ∧ ¬ 0 < J := by
        refine ⟨_, rfl, ?_⟩
        split <;> omega
      rw [hJ] at hib
      rw [if_neg hg] at hst
      have q1 : ((0 : Int) < J) = False := eq_false hJ0
      clear hg hJ hJ0
      go_enter Tryd.func20, Tryd.ntmps20
      go_wp2_with (go_at_call 39; refine (hib.out _).mono ?_; rintro e w2 ⟨rfl, rfl⟩)
      go_ret
      exact ⟨by rw [hst.out]; rfl, by rw [hst.out]; exact hCH.out, Chg.refl _ _⟩
end Go.Proofs.YtbcdimklblpdnaaDoor
