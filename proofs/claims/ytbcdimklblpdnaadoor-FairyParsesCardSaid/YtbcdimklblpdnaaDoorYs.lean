/- Layer 27: the walk with the second visitor: the set of the squares that are reached. -/
import Derived.Test.YtbcdimklblpdnaaDoorYr
namespace Go.Proofs.YtbcdimklblpdnaaDoor
open Go Go.RowKit
set_option linter.unusedSimpArgs false
set_option linter.unusedVariables false
/-- the set of some squares -/
def orL (l : List Int) : Nat := l.foldl (fun o q => o ||| 2 ^ q.toNat) 0
theorem orL_snoc (l : List Int) (q : Int) : orL (l ++ [q]) = orL l ||| 2 ^ q.toNat := by unfold orL; rw [List.foldl_append]; rfl
/-- how many squares are left -/
def mRel (k : Nat) (m : Int) (left : Nat) : Prop := (1 ≤ m ∧ m ≤ 8 ∧ (left : Int) = m) ∨ (m ≤ 0 ∧ -(k : Int) ≤ m ∧ (left : Int) = 8 + m)
theorem VS.next {w w' : World} {BP BO BM : Nat} {p m : Int} {o : Nat} (h : VS w BP BO BM p o m) (hP : BP < w.heap.size) (hO : BO < w.heap.size) (hM : BM < w.heap.size) (hb : Below w.heap.size w w') : VS w' BP BO BM p o m := by
  have fr : ∀ (b i : Nat), b < w.heap.size → w'.frozen? ⟨b, i, none⟩ = w.frozen? ⟨b, i, none⟩ := fun b i hb2 => by
    simp only [World.frozen?]
    rw [hb.block b hb2]
  exact ⟨(hb.cell (p := ⟨BP, 0, none⟩) hP).trans h.p0, (hb.cell (p := ⟨BO, 0, none⟩) hO).trans h.o0, (hb.cell (p := ⟨BM, 0, none⟩) hM).trans h.m0, (fr BP 0 hP).trans h.fp, (fr BO 0 hO).trans h.fo, (fr BM 0 hM).trans h.fm, h.po, h.pm, h.om⟩
/-- what is still to come -/
def InvV (f r a : Nat) (sf sr : Int) (ps : List Int) (BP BO BM : Nat) (m0 : Int) (FL : List Int) (W0 : World) (k : Nat) (W : World) : Prop :=
  Chg [BP, BO, BM] W0 W ∧ k ≤ 8 ∧
  ((∃ n, k + n = 8 ∧ VS W BP BO BM 1 0 m0 ∧ hurF f r a sf sr ps n (k + 1) = hurV f r a sf sr ps ∧ ∃ left, mRel 0 m0 left ∧ FL = if hurV f r a sf sr ps = 0 then [] else linF f r a sf sr ps 9 left (hurV f r a sf sr ps + 1))
   ∨ (∃ (acc : List Int) (n left : Nat) (m : Int), VS W BP BO BM 0 (orL acc) m ∧ orL acc < 18446744073709551616 ∧ 9 ≤ n + k ∧ mRel k m left ∧ acc ++ linF f r a sf sr ps n left (k + 1) = FL))
def FinV (BO : Nat) (FL : List Int) (W : World) : Prop := W.cell? ⟨BO, 0, none⟩ = some (.int .u64 (orL FL : Nat)) ∧ orL FL < 18446744073709551616
section
variable {f r a : Nat} {sf sr : Int} {ps : List Int}
theorem inv_vis (h : Dir f r a sf sr ps) {BB BP BO BM : Nat} {P : Option Addr} {c N0 : Nat} {m : Int} {FL : List Int} {w : World} (hX : KBd w BB f r P ps.length c) (hP : RecAt pEnc 1 w N0 P ps) (hN : N0 ≤ w.heap.size ∧ N0 ≤ BP ∧ N0 ≤ BO ∧ N0 ≤ BM) (hB : BB ∉ [BP, BO, BM])
    (k : Nat) (W : World) (hI : InvV f r a sf sr ps BP BO BM m FL w k W) (hz : 0 ≤ sqK f r a sf sr (k + 1)) :
    Calls Tryd.prog 70 #[.int .i64 (sqK f r a sf sr (k + 1)), .pointer (some ⟨BP, 0, none⟩), .pointer (some ⟨BB, 0, none⟩), .pointer (some ⟨BO, 0, none⟩), .pointer (some ⟨BM, 0, none⟩)] W fun e w' => Chg [BP, BO, BM] W w' ∧ ((e = .returned (.bool true) ∧ InvV f r a sf sr ps BP BO BM m FL w (k + 1) w') ∨ (e = .returned (.bool false) ∧ FinV BO FL w')) := by
  obtain ⟨hC, hk8, hI⟩ := hI
  have hk7 : k + 1 ≤ 7 := by
    apply Nat.le_of_lt_succ
    apply Nat.lt_of_not_le
    intro h8
    exact h.far h8 hz
  have hzl := h.lt hz
  rw [← h.len] at hzl
  have hl64 : ps.length ≤ 64 := by rw [h.len]; exact Nat.mul_le_mul h.f1 h.r1
  have hstepH : ∀ n, hurF f r a sf sr ps (n + 1) (k + 1) = if ps.getD (sqK f r a sf sr (k + 1)).toNat 0 = 0 then hurF f r a sf sr ps n (k + 1 + 1) else k + 1 := fun n => by
    show (if 0 ≤ sqK f r a sf sr (k + 1) then (if ps.getD (sqK f r a sf sr (k + 1)).toNat 0 = 0 then hurF f r a sf sr ps n (k + 1 + 1) else k + 1) else 0) = _
    rw [if_pos hz]
  have hstepL : ∀ n left, left ≠ 0 → linF f r a sf sr ps (n + 1) left (k + 1) = sqK f r a sf sr (k + 1) :: (if ps.getD (sqK f r a sf sr (k + 1)).toNat 0 = 0 then linF f r a sf sr ps n (left - 1) (k + 1 + 1) else []) := fun n left hl => by
    show (if left = 0 then [] else if 0 ≤ sqK f r a sf sr (k + 1) then sqK f r a sf sr (k + 1) :: (if ps.getD (sqK f r a sf sr (k + 1)).toNat 0 = 0 then linF f r a sf sr ps n (left - 1) (k + 1 + 1) else []) else []) = _
    rw [if_neg hl, if_pos hz]
  obtain ⟨z, hzz⟩ := Int.eq_ofNat_of_zero_le hz
  rw [hzz] at hzl hstepH hstepL ⊢
  have hzl2 : z < ps.length := by omega
  obtain ⟨pc, hpc⟩ : ∃ pc, ps[z]? = some pc := ⟨_, List.getElem?_eq_getElem hzl2⟩
  have hgd : ps.getD ((z : Int).toNat) 0 = pc := by rw [Int.toNat_natCast, List.getD_eq_getElem?_getD, hpc]; rfl
  obtain ⟨bk, off, hPA, hbk, hc⟩ := recP hP hpc
  have hbn : bk ∉ [BP, BO, BM] := by
    intro hm
    simp only [List.mem_cons, List.not_mem_nil, or_false] at hm
    omega
  have hc2 := (hC.cell (p := ⟨bk, off + z, none⟩) (by show bk < _; omega) hbn).trans hc
  have hX2 := hX.chg hC hB
  rw [hgd] at hstepH hstepL
  rcases hI with ⟨n, hn, hV, hh, left, hm, hFL⟩ | ⟨acc, n, left, m', hV, ho, hnk, hm, hF⟩
  · obtain ⟨n', rfl⟩ : ∃ n', n = n' + 1 := ⟨n - 1, by omega⟩
    rw [hstepH] at hh
    refine (pvis2a BB BP BO BM f r P ps.length c z pc m 0 bk off W hX2 hPA hc2 hzl2 hV).mono ?_
    rintro e w' ⟨rfl, hC2, hV2⟩
    refine ⟨hC2, .inl ⟨rfl, hC.trans hC2, by omega, ?_⟩⟩
    by_cases hp : pc = 0
    · rw [if_pos hp] at hV2 hh
      exact .inl ⟨n', by omega, hV2, hh, left, hm, hFL⟩
    · rw [if_neg hp] at hV2 hh
      refine .inr ⟨[], 9, left, m, hV2, by decide, by omega, ?_, ?_⟩
      · rcases hm with hm | hm
        · exact .inl hm
        · exact .inr ⟨hm.1, by omega, hm.2.2⟩
      · rw [hFL, ← hh, if_neg (by omega)]; rfl
  · obtain ⟨n', rfl⟩ : ∃ n', n = n' + 1 := ⟨n - 1, by omega⟩
    have hl0 : left ≠ 0 := by
      rcases hm with hm | hm <;> omega
    rw [hstepL _ _ hl0] at hF
    have hmb : -100 ≤ m' ∧ m' ≤ 100 := by
      rcases hm with hm | hm <;> omega
    have ho2 : orL (acc ++ [(z : Int)]) = orL acc ||| 2 ^ z := by rw [orL_snoc, Int.toNat_natCast]
    have ho3 : orL (acc ++ [(z : Int)]) < 18446744073709551616 := by rw [ho2]; exact or_lt ho (by omega)
    refine (pvis2b BB BP BO BM f r P ps.length c z pc m' (orL acc) bk off W hX2 hPA hc2 hzl2 hl64 hmb ho hV hB hbn (by have := hC.size; omega)).mono ?_
    rintro e w' ⟨rfl, hC2, hV2⟩
    rw [← ho2] at hV2
    refine ⟨hC2, ?_⟩
    by_cases hp : pc = 0
    rotate_left
    · rw [if_neg hp] at hF
      refine .inr ⟨by rw [show (pc == 0) = false from by rw [beq_eq_false_iff_ne]; exact hp]; rfl, ?_⟩
      rw [← hF]
      exact ⟨hV2.o0, ho3⟩
    rw [if_pos hp] at hF
    have hpb : (pc == 0) = true := by rw [beq_iff_eq]; exact hp
    by_cases hm1 : m' - 1 = 0
    · have hl1 : left - 1 = 0 := by
        rcases hm with hm | hm <;> omega
      rw [hl1, linF_zero] at hF
      refine .inr ⟨by rw [hpb, show (m' - 1 != 0) = false from by rw [bne_eq_false_iff_eq]; exact hm1]; rfl, ?_⟩
      rw [← hF]
      exact ⟨hV2.o0, ho3⟩
    · refine .inl ⟨by rw [hpb, show (m' - 1 != 0) = true from by rw [bne_iff_ne]; exact hm1]; rfl, hC.trans hC2, by omega, .inr ⟨acc ++ [(z : Int)], n', left - 1, m' - 1, hV2, ho3, by omega, ?_, ?_⟩⟩
      · rcases hm with hm | hm
        · exact .inl ⟨by omega, by omega, by omega⟩
        · exact .inr ⟨by omega, by omega, by omega⟩
      · rw [← hF, List.append_assoc]; rfl
theorem inv_end {BP BO BM : Nat} {m : Int} {FL : List Int} {w : World} (k : Nat) (W : World) (hI : InvV f r a sf sr ps BP BO BM m FL w k W) (hz : ¬ 0 ≤ sqK f r a sf sr (k + 1)) : FinV BO FL W := by
  obtain ⟨hC, hk8, hI⟩ := hI
  rcases hI with ⟨n, hn, hV, hh, left, hm, hFL⟩ | ⟨acc, n, left, m', hV, ho, hnk, hm, hF⟩
  · have h0 : hurF f r a sf sr ps n (k + 1) = 0 := by
      cases n with
      | zero => rfl
      | succ n => exact if_neg hz
    rw [h0] at hh
    rw [if_pos hh.symm] at hFL
    subst hFL
    exact ⟨hV.o0, by decide⟩
  · have h0 : linF f r a sf sr ps n left (k + 1) = [] := by
      cases n with
      | zero => rfl
      | succ n =>
        unfold linF
        rw [if_neg hz]
        split <;> rfl
    rw [h0, List.append_nil] at hF
    subst hF
    exact ⟨hV.o0, ho⟩
theorem pgo (h : Dir f r a sf sr ps) {BB BP BO BM : Nat} {P : Option Addr} {c N0 : Nat} {p m : Int} {FL : List Int} {w : World} (hX : KBd w BB f r P ps.length c) (hP : RecAt pEnc 1 w N0 P ps) (hN : N0 ≤ w.heap.size ∧ N0 ≤ BP ∧ N0 ≤ BO ∧ N0 ≤ BM) (hB : BB ∉ [BP, BO, BM]) (hlt : BP < w.heap.size ∧ BO < w.heap.size ∧ BM < w.heap.size)
    (hV : VS w BP BO BM p 0 m) (hst : (p = 1 ∧ ∃ left, mRel 0 m left ∧ FL = if hurV f r a sf sr ps = 0 then [] else linF f r a sf sr ps 9 left (hurV f r a sf sr ps + 1)) ∨ (p = 0 ∧ ∃ left, mRel 0 m left ∧ FL = linF f r a sf sr ps 9 left 1)) :
    Calls Tryd.prog 67 #[.agg #[.int .i64 (f : Int), .int .i64 (r : Int)], .int .i64 (a : Int), .agg #[.int .i64 sf, .int .i64 sr], .func (.func 70) #[] #[.pointer (some ⟨BP, 0, none⟩), .pointer (some ⟨BB, 0, none⟩), .pointer (some ⟨BO, 0, none⟩), .pointer (some ⟨BM, 0, none⟩)]] w fun e w' => e = .returned (.tuple #[]) ∧ FinV BO FL w' ∧ Chg [BP, BO, BM] w w' := by
  have eg : ∀ args w, (callFunc 70 args).run Tryd.prog w = .ok (.enter 70 args) w := enters_of Tryd.func70 (by kernel_rfl) rfl
  refine pwalk f r a sf sr ps h _ _ [BP, BO, BM] (InvV f r a sf sr ps BP BO BM m FL w) (FinV BO FL) w eg ?_ ?_ (fun k W hI hz => inv_vis h hX hP hN hB k W hI hz) (fun k W hI hz => inv_end k W hI hz)
  · intro b hb
    simp only [List.mem_cons, List.not_mem_nil, or_false] at hb
    omega
  · intro W hW
    have hV2 := hV.next hlt.1 hlt.2.1 hlt.2.2 hW
    refine ⟨Chg.of_below hW, by omega, ?_⟩
    rcases hst with ⟨rfl, left, hm, hFL⟩ | ⟨rfl, left, hm, hFL⟩
    · exact .inl ⟨8, rfl, hV2, rfl, left, hm, hFL⟩
    · exact .inr ⟨[], 9, left, m, hV2, by decide, by omega, hm, hFL.symm⟩
end
end Go.Proofs.YtbcdimklblpdnaaDoor
