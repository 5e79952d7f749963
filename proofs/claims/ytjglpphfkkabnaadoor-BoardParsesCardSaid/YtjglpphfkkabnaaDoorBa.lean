/- Layer 3: boards: the box of a board, rows of pieces; which boards are valid, the program's and the reference's. -/
import Derived.Test.YtjglpphfkkabnaaDoorBsq
import Derived.Test.YtjglpphfkkabnaaDoorBpc
import Derived.Test.YtjglpphfkkabnaaDoorTri
import Derived.StillTailTactics
import Derived.Deep.RegionHeld3
import Derived.BigRegion
namespace Go.Proofs.YtjglpphfkkabnaaDoor
open Go.RowKit
set_option linter.unusedSimpArgs false
set_option linter.unusedVariables false

def qEnc (x : Int) : List Value := [.int .i8 x]
theorem qEnc_len (x : Int) : (qEnc x).length = 1 := rfl
theorem qEnc_one (x : Int) : ∀ u ∈ qEnc x, u.oneCell' = true := by
  intro u hu
  simp only [qEnc, List.mem_cons, List.not_mem_nil, or_false] at hu
  subst hu; rfl
theorem pieceRow : RowOf Tryd.prog 24 28 1 1 :=
  RowOf.mk' (z := .int .i8 0) Tryd.underlying24 (by kernel_rfl) (by decide) (by decide) rfl
/-- pieces in memory -/
abbrev PcsAt (w : World) (B : Nat) (A : Option Addr) (l : List Int) : Prop := RecAt qEnc 1 w B A l
/-- the cell of one piece -/
theorem pcs1 {w : World} {b off k : Nat} {x : Int} {l : List Int} (hc : ∀ (k : Nat) (x : Int), l[k]? = some x → ∀ (j : Nat) (u : Value), (qEnc x)[j]? = some u → w.cell? ⟨b, off + k * 1 + j, none⟩ = some u) (hm : l[k]? = some x) :
    w.cell? ⟨b, off + k, none⟩ = some (.int .i8 x) := by
  have h := hc k x hm 0 _ rfl
  rwa [Nat.mul_one, Nat.add_zero] at h
theorem recs_q (w : World) (B : Nat) (hB : B = w.heap.size) (x : Int) (t : TypeId) : RecAt qEnc 1 (w.alloc (.cells #[.int .i8 x] t)) (w.alloc (.cells #[.int .i8 x] t)).heap.size (some ⟨B, 0, none⟩) [x] := by
  subst hB
  intro _
  refine ⟨w.heap.size, 0, rfl, by simp, fun k y hk j u hu => ?_⟩
  have hk0 : k = 0 := by have := (List.getElem?_eq_some_iff.1 hk).1; simp at this; omega
  subst hk0
  obtain rfl : x = y := by simpa using hk
  match j, hu with
  | 0, hu => rw [show u = .int .i8 x from (Option.some.inj hu).symm]; simp
  | (j + 1), hu => simp [qEnc] at hu
/-- a board as a value -/
abbrev bV (f r : Int) (A : Option Addr) (n c : Nat) : Value := .agg #[.int .i64 f, .int .i64 r, .slice A n c]
/-- the box of a board lies in W as it lay -/
structure KB (f r : Int) (A : Option Addr) (n c : Nat) (w W : World) : Prop where
  c0 : W.cell? ⟨w.heap.size, 0, none⟩ = some (.int .i64 f)
  c1 : W.cell? ⟨w.heap.size, 1, none⟩ = some (.int .i64 r)
  c2 : W.cell? ⟨w.heap.size, 2, none⟩ = some (.slice A n c)
  lt : w.heap.size < W.heap.size
  below : Below w.heap.size w W
section
variable {f r : Int} {A : Option Addr} {n c : Nat} {w W W' : World}
theorem KB.first (f r : Int) (A : Option Addr) (n c : Nat) (w : World) (t : TypeId) : KB f r A n c w (w.alloc (.cells #[.int .i64 f, .int .i64 r, .slice A n c] t)) := by
  have h := tri_new w w.heap.size (.int .i64 f) (.int .i64 r) (.slice A n c) t rfl
  exact ⟨h.c0, h.c1, h.c2, h.lt, (Below.refl _ _).alloc (Nat.le_refl _) _⟩
theorem KB.next (h : KB f r A n c w W) (hb : Below W.heap.size W W') : KB f r A n c w W' :=
  ⟨(hb.cell (p := ⟨w.heap.size, 0, none⟩) h.lt).trans h.c0, (hb.cell (p := ⟨w.heap.size, 1, none⟩) h.lt).trans h.c1, (hb.cell (p := ⟨w.heap.size, 2, none⟩) h.lt).trans h.c2, Nat.lt_of_lt_of_le h.lt hb.size, h.below.trans (hb.mono h.below.size)⟩
theorem KB.alloc (h : KB f r A n c w W) (o : Obj) : KB f r A n c w (W.alloc o) := h.next ((Below.refl _ _).alloc (Nat.le_refl _) o)
theorem KB.drew (h : KB f r A n c w W) : KB f r A n c w W.drew := ⟨h.c0, h.c1, h.c2, h.lt, h.below.drew⟩
theorem KB.drewN (h : KB f r A n c w W) (k : Nat) : KB f r A n c w (W.drewN k) := ⟨h.c0, h.c1, h.c2, h.lt, below_drewN h.below k⟩
theorem KB.pcs {l : List Int} (h : KB f r A l.length c w W) (hA : PcsAt w w.heap.size A l) : PcsAt W w.heap.size A l := hA.below (Nat.le_refl _) h.below
end

/-- a number is a piece -/
def okP (p : Int) : Bool := decide (-15 ≤ p ∧ p ≤ 15)
theorem okP_out {p : Int} (h : okP p = true) : -15 ≤ p ∧ p ≤ 15 := of_decide_eq_true h
theorem pvalidp (p : Int) (w : World) : Calls Tryd.prog 38 #[.int .i8 p] w fun e w' => e = .returned (.bool (okP p)) ∧ w = w' := by
  by_cases h : -15 ≤ p ∧ p ≤ 15
  · rw [show okP p = true from decide_eq_true h]; exact PC.pvalid_yes p w h.1 h.2
  · rw [show okP p = false from decide_eq_false h]; exact PC.pvalid_no p w (by omega)
theorem rvalidp (p : Int) (w : World) : Calls Tryd.prog 19 #[.int .i8 p] w fun e w' => e = .returned (.bool (okP p)) ∧ w = w' := by
  by_cases h : -15 ≤ p ∧ p ≤ 15
  · rw [show okP p = true from decide_eq_true h]; exact PC.rvalid_yes p w h.1 h.2
  · rw [show okP p = false from decide_eq_false h]; exact PC.rvalid_no p w (by omega)
/-- a board is valid -/
def bdB (f r : Int) (l : List Int) : Bool := szB f r && (decide ((l.length : Int) = f * r) && l.all okP)
theorem bdB_sz {f r : Int} {l : List Int} (h : szB f r = false) : bdB f r l = false := by unfold bdB; rw [h]; rfl
theorem bdB_len {f r : Int} {l : List Int} (h : (l.length : Int) ≠ f * r) : bdB f r l = false := by unfold bdB; rw [decide_eq_false h]; simp
theorem bdB_in {f r : Int} {l : List Int} (h : szB f r = true) (h2 : (l.length : Int) = f * r) : bdB f r l = l.all okP := by unfold bdB; rw [h, decide_eq_true h2]; rfl
theorem bdB_out {f r : Int} {l : List Int} (h : bdB f r l = true) : szB f r = true ∧ (l.length : Int) = f * r ∧ ∀ p, p ∈ l → -15 ≤ p ∧ p ≤ 15 := by
  unfold bdB at h
  simp only [Bool.and_eq_true, decide_eq_true_eq, List.all_eq_true] at h
  exact ⟨h.1, h.2.1, fun p hp => okP_out (h.2.2 p hp)⟩
theorem all_no {l : List Int} {k : Nat} {x : Int} (h : l[k]? = some x) (h2 : okP x = false) : l.all okP = false := by
  rw [List.all_eq_false]
  exact ⟨x, List.mem_of_getElem? h, by rw [h2]; decide⟩
theorem all_yes {l : List Int} (h : ∀ (j : Nat) (x : Int), j < l.length → l[j]? = some x → okP x = true) : l.all okP = true := by
  rw [List.all_eq_true]
  intro x hx
  obtain ⟨j, hj, rfl⟩ := List.getElem_of_mem hx
  exact h j _ hj (List.getElem?_eq_getElem hj)

theorem pv1 (p : Int) (w : World) : Calls Tryd.prog 57 #[.int .i8 p] w fun e w' => e = .returned (.bool (!okP p)) ∧ w = w' := by
  generalize hV : okP p = V
  replace hV := Lib.hid hV
  go_enter Tryd.func57, Tryd.ntmps57
  go_wp2_with (go_at_call 38; refine (pvalidp _ _).mono ?_; rintro e w' ⟨rfl, rfl⟩; rw [hV.out])
  go_ret
  exact ⟨rfl, rfl⟩
def IxP (l : List Int) (e : Ending) : Prop := ∃ n : Int, e = .returned (.int .i64 n) ∧ decide (0 ≤ n) = !(l.all okP)
theorem pixf (A : Option Addr) (c : Nat) (l : List Int) (w : World) (hA : PcsAt w w.heap.size A l) (hl : l.length ≤ 100000) :
    Calls Tryd.prog 68 #[.slice A l.length c, .func (.func 57) #[] #[]] w fun e w' => IxP l e ∧ w = w' := by
  have hAH := Lib.hid hA
  clear hA
  go_enter Tryd.func68, Tryd.ntmps68
  go_wp2_with fail
  go_loop [5, 8] (fun _ i => ∃ k : Nat, k ≤ l.length ∧ i = .int .i64 k ∧ Hid (∀ (j : Nat) (x : Int), j < k → l[j]? = some x → okP x = true)) (fun _ i => l.length - (intOf i).toNat)
  case atStart => exact ⟨0, by omega, rfl, fun j x hj => absurd hj (Nat.not_lt_zero _)⟩
  case round =>
    obtain ⟨k, hk, rfl, hgood⟩ := hrel
    by_cases hkn : k < l.length
    · obtain ⟨b, off, rfl, hb, hc⟩ := hAH.out (by omega)
      obtain ⟨x, hx⟩ : ∃ x, l[k]? = some x := ⟨_, List.getElem?_eq_getElem hkn⟩
      have m0 := pcs1 hc hx
      clear hc
      rcases hv : okP x with _ | _
      · have hno := Lib.hid (all_no hx hv)
        replace hx := Lib.hid hx
        go_wp2_with (go_at_call 57; refine (pv1 _ _).mono ?_; rintro e w' ⟨rfl, rfl⟩; rw [hv])
        go_ret
        exact ⟨⟨k, rfl, by rw [hno.out]; exact decide_eq_true (by omega)⟩, rfl⟩
      · replace hx := Lib.hid hx
        go_wp2_with (go_at_call 57; refine (pv1 _ _).mono ?_; rintro e w' ⟨rfl, rfl⟩; rw [hv])
        go_round
        case rel =>
          refine ⟨k + 1, by omega, by go_num, fun j y hj hy => ?_⟩
          by_cases hjk : j < k
          · exact hgood.out j y hjk hy
          · obtain rfl : j = k := by omega
            rw [hx.out] at hy
            rw [← Option.some.inj hy]; exact hv
        case measure => simp [intOf]; omega
    · obtain rfl : k = l.length := by omega
      have hyes := Lib.hid (all_yes hgood.out)
      go_wp2_with fail
      go_ret
      exact ⟨⟨-1, rfl, by rw [hyes.out]; rfl⟩, rfl⟩
theorem pcont (A : Option Addr) (c : Nat) (l : List Int) (w : World) (hA : PcsAt w w.heap.size A l) (hl : l.length ≤ 100000) :
    Calls Tryd.prog 56 #[.slice A l.length c, .func (.func 57) #[] #[]] w fun e w' => e = .returned (.bool (!(l.all okP))) ∧ w = w' := by
  have hAH := Lib.hid hA
  clear hA
  generalize hV : l.all okP = V
  replace hV := Lib.hid hV
  go_enter Tryd.func56, Tryd.ntmps56
  go_wp2_with (go_at_call 68; refine (pixf _ _ _ _ hAH.out hl).mono ?_; rintro e w' ⟨⟨n, rfl, hn⟩, rfl⟩; rw [hV.out] at hn; replace hn := Lib.hid hn)
  go_ret
  exact ⟨by rw [← hn.out]; try rfl, rfl⟩
theorem pbvalid (f r : Int) (A : Option Addr) (c : Nat) (l : List Int) (w : World) (hA : PcsAt w w.heap.size A l) (hl : l.length ≤ 100000) :
    Calls Tryd.prog 34 #[bV f r A l.length c] w fun e w' => e = .returned (.bool (bdB f r l)) ∧ Below w.heap.size w w' := by
  have hK := Lib.hid (KB.first f r A l.length c w 26)
  have hAW : Hid (∀ W, Below w.heap.size w W → PcsAt W W.heap.size A l) := fun W hb => (hA.below (Nat.le_refl _) hb).more hb.size
  have c0 := hK.out.c0
  have c1 := hK.out.c1
  have c2 := hK.out.c2
  clear hA
  cases hs : szB f r
  · have hV := Lib.hid (bdB_sz (l := l) hs)
    go_enter Tryd.func34, Tryd.ntmps34
    go_wp2_with (go_at_call 36; refine (pcount_no _ _ _ hs).mono ?_; rintro e w1 ⟨rfl, hbw⟩; replace hK := Lib.hid (hK.out.next hbw); replace c0 := hK.out.c0; replace c1 := hK.out.c1; replace c2 := hK.out.c2; clear hbw)
    go_ret
    exact ⟨by rw [hV.out]; rfl, hK.out.below⟩
  · by_cases hn : (l.length : Int) = f * r
    · have hV := Lib.hid (bdB_in hs hn)
      have hn1 : ((l.length : Int) == f * r) = true := by rw [beq_iff_eq]; exact hn
      replace hn := Lib.hid hn
      generalize hP : f * r = P at *
      replace hP := Lib.hid hP
      go_enter Tryd.func34, Tryd.ntmps34
      go_wp2_with (first
        | (go_at_call 36; refine (pcount_yes _ _ _ hs).mono ?_; rintro e w1 ⟨rfl, hbw⟩; rw [hP.out]; replace hK := Lib.hid (hK.out.next hbw); replace c0 := hK.out.c0; replace c1 := hK.out.c1; replace c2 := hK.out.c2; clear hbw)
        | (go_at_call 56; refine (pcont _ _ _ _ (hAW.out _ hK.out.below) hl).mono ?_; rintro e w2 ⟨rfl, rfl⟩))
      go_ret
      exact ⟨by rw [hV.out]; try rfl, hK.out.below⟩
    · have hV := Lib.hid (bdB_len hn)
      have hn1 : ((l.length : Int) == f * r) = false := by rw [beq_eq_false_iff_ne]; exact hn
      clear hn
      generalize hP : f * r = P at *
      replace hP := Lib.hid hP
      go_enter Tryd.func34, Tryd.ntmps34
      go_wp2_with (go_at_call 36; refine (pcount_yes _ _ _ hs).mono ?_; rintro e w1 ⟨rfl, hbw⟩; rw [hP.out]; replace hK := Lib.hid (hK.out.next hbw); replace c0 := hK.out.c0; replace c1 := hK.out.c1; replace c2 := hK.out.c2; clear hbw)
      go_ret
      exact ⟨by rw [hV.out]; rfl, hK.out.below⟩
theorem rbvalid (f r : Int) (A : Option Addr) (c : Nat) (l : List Int) (w : World) (hA : PcsAt w w.heap.size A l) (hl : l.length ≤ 100000) :
    Calls Tryd.prog 17 #[bV f r A l.length c] w fun e w' => e = .returned (.bool (bdB f r l)) ∧ Below w.heap.size w w' := by
  have hK := Lib.hid (KB.first f r A l.length c w 26)
  have hAH := Lib.hid hA
  have c0 := hK.out.c0
  have c1 := hK.out.c1
  have c2 := hK.out.c2
  clear hA
  cases hs : szB f r
  · have hV := Lib.hid (bdB_sz (l := l) hs)
    go_enter Tryd.func17, Tryd.ntmps17
    go_wp2_with (go_at_call 15; refine (rsize _ _ _).mono ?_; rintro e w1 ⟨rfl, hbw⟩; rw [hs]; replace hK := Lib.hid (hK.out.next hbw); replace c0 := hK.out.c0; replace c1 := hK.out.c1; replace c2 := hK.out.c2; clear hbw)
    go_ret
    exact ⟨by rw [hV.out]; rfl, hK.out.below⟩
  · obtain ⟨f0, f1, r0, r1⟩ := szB_out hs
    obtain ⟨q0, q1⟩ := mul_bd f0 f1 r0 r1
    by_cases hn : (l.length : Int) = f * r
    · have hV := Lib.hid (bdB_in hs hn)
      have hn1 : ((l.length : Int) != f * r) = false := by rw [bne_eq_false_iff_eq]; exact hn
      replace hn := Lib.hid hn
      replace hs := Lib.hid hs
      clear f0 f1 r0 r1
      go_enter Tryd.func17, Tryd.ntmps17
      go_wp2_with (go_at_call 15; refine (rsize _ _ _).mono ?_; rintro e w1 ⟨rfl, hbw⟩; rw [hs.out]; replace hK := Lib.hid (hK.out.next hbw); replace c0 := hK.out.c0; replace c1 := hK.out.c1; replace c2 := hK.out.c2; clear hbw)
      go_loop [3] (fun i => ∃ k : Nat, k ≤ l.length ∧ i = .int .i64 k ∧ Hid (∀ (j : Nat) (x : Int), j < k → l[j]? = some x → okP x = true)) (fun i => l.length - (intOf i).toNat)
      case atStart => exact ⟨0, by omega, rfl, fun j x hj => absurd hj (Nat.not_lt_zero _)⟩
      case round =>
        obtain ⟨k, hk, rfl, hgood⟩ := hrel
        by_cases hkn : k < l.length
        · obtain ⟨b, off, rfl, hb, hc⟩ := hAH.out (by omega)
          obtain ⟨x, hx⟩ : ∃ x, l[k]? = some x := ⟨_, List.getElem?_eq_getElem hkn⟩
          have m0 := (hK.out.below.cell (p := ⟨b, off + k, none⟩) hb).trans (pcs1 hc hx)
          clear hc
          rcases hv : okP x with _ | _
          · have hno := Lib.hid (all_no hx hv)
            replace hx := Lib.hid hx
            go_wp2_with (go_at_call 19; refine (rvalidp _ _).mono ?_; rintro e w' ⟨rfl, rfl⟩; rw [hv])
            go_ret
            exact ⟨by rw [hV.out, hno.out]; rfl, hK.out.below⟩
          · replace hx := Lib.hid hx
            go_wp2_with (go_at_call 19; refine (rvalidp _ _).mono ?_; rintro e w' ⟨rfl, rfl⟩; rw [hv])
            go_round
            case rel =>
              refine ⟨k + 1, by omega, by go_num, fun j y hj hy => ?_⟩
              by_cases hjk : j < k
              · exact hgood.out j y hjk hy
              · obtain rfl : j = k := by omega
                rw [hx.out] at hy
                rw [← Option.some.inj hy]; exact hv
            case measure => simp [intOf]; omega
        · obtain rfl : k = l.length := by omega
          have hyes := Lib.hid (all_yes hgood.out)
          go_wp2_with fail
          go_ret
          exact ⟨by rw [hV.out, hyes.out]; rfl, hK.out.below⟩
    · have hV := Lib.hid (bdB_len hn)
      have hn1 : ((l.length : Int) != f * r) = true := by rw [bne_iff_ne]; exact hn
      clear hn f0 f1 r0 r1
      replace hs := Lib.hid hs
      go_enter Tryd.func17, Tryd.ntmps17
      go_wp2_with (go_at_call 15; refine (rsize _ _ _).mono ?_; rintro e w1 ⟨rfl, hbw⟩; rw [hs.out]; replace hK := Lib.hid (hK.out.next hbw); replace c0 := hK.out.c0; replace c1 := hK.out.c1; replace c2 := hK.out.c2; clear hbw)
      go_ret
      exact ⟨by rw [hV.out]; rfl, hK.out.below⟩
end Go.Proofs.YtjglpphfkkabnaaDoor
