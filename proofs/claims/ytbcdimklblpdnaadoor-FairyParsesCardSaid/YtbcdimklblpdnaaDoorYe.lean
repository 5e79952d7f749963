/- Layer 27: Valid of the program. -/
import Derived.Test.YtbcdimklblpdnaaDoorYd
namespace Go.Proofs.YtbcdimklblpdnaaDoor
open Go Go.RowKit Go.Maps
set_option linter.unusedSimpArgs false
set_option linter.unusedVariables false
theorem ASet.next {w w' : World} {b n : Nat} {ms : List At} (h : ASet w b n ms) (hb : Below w.heap.size w w') : ASet w' b n ms := h.of_block (hb.block b h.lt)
def memU (l : List At) (k : Nat) (ms : List At) : Prop := ∀ y, y ∈ ms ↔ ∃ j : Nat, j < k ∧ l[j]? = some y
theorem memU.succ {l : List At} {k : Nat} {ms : List At} {x : At} (h : memU l k ms) (hx : l[k]? = some x) : memU l (k + 1) (x :: ms) := fun y => by
  rw [List.mem_cons, h y]
  constructor
  · rintro (rfl | ⟨j, h1, h2⟩)
    · exact ⟨k, by omega, hx⟩
    · exact ⟨j, by omega, h2⟩
  · rintro ⟨j, h1, h2⟩
    by_cases e : j = k
    · subst e; exact Or.inl (Option.some.inj (h2.symm.trans hx))
    · exact Or.inr ⟨j, by omega, h2⟩
set_option maxRecDepth 100000 in
set_option maxHeartbeats 4000000 in
theorem pvalid (s : ByteArray) (A : Option Addr) (l : List At) (c : Nat) (w : World) (hR : RecAt aEnc 6 w w.heap.size A l) (hwf : ∀ x ∈ l, wfA x) (hl : l.length ≤ 100000) (hs : s.size ≤ maxLen) :
    Calls Tryd.prog 34 #[.agg #[.string s, .slice A l.length c]] w fun e w' => e = .returned (.bool (fyB s l)) ∧ Below w.heap.size w w' := by
  have hX := Lib.hid (KF.new w s A l.length c)
  have hb1 : Hid (Below w.heap.size w (w.alloc (.cells #[.string s, .slice A l.length c] 25))) := (Below.refl _ _).alloc (Nat.le_refl _) _
  have hRH := Lib.hid (recs_next hR hb1.out)
  have hsH := Lib.hid hs
  have hwH := Lib.hid hwf
  clear hR hs hwf
  go_enter Tryd.func34, Tryd.ntmps34
  go_upto_region 1 with fail
  generalize w.heap.size = B0 at hX ⊢
  generalize w.alloc (.cells #[.string s, .slice A l.length c] 25) = u at *
  have hm0 := Lib.hid (ASet.made u)
  have hba : Hid (Below u.heap.size u (u.alloc (.map #[] 0))) := (Below.refl _ _).alloc (Nat.le_refl _) _
  have hXa := Lib.hid (hX.out.next hba.out)
  have x1 := hXa.out.c1
  have hmm := @run_makeMap Tryd.prog
  go_wp2_with fail
  clear x1 hXa hmm
  obtain ⟨Bm, hBm⟩ : ∃ Bm, u.heap.size = Bm := ⟨_, rfl⟩
  have hBmH := Lib.hid hBm
  rw [hBm] at hm0 ⊢
  clear hBm
  generalize u.alloc (.map #[] 0) = u1 at *
  go_loopw [10] (fun i wr => ∃ (k : Nat) (ms : List At), k ≤ l.length ∧ i = .int .i64 k ∧ Hid (upA l k) ∧ Hid (memU l k ms) ∧ Hid (ASet wr Bm k ms) ∧ Hid (Below u.heap.size u wr)) (fun i _ => l.length - (intOf i).toNat)
  case atStart => exact ⟨0, [], by omega, rfl, fun i x hi => absurd hi (Nat.not_lt_zero _), fun y => ⟨fun h => absurd h List.not_mem_nil, fun ⟨j, h, _⟩ => absurd h (Nat.not_lt_zero _)⟩, hm0, hba⟩
  case round =>
    clear hm0 hba
    obtain ⟨k, ms, hk, rfl, hup, hms, hM, hB⟩ := hrel
    have hk0 : (0 : Int) ≤ (k : Int) := Int.natCast_nonneg _
    by_cases hkn : k < l.length
    rotate_left
    · obtain rfl : k = l.length := by omega
      have x0 := (hX.out.next hB.out).c0
      have x1 := (hX.out.next hB.out).c1
      have hin : Hid (fyB s l = (PC.givV s && inB (l.length : Int) 1 8)) := by
        show _ = _
        cases hg : PC.givV s with
        | false => exact fyB_no fun h => by have h2 := h.2; rw [hg] at h2; cases h2
        | true =>
          by_cases h8 : 1 ≤ l.length ∧ l.length ≤ 8
          · rw [inB_yes (by omega) (by omega)]
            exact fyB_yes ⟨⟨hup.out, h8⟩, hg⟩
          · rw [inB_no (by omega)]
            exact fyB_no fun h => h8 h.1.2
      have hN : Hid (∀ W, Calls Tryd.prog 53 #[.string s] W fun e w' => e = .returned (.bool (PC.givV s)) ∧ W = w') := fun W => PC.pvname s W hsH.out
      generalize PC.givV s = G at *
      cases G with
      | false =>
        go_wp2_with (first | (go_at_call 53; refine (hN.out _).mono ?_; rintro e w' ⟨rfl, rfl⟩) | (go_at_call 43; refine (pwithin _ _ _ _).mono ?_; rintro e w' ⟨rfl, rfl⟩))
        go_ret
        exact ⟨rb (by rw [hin.out]; rfl), hb1.out.trans (hB.out.mono hb1.out.size)⟩
      | true =>
        go_wp2_with (first | (go_at_call 53; refine (hN.out _).mono ?_; rintro e w' ⟨rfl, rfl⟩) | (go_at_call 43; refine (pwithin _ _ _ _).mono ?_; rintro e w' ⟨rfl, rfl⟩))
        go_ret
        exact ⟨rb (by rw [hin.out]; rfl), hb1.out.trans (hB.out.mono hb1.out.size)⟩
    have hkI : (k : Int) < (l.length : Int) := by omega
    obtain ⟨x, hx⟩ : ∃ x, l[k]? = some x := ⟨_, List.getElem?_eq_getElem hkn⟩
    obtain ⟨bk, off, rfl, hbk, hE⟩ := atoms6_of hRH.out hx
    obtain ⟨e0, e1, e2, e3, e4, e5⟩ := hE.next hbk hB.out
    have hbA : Hid (Below wr.heap.size wr (wr.alloc (.cells #[.int .i64 x.kind, .int .i64 x.short, .int .i64 x.long, .int .i64 x.most, .int .i64 x.mode, .int .i64 x.way] 40))) := (Below.refl _ _).alloc (Nat.le_refl _) _
    have hKx := Lib.hid (KA.new wr x)
    have hM1 := Lib.hid (hM.out.next hbA.out)
    have hB1 := Lib.hid (hB.out.trans (hbA.out.mono hB.out.size))
    have hwx := hwH.out x (List.mem_of_getElem? hx)
    replace hx := Lib.hid hx
    clear hE hM hB hbA
    go_upto_region 5 with fail
    clear e0 e1 e2 e3 e4 e5
    generalize wr.heap.size = Bx at hKx ⊢
    generalize wr.alloc (.cells #[.int .i64 x.kind, .int .i64 x.short, .int .i64 x.long, .int .i64 x.most, .int .i64 x.mode, .int .i64 x.way] 40) = w2 at *
    clear wr
    obtain ⟨x0, x1, x2, x3, x4, x5, _⟩ := hKx.out
    have hlk := hM1.out.lookup hwx
    by_cases hin : x ∈ ms
    · have hlt : decide (x ∈ ms) = true := decide_eq_true hin
      have hfin : Hid (fyB s l = false) := fyB_no fun h => by
        obtain ⟨j, h1, h2⟩ := (hms.out x).1 hin
        exact (h.1.1 k x hkn hx.out).2 j x h1 h2 rfl
      rw [hlt] at hlk
      clear hin hlt
      go_wp2_with fail
      go_ret
      exact ⟨rb hfin.out.symm, hb1.out.trans (hB1.out.mono hb1.out.size)⟩
    have hlf : decide (x ∈ ms) = false := decide_eq_false hin
    rw [hlf] at hlk
    have hdif : Hid (difA l k x k) := fun j y hj hy e => by
      subst e
      exact hin ((hms.out y).2 ⟨j, hj, hy⟩)
    clear hin hlf
    by_cases hok : okA x
    rotate_left
    · have hfin : Hid (fyB s l = false) := fyB_no fun h => hok (h.1.1 k x hkn hx.out).1
      have hAt : Hid (∀ W, Calls Tryd.prog 25 #[aV x] W fun e w' => e = .returned (.bool false) ∧ Below W.heap.size W w') := fun W => aB_no hok ▸ pfine x W
      clear hok
      go_wp2_with (go_at_call 25; refine (hAt.out _).mono ?_; rintro e w3 ⟨rfl, hb3⟩)
      go_ret
      exact ⟨rb hfin.out.symm, hb1.out.trans ((hB1.out.trans (hb3.mono hB1.out.size)).mono hb1.out.size)⟩
    have hAt : Hid (∀ W, Calls Tryd.prog 25 #[aV x] W fun e w' => e = .returned (.bool true) ∧ Below W.heap.size W w') := fun W => aB_yes hok ▸ pfine x W
    have hnew := Lib.hid (hup.out.succ hx.out hok hdif.out)
    have hmsn := Lib.hid (hms.out.succ hx.out)
    clear hok
    go_wp2_with fail
    go_at_call 25
    refine (hAt.out _).mono ?_
    rintro e w3 ⟨rfl, hb3⟩
    have hM3 := Lib.hid (hM1.out.next hb3)
    have hB3 := Lib.hid (hB1.out.trans (hb3.mono hB1.out.size))
    have hK3 := Lib.hid (hKx.out.next hb3)
    clear hb3 hlk x0 x1 x2 x3 x4 x5 hM1 hB1 hKx
    obtain ⟨x0, x1, x2, x3, x4, x5, _⟩ := hK3.out
    obtain ⟨w7, hup7, hM7, hg7⟩ := hM3.out.update hwx (by unfold maxLen; omega)
    have hB7 : Hid (Below u.heap.size u w7) := hB3.out.grown hg7 hB3.out.size (fun q hq => by
      have := Option.some.inj hq
      have h2 := hBmH.out
      omega)
    replace hM7 := Lib.hid hM7
    clear hg7
    go_wp2_with fail
    go_roundw
    case rel => exact ⟨k + 1, x :: ms, by omega, by go_num, hnew, hmsn, hM7, hB7⟩
    case measure => simp [intOf]; omega
end Go.Proofs.YtbcdimklblpdnaaDoor
