/- Layer 7: the reference's Line. -/
import Derived.Test.YtlnphcdanadaeaaDoorMv
import Derived.Test.YtlnphcdanadaeaaDoorMo
namespace Go.Proofs.YtlnphcdanadaeaaDoor
open Go.RowKit
set_option linter.unusedSimpArgs false
set_option linter.unusedVariables false

set_option maxRecDepth 100000 in
set_option maxHeartbeats 1000000 in
theorem rline (f r : Int) (A : Option Addr) (c : Nat) (l : List Mv) (w : World) (hA : RecAt mEnc 3 w w.heap.size A l) (hl : l.length ≤ 2000) (hall : ∀ m, m ∈ l → okM f r m = true) :
    Calls Tryd.prog 17 #[.agg #[.int .i64 f, .int .i64 r], .slice A l.length c] w fun e w' => e = .returned (.string (joinB (l.map (txt f)))) ∧ Below w.heap.size w w' := by
  have hK := Lib.hid (BK.first f r w 23)
  have hAH : Hid (RecAt mEnc 3 (w.alloc (.cells #[.int .i64 f, .int .i64 r] 23)) w.heap.size A l) := hA.below (Nat.le_refl _) ((Below.refl _ _).alloc (Nat.le_refl _) _)
  have hallH := Lib.hid hall
  clear hA hall
  obtain ⟨ws, hws⟩ : ∃ ws, l.map (txt f) = ws := ⟨_, rfl⟩
  rw [hws]
  replace hws := Lib.hid hws
  have hwl : Hid (ws.length = l.length) := by show _ = _; rw [← hws.out, List.length_map]
  go_enter Tryd.func17, Tryd.ntmps17
  go_upto_region 1 with fail
  generalize w.alloc (.cells #[.int .i64 f, .int .i64 r] 23) = w1 at *
  go_wp2_with fail
  go_loopw [5, 6] (fun s5 i wr => ∃ k : Nat, k ≤ l.length ∧ i = .int .i64 k ∧ s5 = .string (joinB (tk k ws)) ∧ (joinB (tk k ws)).size ≤ 6 * k ∧ Hid (Below w1.heap.size w1 wr)) (fun _ i _ => l.length - (intOf i).toNat)
  case atStart => exact ⟨0, by omega, rfl, rfl, Nat.le_refl 0, Below.refl _ _⟩
  case round =>
    obtain ⟨k, hk, rfl, rfl, hsz, hB⟩ := hrel
    have c0 := (hB.out.cell (p := ⟨w.heap.size, 0, none⟩) hK.out.lt).trans hK.out.c0
    have c1 := (hB.out.cell (p := ⟨w.heap.size, 1, none⟩) hK.out.lt).trans hK.out.c1
    have hbs : w1.heap.size ≤ wr.heap.size := hB.out.size
    have hlw : w.heap.size < wr.heap.size := Nat.lt_of_lt_of_le hK.out.lt hbs
    by_cases hkn : k < l.length
    · obtain ⟨b, off, rfl, hb, hc⟩ := hAH.out (by omega)
      have hlb0 : b < w1.heap.size := Nat.lt_trans hb hK.out.lt
      have hlb : b < wr.heap.size := Nat.lt_of_lt_of_le hlb0 hbs
      obtain ⟨m, hm⟩ : ∃ m, l[k]? = some m := ⟨_, List.getElem?_eq_getElem hkn⟩
      obtain ⟨m0, m1, m2⟩ := rec3 hc hm
      replace m0 := (hB.out.cell (p := ⟨b, off + k * 3, none⟩) hlb0).trans m0
      replace m1 := (hB.out.cell (p := ⟨b, off + k * 3 + 1, none⟩) hlb0).trans m1
      replace m2 := (hB.out.cell (p := ⟨b, off + k * 3 + 2, none⟩) hlb0).trans m2
      clear hc
      obtain ⟨T, hT⟩ : ∃ T, txt f m = T := ⟨_, rfl⟩
      have hTs : T.size ≤ 5 := by
        rw [← hT]; unfold txt mvT
        split
        · show 4 ≤ 5; omega
        · show 5 ≤ 5; omega
      have hrt : Hid (∀ W, Calls Tryd.prog 12 #[.agg #[.int .i64 f, .int .i64 r], .agg #[.int .i64 m.1, .int .i64 m.2.1, .int .i8 m.2.2]] W fun e w' => e = .returned (.string T) ∧ Below W.heap.size W w') := fun W => by
        rw [← hT]
        exact rtext f r m.1 m.2.1 m.2.2 W (hallH.out m (List.mem_of_getElem? hm))
      have hsu : Hid (tk (k + 1) ws = tk k ws ++ [T]) := by
        show _ = _
        unfold tk
        rw [List.take_add_one, show ws[k]? = some T by rw [← hws.out, List.getElem?_map, hm, ← hT]; rfl]; rfl
      replace hT := Lib.hid hT
      obtain ⟨X, hX⟩ : ∃ X, joinB (tk k ws) = X := ⟨_, rfl⟩
      rw [hX] at hsz ⊢
      by_cases hk0 : k = 0
      · have hXT : Hid (X ++ T = joinB (tk (k + 1) ws)) := by
          show _ = _
          rw [hsu.out, ← hX, hk0]
          show joinB [] ++ T = joinB [T]
          rw [joinB_one]
          exact ba_eq (by simp [joinB, Lib.join, List.intercalate])
        have hki : ((0 : Int) < (k : Int)) = False := by rw [eq_iff_iff, iff_false]; omega
        have hki2 : (0 < k) = False := by rw [eq_iff_iff, iff_false]; omega
        have hcat : (9223372036854775807 < X.size + T.size) = False := by rw [eq_iff_iff, iff_false]; omega
        replace hX := Lib.hid hX
        replace hm := Lib.hid hm
        replace hk0 := Lib.hid hk0
        go_upto_region 7 with fail
        go_region_held3 (fun w' => w'.cell? ⟨w.heap.size, 0, none⟩ = some (.int .i64 f) ∧ w'.cell? ⟨w.heap.size, 1, none⟩ = some (.int .i64 r) ∧ w'.cell? ⟨b, off + k * 3, none⟩ = some (.int .i64 m.1) ∧ w'.cell? ⟨b, off + k * 3 + 1, none⟩ = some (.int .i64 m.2.1) ∧ w'.cell? ⟨b, off + k * 3 + 2, none⟩ = some (.int .i8 m.2.2)) (exact ⟨c0, c1, m0, m1, m2⟩)
          (first | (go_at_call 12; refine (hrt.out _).mono ?_; rintro e w5 ⟨rfl, hb5⟩; replace hb5 : Hid (Below wr.heap.size wr w5) := (by first | exact hb5 | exact undrew hb5); replace c0 := (hb5.out.cell (p := ⟨w.heap.size, 0, none⟩) hlw).trans c0; replace c1 := (hb5.out.cell (p := ⟨w.heap.size, 1, none⟩) hlw).trans c1; replace m0 := (hb5.out.cell (p := ⟨b, off + k * 3, none⟩) hlb).trans m0; replace m1 := (hb5.out.cell (p := ⟨b, off + k * 3 + 1, none⟩) hlb).trans m1; replace m2 := (hb5.out.cell (p := ⟨b, off + k * 3 + 2, none⟩) hlb).trans m2))
        all_goals
          go_wp2_with fail
          go_roundw
          case rel => exact ⟨k + 1, by omega, by go_num, by rw [← hXT.out], by rw [← hXT.out, ByteArray.size_append]; omega, hB.out.trans (hb5.out.mono hbs)⟩
          case measure => simp [intOf]; omega
      · have hki : (0 : Int) < (k : Int) := by omega
        obtain ⟨Y, hY⟩ : ∃ Y, X ++ (⟨#[32]⟩ : ByteArray) = Y := ⟨_, rfl⟩
        have hYs : Y.size = X.size + 1 := by rw [← hY, ByteArray.size_append]; rfl
        have hYz : Y.size ≤ 6 * k + 1 := by omega
        have hXT : Hid (Y ++ T = joinB (tk (k + 1) ws)) := by
          show _ = _
          rw [hsu.out, ← hY, ← hX, joinB_snoc]
          intro e
          have h5 := congrArg List.length e
          unfold tk at h5
          rw [List.length_take, hwl.out] at h5
          simp only [List.length_nil] at h5
          omega
        have hcat0 : (9223372036854775807 < X.size + 1) = False := by rw [eq_iff_iff, iff_false]; omega
        have hcat : (9223372036854775807 < Y.size + T.size) = False := by rw [eq_iff_iff, iff_false]; omega
        replace hX := Lib.hid hX
        replace hm := Lib.hid hm
        replace hYs := Lib.hid hYs
        go_upto_region 7 with fail
        replace hY := Lib.hid hY
        go_region_held3 (fun w' => w'.cell? ⟨w.heap.size, 0, none⟩ = some (.int .i64 f) ∧ w'.cell? ⟨w.heap.size, 1, none⟩ = some (.int .i64 r) ∧ w'.cell? ⟨b, off + k * 3, none⟩ = some (.int .i64 m.1) ∧ w'.cell? ⟨b, off + k * 3 + 1, none⟩ = some (.int .i64 m.2.1) ∧ w'.cell? ⟨b, off + k * 3 + 2, none⟩ = some (.int .i8 m.2.2)) (exact ⟨c0, c1, m0, m1, m2⟩)
          (first | (go_at_call 12; refine (hrt.out _).mono ?_; rintro e w5 ⟨rfl, hb5⟩; replace hb5 : Hid (Below wr.heap.size wr w5) := (by first | exact hb5 | exact undrew hb5); replace c0 := (hb5.out.cell (p := ⟨w.heap.size, 0, none⟩) hlw).trans c0; replace c1 := (hb5.out.cell (p := ⟨w.heap.size, 1, none⟩) hlw).trans c1; replace m0 := (hb5.out.cell (p := ⟨b, off + k * 3, none⟩) hlb).trans m0; replace m1 := (hb5.out.cell (p := ⟨b, off + k * 3 + 1, none⟩) hlb).trans m1; replace m2 := (hb5.out.cell (p := ⟨b, off + k * 3 + 2, none⟩) hlb).trans m2))
        all_goals
          go_wp2_with fail
          go_roundw
          case rel => exact ⟨k + 1, by omega, by go_num, by rw [← hXT.out], by rw [← hXT.out, ByteArray.size_append]; omega, hB.out.trans (hb5.out.mono hbs)⟩
          case measure => simp [intOf]; omega
    · obtain rfl : k = l.length := by omega
      have htk : tk l.length ws = ws := List.take_of_length_le (by rw [hwl.out]; exact Nat.le_refl _)
      rw [htk]
      go_wp2_with fail
      go_ret
      exact ⟨rfl, hK.out.below.trans (hB.out.mono hK.out.below.size)⟩
end Go.Proofs.YtlnphcdanadaeaaDoor
