/- Layer 27: all valid atoms (All of the reference). -/
import Derived.Test.YtbcdimklblpdnaaDoorYl
namespace Go.Proofs.YtbcdimklblpdnaaDoor
open Go Go.RowKit
set_option linter.unusedSimpArgs false
set_option linter.unusedVariables false
def al6 (k m y L s : Int) : Nat → List At
  | 0 => []
  | n + 1 => al6 k m y L s n ++ (if aB ⟨k, s, L, (n : Int), m, y⟩ then [⟨k, s, L, (n : Int), m, y⟩] else [])
def al5 (k m y L : Int) : Nat → List At
  | 0 => []
  | n + 1 => al5 k m y L n ++ al6 k m y L (n : Int) 8
def al4 (k m y : Int) : Nat → List At
  | 0 => []
  | n + 1 => al4 k m y n ++ al5 k m y ((n : Int) + 1) (n + 2)
def al3 (k m : Int) : Nat → List At
  | 0 => []
  | n + 1 => al3 k m n ++ al4 k m (n : Int) 7
def al2 (k : Int) : Nat → List At
  | 0 => []
  | n + 1 => al2 k n ++ al3 k (n : Int) 3
def al1 : Nat → List At
  | 0 => []
  | n + 1 => al1 n ++ al2 ((n : Int) + 1) 3
/-- all valid atoms -/
def allL : List At := al1 5
theorem al6_le (k m y L s : Int) : ∀ n, (al6 k m y L s n).length ≤ n
  | 0 => Nat.le_refl _
  | n + 1 => by
    have ih := al6_le k m y L s n
    unfold al6
    rw [List.length_append]
    split <;> simp <;> omega
theorem al5_le (k m y L : Int) : ∀ n, (al5 k m y L n).length ≤ 8 * n
  | 0 => Nat.le_refl _
  | n + 1 => by
    have ih := al5_le k m y L n
    have h := al6_le k m y L (n : Int) 8
    unfold al5
    rw [List.length_append]
    omega
theorem al4_le (k m y : Int) : ∀ n, n ≤ 7 → (al4 k m y n).length ≤ 72 * n
  | 0, _ => Nat.le_refl _
  | n + 1, hn => by
    have ih := al4_le k m y n (by omega)
    have h := al5_le k m y ((n : Int) + 1) (n + 2)
    unfold al4
    rw [List.length_append]
    omega
theorem al3_le (k m : Int) : ∀ n, (al3 k m n).length ≤ 504 * n
  | 0 => Nat.le_refl _
  | n + 1 => by
    have ih := al3_le k m n
    have h := al4_le k m (n : Int) 7 (by omega)
    unfold al3
    rw [List.length_append]
    omega
theorem al2_le (k : Int) : ∀ n, (al2 k n).length ≤ 1512 * n
  | 0 => Nat.le_refl _
  | n + 1 => by
    have ih := al2_le k n
    have h := al3_le k (n : Int) 3
    unfold al2
    rw [List.length_append]
    omega
theorem al1_le : ∀ n, (al1 n).length ≤ 4536 * n
  | 0 => Nat.le_refl _
  | n + 1 => by
    have ih := al1_le n
    have h := al2_le ((n : Int) + 1) 3
    unfold al1
    rw [List.length_append]
    omega
theorem recs_at (w : World) (x : At) (t : TypeId) : RecAt aEnc 6 (w.alloc (.cells #[.int .i64 x.kind, .int .i64 x.short, .int .i64 x.long, .int .i64 x.most, .int .i64 x.mode, .int .i64 x.way] t)) (w.alloc (.cells #[.int .i64 x.kind, .int .i64 x.short, .int .i64 x.long, .int .i64 x.most, .int .i64 x.mode, .int .i64 x.way] t)).heap.size (some ⟨w.heap.size, 0, none⟩) [x] := by
  intro _
  refine ⟨w.heap.size, 0, rfl, by simp, fun k y hk j u hu => ?_⟩
  have hk0 : k = 0 := by have := (List.getElem?_eq_some_iff.1 hk).1; simp at this; omega
  subst hk0
  obtain rfl : x = y := by simpa using hk
  rw [cell_of_row _ _ _ _ _ _ (heap_alloc_new w _)]
  match j, hu with
  | 0, hu => rw [show u = .int .i64 x.kind from (Option.some.inj hu).symm]; rfl
  | 1, hu => rw [show u = .int .i64 x.short from (Option.some.inj hu).symm]; rfl
  | 2, hu => rw [show u = .int .i64 x.long from (Option.some.inj hu).symm]; rfl
  | 3, hu => rw [show u = .int .i64 x.most from (Option.some.inj hu).symm]; rfl
  | 4, hu => rw [show u = .int .i64 x.mode from (Option.some.inj hu).symm]; rfl
  | 5, hu => rw [show u = .int .i64 x.way from (Option.some.inj hu).symm]; rfl
  | (j + 6), hu => simp [aEnc] at hu
/-- what comes back -/
structure AlR (L : List At) (e : Ending) (w w' : World) : Prop where
  out : ∃ (A : Option Addr) (c : Nat), e = .returned (.slice A L.length c) ∧ O1 aEnc 6 w.heap.size 40 w w' A c L
  below : Below w.heap.size w w'
set_option maxRecDepth 100000 in
set_option maxHeartbeats 2000000 in
theorem rall (w : World) : Calls Tryd.prog 22 #[] w fun e w' => AlR allL e w w' := by
  have hO0 : Hid (O1 aEnc 6 w.heap.size 40 w w none 0 ([] : List At)) := O1.nil (Below.refl _ _) (Nat.le_refl _)
  have hE0 : ([] : List At).length ≤ 0 := Nat.le_refl _
  have hnx0 : Hid (([] : List At) ++ al1 5 = allL) := rfl
  go_enter Tryd.func22, Tryd.ntmps22
  go_upto_region 3 with fail
  have hS1 : Hid (O1 aEnc 6 w.heap.size 40 w w none 0 (([] : List At) ++ al1 0)) := by
    show O1 _ _ _ _ _ _ _ _ (([] : List At) ++ [])
    rw [List.append_nil]; exact hO0.out
  have hln1 : ([] : List At).length = (([] : List At) ++ al1 0).length := by
    show _ = (([] : List At) ++ []).length
    rw [List.append_nil]
  clear hO0
  clear hln1
  go_loopw [1, 2] (fun s i wr => ∃ (n : Nat) (A5 : Option Addr) (c5 : Nat), n ≤ 5 ∧ i = .int .i64 ((n : Int) + 1) ∧ s = .slice A5 (([] : List At) ++ al1 n).length c5 ∧ Hid (O1 aEnc 6 w.heap.size 40 w wr A5 c5 (([] : List At) ++ al1 n))) (fun _ i _ => (20 - intOf i).toNat)
  case atStart => exact ⟨0, none, 0, by omega, rfl, rfl, hS1⟩
  case round =>
    clear hS1
    obtain ⟨n1, A5, c5, hn1, rfl, rfl, hO⟩ := hrel
    by_cases he1 : n1 = 5
    · subst he1
      rw [hnx0.out] at hO ⊢
      have hfin : Hid (AlR allL (.returned (.slice A5 allL.length c5)) w wr) := ⟨⟨A5, c5, rfl, hO.out⟩, hO.out.below⟩
      go_wp2_with fail
      go_ret
      exact hfin.out
    obtain ⟨V1, hv1⟩ : ∃ V : Int, ((n1 : Int) + 1) = V := ⟨_, rfl⟩
    have hb1 : 0 ≤ V1 ∧ V1 ≤ 8 := by omega
    have hV1 : Hid (V1 + 1 = (((n1 + 1 : Nat) : Int) + 1)) := by show _ = _; omega
    have hnn1 : Hid (n1 + 1 ≤ 5) := by show _ ≤ _; omega
    have hM1 : Hid ((20 - (V1 + 1)).toNat < (20 - V1).toNat) := by show _ < _; omega
    have q1 : (V1 ≤ 5) = True := eq_true (by omega)
    have hle1 := al1_le n1
    obtain ⟨E1, hE1⟩ : ∃ E : List At, ([] : List At) ++ al1 n1 = E := ⟨_, rfl⟩
    have hEl1 : E1.length ≤ 22680 := by rw [← hE1, List.length_append]; omega
    have hnx1 : Hid (E1 ++ al2 V1 3 = ([] : List At) ++ al1 (n1 + 1)) := by
      show E1 ++ al2 V1 3 = _
      rw [← hE1, ← hv1, List.append_assoc]; rfl
    rw [hE1] at hO ⊢
    rw [hv1]
    have hO1 := hO
    clear hO hE1 hv1 hle1
    go_wp2_with fail
    clear q1
    have hS2 : Hid (O1 aEnc 6 w.heap.size 40 w wr A5 c5 (E1 ++ al2 V1 0)) := by
      show O1 _ _ _ _ _ _ _ _ (E1 ++ [])
      rw [List.append_nil]; exact hO1.out
    have hln2 : E1.length = (E1 ++ al2 V1 0).length := by
      show _ = (E1 ++ []).length
      rw [List.append_nil]
    rw [hln2]
    clear hO1
    clear hln2
    go_loopw [1, 3] (fun s i wr => ∃ (n : Nat) (A5 : Option Addr) (c5 : Nat), n ≤ 3 ∧ i = .int .i64 (n : Int) ∧ s = .slice A5 (E1 ++ al2 V1 n).length c5 ∧ Hid (O1 aEnc 6 w.heap.size 40 w wr A5 c5 (E1 ++ al2 V1 n))) (fun _ i _ => (20 - intOf i).toNat)
    case atStart => exact ⟨0, A5, c5, by omega, rfl, rfl, hS2⟩
    case round =>
      clear hS2
      obtain ⟨n2, A5, c5, hn2, rfl, rfl, hO⟩ := hrel
      by_cases he2 : n2 = 3
      · subst he2
        rw [hnx1.out] at hO ⊢
        go_wp2_with fail
        go_roundw
        case rel => exact ⟨n1 + 1, A5, c5, hnn1.out, by rw [← hV1.out] <;> try go_num, by first | rfl | rw [List.length_append], hO⟩
        case measure => exact hM1.out
      obtain ⟨V2, hv2⟩ : ∃ V : Int, (n2 : Int) = V := ⟨_, rfl⟩
      have hb2 : 0 ≤ V2 ∧ V2 ≤ 8 := by omega
      have hV2 : Hid (V2 + 1 = ((n2 + 1 : Nat) : Int)) := by show _ = _; omega
      have hnn2 : Hid (n2 + 1 ≤ 3) := by show _ ≤ _; omega
      have hM2 : Hid ((20 - (V2 + 1)).toNat < (20 - V2).toNat) := by show _ < _; omega
      have q2 : (V2 < 3) = True := eq_true (by omega)
      have hle2 := al2_le V1 n2
      obtain ⟨E2, hE2⟩ : ∃ E : List At, E1 ++ al2 V1 n2 = E := ⟨_, rfl⟩
      have hEl2 : E2.length ≤ 27216 := by rw [← hE2, List.length_append]; omega
      have hnx2 : Hid (E2 ++ al3 V1 V2 3 = E1 ++ al2 V1 (n2 + 1)) := by
        show E2 ++ al3 V1 V2 3 = _
        rw [← hE2, ← hv2, List.append_assoc]; rfl
      rw [hE2] at hO ⊢
      rw [hv2]
      have hO2 := hO
      clear hO hE2 hv2 hle2
      go_wp2_with fail
      clear q2
      have hS3 : Hid (O1 aEnc 6 w.heap.size 40 w wr A5 c5 (E2 ++ al3 V1 V2 0)) := by
        show O1 _ _ _ _ _ _ _ _ (E2 ++ [])
        rw [List.append_nil]; exact hO2.out
      have hln3 : E2.length = (E2 ++ al3 V1 V2 0).length := by
        show _ = (E2 ++ []).length
        rw [List.append_nil]
      rw [hln3]
      clear hO2
      clear hln3
      go_loopw [1, 4] (fun s i wr => ∃ (n : Nat) (A5 : Option Addr) (c5 : Nat), n ≤ 3 ∧ i = .int .i64 (n : Int) ∧ s = .slice A5 (E2 ++ al3 V1 V2 n).length c5 ∧ Hid (O1 aEnc 6 w.heap.size 40 w wr A5 c5 (E2 ++ al3 V1 V2 n))) (fun _ i _ => (20 - intOf i).toNat)
      case atStart => exact ⟨0, A5, c5, by omega, rfl, rfl, hS3⟩
      case round =>
        clear hS3
        obtain ⟨n3, A5, c5, hn3, rfl, rfl, hO⟩ := hrel
        by_cases he3 : n3 = 3
        · subst he3
          rw [hnx2.out] at hO ⊢
          go_wp2_with fail
          go_roundw
          case rel => exact ⟨n2 + 1, A5, c5, hnn2.out, by rw [← hV2.out] <;> try go_num, by first | rfl | rw [List.length_append], hO⟩
          case measure => exact hM2.out
        obtain ⟨V3, hv3⟩ : ∃ V : Int, (n3 : Int) = V := ⟨_, rfl⟩
        have hb3 : 0 ≤ V3 ∧ V3 ≤ 8 := by omega
        have hV3 : Hid (V3 + 1 = ((n3 + 1 : Nat) : Int)) := by show _ = _; omega
        have hnn3 : Hid (n3 + 1 ≤ 3) := by show _ ≤ _; omega
        have hM3 : Hid ((20 - (V3 + 1)).toNat < (20 - V3).toNat) := by show _ < _; omega
        have q3 : (V3 < 3) = True := eq_true (by omega)
        have hle3 := al3_le V1 V2 n3
        obtain ⟨E3, hE3⟩ : ∃ E : List At, E2 ++ al3 V1 V2 n3 = E := ⟨_, rfl⟩
        have hEl3 : E3.length ≤ 28728 := by rw [← hE3, List.length_append]; omega
        have hnx3 : Hid (E3 ++ al4 V1 V2 V3 7 = E2 ++ al3 V1 V2 (n3 + 1)) := by
          show E3 ++ al4 V1 V2 V3 7 = _
          rw [← hE3, ← hv3, List.append_assoc]; rfl
        rw [hE3] at hO ⊢
        rw [hv3]
        have hO3 := hO
        clear hO hE3 hv3 hle3
        go_wp2_with fail
        clear q3
        have hS4 : Hid (O1 aEnc 6 w.heap.size 40 w wr A5 c5 (E3 ++ al4 V1 V2 V3 0)) := by
          show O1 _ _ _ _ _ _ _ _ (E3 ++ [])
          rw [List.append_nil]; exact hO3.out
        have hln4 : E3.length = (E3 ++ al4 V1 V2 V3 0).length := by
          show _ = (E3 ++ []).length
          rw [List.append_nil]
        rw [hln4]
        clear hO3
        clear hln4
        go_loopw [1, 5] (fun s i wr => ∃ (n : Nat) (A5 : Option Addr) (c5 : Nat), n ≤ 7 ∧ i = .int .i64 ((n : Int) + 1) ∧ s = .slice A5 (E3 ++ al4 V1 V2 V3 n).length c5 ∧ Hid (O1 aEnc 6 w.heap.size 40 w wr A5 c5 (E3 ++ al4 V1 V2 V3 n))) (fun _ i _ => (20 - intOf i).toNat)
        case atStart => exact ⟨0, A5, c5, by omega, rfl, rfl, hS4⟩
        case round =>
          clear hS4
          obtain ⟨n4, A5, c5, hn4, rfl, rfl, hO⟩ := hrel
          by_cases he4 : n4 = 7
          · subst he4
            rw [hnx3.out] at hO ⊢
            go_wp2_with fail
            go_roundw
            case rel => exact ⟨n3 + 1, A5, c5, hnn3.out, by rw [← hV3.out] <;> try go_num, by first | rfl | rw [List.length_append], hO⟩
            case measure => exact hM3.out
          obtain ⟨V4, hv4⟩ : ∃ V : Int, ((n4 : Int) + 1) = V := ⟨_, rfl⟩
          have hb4 : 0 ≤ V4 ∧ V4 ≤ 8 := by omega
          have hV4 : Hid (V4 + 1 = (((n4 + 1 : Nat) : Int) + 1)) := by show _ = _; omega
          have hnn4 : Hid (n4 + 1 ≤ 7) := by show _ ≤ _; omega
          have hM4 : Hid ((20 - (V4 + 1)).toNat < (20 - V4).toNat) := by show _ < _; omega
          have q4 : (V4 < 8) = True := eq_true (by omega)
          have hle4 := al4_le V1 V2 V3 n4 hn4
          obtain ⟨E4, hE4⟩ : ∃ E : List At, E3 ++ al4 V1 V2 V3 n4 = E := ⟨_, rfl⟩
          have hEl4 : E4.length ≤ 29232 := by rw [← hE4, List.length_append]; omega
          have hnx4 : Hid (E4 ++ al5 V1 V2 V3 V4 (n4 + 2) = E3 ++ al4 V1 V2 V3 (n4 + 1)) := by
            show E4 ++ al5 V1 V2 V3 V4 (n4 + 2) = _
            rw [← hE4, ← hv4, List.append_assoc]; rfl
          rw [hE4] at hO ⊢
          rw [hv4]
          have hO4 := hO
          clear hO hE4 hle4
          go_wp2_with fail
          clear q4
          have hS5 : Hid (O1 aEnc 6 w.heap.size 40 w wr A5 c5 (E4 ++ al5 V1 V2 V3 V4 0)) := by
            show O1 _ _ _ _ _ _ _ _ (E4 ++ [])
            rw [List.append_nil]; exact hO4.out
          have hln5 : E4.length = (E4 ++ al5 V1 V2 V3 V4 0).length := by
            show _ = (E4 ++ []).length
            rw [List.append_nil]
          rw [hln5]
          clear hO4
          clear hln5
          go_loopw [1, 6] (fun s i wr => ∃ (n : Nat) (A5 : Option Addr) (c5 : Nat), n ≤ (n4 + 2) ∧ i = .int .i64 (n : Int) ∧ s = .slice A5 (E4 ++ al5 V1 V2 V3 V4 n).length c5 ∧ Hid (O1 aEnc 6 w.heap.size 40 w wr A5 c5 (E4 ++ al5 V1 V2 V3 V4 n))) (fun _ i _ => (20 - intOf i).toNat)
          case atStart => exact ⟨0, A5, c5, by omega, rfl, rfl, hS5⟩
          case round =>
            clear hS5
            obtain ⟨n5, A5, c5, hn5, rfl, rfl, hO⟩ := hrel
            by_cases he5 : n5 = (n4 + 2)
            · have hes := he5
              have q : (((n5 : Nat) : Int) ≤ V4) = False := eq_false (by omega)
              subst hes
              rw [hnx4.out] at hO ⊢
              go_wp2_with fail
              go_roundw
              case rel => exact ⟨n4 + 1, A5, c5, hnn4.out, by rw [← hV4.out] <;> try go_num, by first | rfl | rw [List.length_append], hO⟩
              case measure => exact hM4.out
            obtain ⟨V5, hv5⟩ : ∃ V : Int, (n5 : Int) = V := ⟨_, rfl⟩
            have hb5 : 0 ≤ V5 ∧ V5 ≤ 8 := by omega
            have hV5 : Hid (V5 + 1 = ((n5 + 1 : Nat) : Int)) := by show _ = _; omega
            have hnn5 : Hid (n5 + 1 ≤ (n4 + 2)) := by show _ ≤ _; omega
            have hM5 : Hid ((20 - (V5 + 1)).toNat < (20 - V5).toNat) := by show _ < _; omega
            have q5 : (V5 ≤ V4) = True := eq_true (by omega)
            have hle5 := al5_le V1 V2 V3 V4 n5
            obtain ⟨E5, hE5⟩ : ∃ E : List At, E4 ++ al5 V1 V2 V3 V4 n5 = E := ⟨_, rfl⟩
            have hEl5 : E5.length ≤ 29304 := by rw [← hE5, List.length_append]; omega
            have hnx5 : Hid (E5 ++ al6 V1 V2 V3 V4 V5 8 = E4 ++ al5 V1 V2 V3 V4 (n5 + 1)) := by
              show E5 ++ al6 V1 V2 V3 V4 V5 8 = _
              rw [← hE5, ← hv5, List.append_assoc]; rfl
            rw [hE5] at hO ⊢
            rw [hv5]
            have hO5 := hO
            clear hO hE5 hv5 hle5
            go_wp2_with fail
            clear q5
            have hS6 : Hid (O1 aEnc 6 w.heap.size 40 w wr A5 c5 (E5 ++ al6 V1 V2 V3 V4 V5 0)) := by
              show O1 _ _ _ _ _ _ _ _ (E5 ++ [])
              rw [List.append_nil]; exact hO5.out
            have hln6 : E5.length = (E5 ++ al6 V1 V2 V3 V4 V5 0).length := by
              show _ = (E5 ++ []).length
              rw [List.append_nil]
            rw [hln6]
            clear hO5
            clear hln6
            go_loopw [1, 7] (fun s i wr => ∃ (n : Nat) (A5 : Option Addr) (c5 : Nat), n ≤ 8 ∧ i = .int .i64 (n : Int) ∧ s = .slice A5 (E5 ++ al6 V1 V2 V3 V4 V5 n).length c5 ∧ Hid (O1 aEnc 6 w.heap.size 40 w wr A5 c5 (E5 ++ al6 V1 V2 V3 V4 V5 n))) (fun _ i _ => (20 - intOf i).toNat)
            case atStart => exact ⟨0, A5, c5, by omega, rfl, rfl, hS6⟩
            case round =>
              clear hS6
              obtain ⟨n6, A5, c5, hn6, rfl, rfl, hO⟩ := hrel
              by_cases he6 : n6 = 8
              · subst he6
                rw [hnx5.out] at hO ⊢
                go_wp2_with fail
                go_roundw
                case rel => exact ⟨n5 + 1, A5, c5, hnn5.out, by rw [← hV5.out] <;> try go_num, by first | rfl | rw [List.length_append], hO⟩
                case measure => exact hM5.out
              obtain ⟨V6, hv6⟩ : ∃ V : Int, (n6 : Int) = V := ⟨_, rfl⟩
              have hb6 : 0 ≤ V6 ∧ V6 ≤ 8 := by omega
              have hV6 : Hid (V6 + 1 = ((n6 + 1 : Nat) : Int)) := by show _ = _; omega
              have hnn6 : Hid (n6 + 1 ≤ 8) := by show _ ≤ _; omega
              have hM6 : Hid ((20 - (V6 + 1)).toNat < (20 - V6).toNat) := by show _ < _; omega
              have q6 : (V6 < 8) = True := eq_true (by omega)
              have hle6 := al6_le V1 V2 V3 V4 V5 n6
              obtain ⟨E6, hE6⟩ : ∃ E : List At, E5 ++ al6 V1 V2 V3 V4 V5 n6 = E := ⟨_, rfl⟩
              have hEl6 : E6.length ≤ 29312 := by rw [← hE6, List.length_append]; omega
              obtain ⟨ab, hab⟩ : ∃ ab, aB ⟨V1, V5, V4, V6, V2, V3⟩ = ab := ⟨_, rfl⟩
              have hst : Hid (E5 ++ al6 V1 V2 V3 V4 V5 (n6 + 1) = E6 ++ (if ab then [(⟨V1, V5, V4, V6, V2, V3⟩ : At)] else [])) := by
                show E5 ++ (al6 V1 V2 V3 V4 V5 n6 ++ (if aB ⟨V1, V5, V4, (n6 : Int), V2, V3⟩ then [(⟨V1, V5, V4, (n6 : Int), V2, V3⟩ : At)] else [])) = _
                rw [← hE6, ← hab, ← hv6, List.append_assoc]
              rw [hE6] at hO ⊢
              rw [hv6]
              have hca : Hid (∀ W, Calls Tryd.prog 40 #[.agg #[.int .i64 V1, .int .i64 V5, .int .i64 V4, .int .i64 V6, .int .i64 V2, .int .i64 V3]] W fun e w' => e = .returned (.bool ab) ∧ Below W.heap.size W w') := fun W => hab ▸ rAtom ⟨V1, V5, V4, V6, V2, V3⟩ W
              clear hab hE6 hv6 hle6
              have hA0 : KA (wr.alloc (.cells #[.int .i64 V1, .int .i64 V5, .int .i64 V4, .int .i64 V6, .int .i64 V2, .int .i64 V3] 40)) wr.heap.size ⟨V1, V5, V4, V6, V2, V3⟩ := KA.new wr ⟨V1, V5, V4, V6, V2, V3⟩
              have hOa := Lib.hid (hO.out.alloc (.cells #[.int .i64 V1, .int .i64 V5, .int .i64 V4, .int .i64 V6, .int .i64 V2, .int .i64 V3] 40))
              go_upto_region 21 with fail
              generalize wr.heap.size = BA at hA0 ⊢
              generalize wr.alloc (.cells #[.int .i64 V1, .int .i64 V5, .int .i64 V4, .int .i64 V6, .int .i64 V2, .int .i64 V3] 40) = va at *
              have hA := Lib.hid hA0
              clear hA0 hO
              obtain ⟨a0, a1, a2, a3, a4, a5, _⟩ := hA.out
              cases ab
              · have hst2 : Hid (E5 ++ al6 V1 V2 V3 V4 V5 (n6 + 1) = E6) := hst.out.trans (List.append_nil _)
                clear hst
                go_wp2_with (go_at_call 40; refine (hca.out _).mono ?_; rintro e w2 ⟨rfl, hb2⟩; have hO2 := Lib.hid (hOa.out.next hb2); clear hb2)
                go_roundw
                case rel => exact ⟨n6 + 1, A5, c5, hnn6.out, by rw [← hV6.out] <;> try go_num, by rw [hst2.out], by rw [hst2.out]; exact hO2⟩
                case measure => exact hM6.out
              · have hst2 : Hid (E6 ++ [(⟨V1, V5, V4, V6, V2, V3⟩ : At)] = E5 ++ al6 V1 V2 V3 V4 V5 (n6 + 1)) := hst.out.symm
                have hsl : E6.length + 1 = (E5 ++ al6 V1 V2 V3 V4 V5 (n6 + 1)).length := len_app1 hst2.out
                clear hst
                go_wp2_with (first | (go_at_call 40; refine (hca.out _).mono ?_; rintro e w2 ⟨rfl, hb2⟩; have hO2 := Lib.hid (hOa.out.next hb2); clear a0 a1 a2 a3 a4 a5; obtain ⟨a0, a1, a2, a3, a4, a5, _⟩ := hA.out.next hb2; clear hb2) | (at_builtin; refine wpList_append_recs atomRow aEnc_len aEnc_one rfl _ _ rfl w.heap.size A5 c5 E6 rfl (hO2.out.alloc _).own _ 1 [(⟨V1, V5, V4, V6, V2, V3⟩ : At)] rfl (recs_at _ ⟨V1, V5, V4, V6, V2, V3⟩ _) (by simp; omega) (hO2.out.alloc _).size ?_; intro A' c' w' hown hg _; rw [hst2.out] at hown ⊢; have hO' := Lib.hid ((hO2.out.alloc _).app hown hg); clear hown hg))
                go_roundw
                case rel => exact ⟨n6 + 1, A', c', hnn6.out, by rw [← hV6.out] <;> try go_num, by first | rfl | rw [List.length_append], hO'⟩
                case measure => exact hM6.out
end Go.Proofs.YtbcdimklblpdnaaDoor
