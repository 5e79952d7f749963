/- Layer 27: the chapter's examples. -/
import Derived.Test.YtbcdimklblpdnaaDoorZo
import Derived.Deep.CutRange
namespace Go.Proofs.YtbcdimklblpdnaaDoor
open Go Go.RowKit
set_option linter.unusedSimpArgs false
set_option linter.unusedVariables false
theorem bdL_len (k : Nat) (p : Int) : (bdL k p).length = 25 := by unfold bdL; simp
theorem bdL_mem {k : Nat} {p q : Int} (hp : -15 ≤ p ∧ p ≤ 15) (h : q ∈ bdL k p) : -15 ≤ q ∧ q ≤ 15 := by
  unfold bdL at h
  rcases List.mem_or_eq_of_mem_set h with h1 | rfl
  · rw [List.eq_of_mem_replicate h1]; decide
  · exact hp
theorem bdL_bd {k a : Nat} {p : Int} (ha : a < 25) : Bd 5 5 a (bdL k p) := ⟨by decide, by decide, by decide, by decide, bdL_len k p, ha⟩
theorem recs_ints (w : World) (l : List Int) (T : TypeId) : RecAt iEnc 1 (w.alloc (.cells (l.map (Value.int .i64)).toArray T)) (w.alloc (.cells (l.map (Value.int .i64)).toArray T)).heap.size (some ⟨w.heap.size, 0, none⟩) l := by
  intro _
  refine ⟨w.heap.size, 0, rfl, by simp, fun k y hk j u hu => ?_⟩
  rw [cell_of_row _ _ _ _ _ _ (heap_alloc_new w _)]
  match j, hu with
  | 0, hu =>
    rw [show u = .int .i64 y from (Option.some.inj hu).symm]
    simp [hk]
  | (j + 1), hu => simp [iEnc] at hu
theorem recs_two_st (w : World) (x y : St) (T : TypeId) : RecAt sEnc 2 (w.alloc (.cells #[.int .i64 x.files, .int .i64 x.ranks, .int .i64 y.files, .int .i64 y.ranks] T)) (w.alloc (.cells #[.int .i64 x.files, .int .i64 x.ranks, .int .i64 y.files, .int .i64 y.ranks] T)).heap.size (some ⟨w.heap.size, 0, none⟩) [x, y] := by
  intro _
  refine ⟨w.heap.size, 0, rfl, by simp, fun k z hk j u hu => ?_⟩
  rw [cell_of_row _ _ _ _ _ _ (heap_alloc_new w _)]
  match k, hk with
  | 0, hk =>
    obtain rfl : x = z := Option.some.inj hk
    match j, hu with
    | 0, hu => rw [show u = .int .i64 x.files from (Option.some.inj hu).symm]; rfl
    | 1, hu => rw [show u = .int .i64 x.ranks from (Option.some.inj hu).symm]; rfl
    | (j + 2), hu => simp [sEnc] at hu
  | 1, hk =>
    obtain rfl : y = z := Option.some.inj hk
    match j, hu with
    | 0, hu => rw [show u = .int .i64 y.files from (Option.some.inj hu).symm]; rfl
    | 1, hu => rw [show u = .int .i64 y.ranks from (Option.some.inj hu).symm]; rfl
    | (j + 2), hu => simp [sEnc] at hu
  | (k + 2), hk => simp at hk
theorem run_atoms (s : ByteArray) (A : Option Addr) (n c : Nat) (W : World) : (Instr.field 25 (.agg #[.string s, .slice A n c]) 1).run Tryd.prog W = .ok (.slice A n c) W := by kernel_rfl
theorem par_bad {s : List UInt8} (a : At) (h : atsP s = [a]) (hn : ¬ okA a) : parR s = none := by
  rw [← parP_parR]
  refine if_neg fun hh => ?_
  rw [h] at hh
  exact hn (okFy_ok hh.1 a List.mem_cons_self)
theorem kp_L12 : parR [120, 32, 76, 49, 50] = some ([120], [⟨1, 1, 2, 0, 0, 0⟩]) := par_of (by decide +kernel) (by decide) (by decide) (by kernel_rfl) (by decide +kernel)
theorem kp_R01 : parR [120, 32, 82, 48, 49] = some ([120], [⟨2, 0, 1, 0, 0, 0⟩]) := par_of (by decide +kernel) (by decide) (by decide) (by kernel_rfl) (by decide +kernel)
theorem kp_H01 : parR [120, 32, 72, 48, 49] = some ([120], [⟨3, 0, 1, 0, 0, 0⟩]) := par_of (by decide +kernel) (by decide) (by decide) (by kernel_rfl) (by decide +kernel)
theorem kp_J01 : parR [120, 32, 74, 48, 49] = some ([120], [⟨4, 0, 1, 0, 0, 0⟩]) := par_of (by decide +kernel) (by decide) (by decide) (by kernel_rfl) (by decide +kernel)
theorem kp_X12 : parR [120, 32, 88, 49, 50] = some ([120], [⟨5, 1, 2, 0, 0, 0⟩]) := par_of (by decide +kernel) (by decide) (by decide) (by kernel_rfl) (by decide +kernel)
theorem kp_cfL11 : parR [120, 32, 99, 102, 76, 49, 49] = some ([120], [⟨1, 1, 1, 0, 2, 1⟩]) := par_of (by decide +kernel) (by decide) (by decide) (by kernel_rfl) (by decide +kernel)
theorem kp_mfR01x2 : parR [120, 32, 109, 102, 82, 48, 49, 120, 50] = some ([120], [⟨2, 0, 1, 2, 1, 1⟩]) := par_of (by decide +kernel) (by decide) (by decide) (by kernel_rfl) (by decide +kernel)
theorem kset_0 (B : Nat) (W : World) (hB : B = W.heap.size) : Calls Tryd.prog 13 #[.slice (some ⟨B, 0, none⟩) 2 2] (W.alloc (.cells #[.int .i64 7, .int .i64 11] 3)) fun e w' => e = .returned (.int .u64 2176) ∧ W.alloc (.cells #[.int .i64 7, .int .i64 11] 3) = w' := hB ▸ rset [7, 11] _ 2 _ (recs_ints W [7, 11] 3) (by decide) (by decide)
theorem kset_1 (B : Nat) (W : World) (hB : B = W.heap.size) : Calls Tryd.prog 13 #[.slice (some ⟨B, 0, none⟩) 6 6] (W.alloc (.cells #[.int .i64 1, .int .i64 2, .int .i64 3, .int .i64 4, .int .i64 5, .int .i64 10] 3)) fun e w' => e = .returned (.int .u64 1086) ∧ W.alloc (.cells #[.int .i64 1, .int .i64 2, .int .i64 3, .int .i64 4, .int .i64 5, .int .i64 10] 3) = w' := hB ▸ rset [1, 2, 3, 4, 5, 10] _ 6 _ (recs_ints W [1, 2, 3, 4, 5, 10] 3) (by decide) (by decide)
theorem kset_2 (B : Nat) (W : World) (hB : B = W.heap.size) : Calls Tryd.prog 13 #[.slice (some ⟨B, 0, none⟩) 1 1] (W.alloc (.cells #[.int .i64 15] 3)) fun e w' => e = .returned (.int .u64 32768) ∧ W.alloc (.cells #[.int .i64 15] 3) = w' := hB ▸ rset [15] _ 1 _ (recs_ints W [15] 3) (by decide) (by decide)
theorem kset_3 (B : Nat) (W : World) (hB : B = W.heap.size) : Calls Tryd.prog 13 #[.slice (some ⟨B, 0, none⟩) 2 2] (W.alloc (.cells #[.int .i64 15, .int .i64 20] 3)) fun e w' => e = .returned (.int .u64 1081344) ∧ W.alloc (.cells #[.int .i64 15, .int .i64 20] 3) = w' := hB ▸ rset [15, 20] _ 2 _ (recs_ints W [15, 20] 3) (by decide) (by decide)
theorem kset_4 (B : Nat) (W : World) (hB : B = W.heap.size) : Calls Tryd.prog 13 #[.slice (some ⟨B, 0, none⟩) 1 1] (W.alloc (.cells #[.int .i64 7] 3)) fun e w' => e = .returned (.int .u64 128) ∧ W.alloc (.cells #[.int .i64 7] 3) = w' := hB ▸ rset [7] _ 1 _ (recs_ints W [7] 3) (by decide) (by decide)
theorem kset_5 (B : Nat) (W : World) (hB : B = W.heap.size) : Calls Tryd.prog 13 #[.slice (some ⟨B, 0, none⟩) 2 2] (W.alloc (.cells #[.int .i64 16, .int .i64 18] 3)) fun e w' => e = .returned (.int .u64 327680) ∧ W.alloc (.cells #[.int .i64 16, .int .i64 18] 3) = w' := hB ▸ rset [16, 18] _ 2 _ (recs_ints W [16, 18] 3) (by decide) (by decide)
theorem kset_6 (B : Nat) (W : World) (hB : B = W.heap.size) : Calls Tryd.prog 13 #[.slice (some ⟨B, 0, none⟩) 2 2] (W.alloc (.cells #[.int .i64 6, .int .i64 8] 3)) fun e w' => e = .returned (.int .u64 320) ∧ W.alloc (.cells #[.int .i64 6, .int .i64 8] 3) = w' := hB ▸ rset [6, 8] _ 2 _ (recs_ints W [6, 8] 3) (by decide) (by decide)
theorem kset_7 (B : Nat) (W : World) (hB : B = W.heap.size) : Calls Tryd.prog 13 #[.slice (some ⟨B, 0, none⟩) 5 5] (W.alloc (.cells #[.int .i64 1, .int .i64 2, .int .i64 3, .int .i64 4, .int .i64 5] 3)) fun e w' => e = .returned (.int .u64 62) ∧ W.alloc (.cells #[.int .i64 1, .int .i64 2, .int .i64 3, .int .i64 4, .int .i64 5] 3) = w' := hB ▸ rset [1, 2, 3, 4, 5] _ 5 _ (recs_ints W [1, 2, 3, 4, 5] 3) (by decide) (by decide)
theorem kset_8 (B : Nat) (W : World) (hB : B = W.heap.size) : Calls Tryd.prog 13 #[.slice (some ⟨B, 0, none⟩) 1 1] (W.alloc (.cells #[.int .i64 10] 3)) fun e w' => e = .returned (.int .u64 1024) ∧ W.alloc (.cells #[.int .i64 10] 3) = w' := hB ▸ rset [10] _ 1 _ (recs_ints W [10] 3) (by decide) (by decide)
theorem kset_9 (B : Nat) (W : World) (hB : B = W.heap.size) : Calls Tryd.prog 13 #[.slice (some ⟨B, 0, none⟩) 2 2] (W.alloc (.cells #[.int .i64 6, .int .i64 11] 3)) fun e w' => e = .returned (.int .u64 2112) ∧ W.alloc (.cells #[.int .i64 6, .int .i64 11] 3) = w' := hB ▸ rset [6, 11] _ 2 _ (recs_ints W [6, 11] 3) (by decide) (by decide)
theorem ksetb (W : World) {W' : World} (hb : Below (W.alloc (.cells #[.int .i64 7] 3)).heap.size (W.alloc (.cells #[.int .i64 7] 3)) W') : Calls Tryd.prog 13 #[.slice (some ⟨W.heap.size, 0, none⟩) 1 1] W' fun e w' => e = .returned (.int .u64 128) ∧ W' = w' := rset [7] _ 1 _ (recs_next (recs_ints W [7] 3) hb) (by decide) (by decide)
theorem katt_0 (P : Option Addr) (c : Nat) (W : World) (hP : RecAt pEnc 1 W W.heap.size P (bdL 10 1)) : Calls Tryd.prog 12 #[.agg #[.int .i64 5, .int .i64 5, .slice P 25 c], .string ⟨#[76, 49, 50]⟩, .int .i64 0, .bool false, .int .u64 2176] W fun e w' => e = .returned (.bool true) ∧ Below W.heap.size W w' := by
  have h := rattacks 5 5 0 (bdL 10 1) P c [76, 49, 50] [120] [⟨1, 1, 2, 0, 0, 0⟩] false 2176 W hP (bdL_bd (by decide)) (fun q hq => bdL_mem (by decide) hq) (by decide) kp_L12 (by decide +kernel)
  rw [bdL_len] at h
  exact h
theorem katt_1 (P : Option Addr) (c : Nat) (W : World) (hP : RecAt pEnc 1 W W.heap.size P (bdL 10 1)) : Calls Tryd.prog 12 #[.agg #[.int .i64 5, .int .i64 5, .slice P 25 c], .string ⟨#[82, 48, 49]⟩, .int .i64 0, .bool false, .int .u64 1086] W fun e w' => e = .returned (.bool true) ∧ Below W.heap.size W w' := by
  have h := rattacks 5 5 0 (bdL 10 1) P c [82, 48, 49] [120] [⟨2, 0, 1, 0, 0, 0⟩] false 1086 W hP (bdL_bd (by decide)) (fun q hq => bdL_mem (by decide) hq) (by decide) kp_R01 (by decide +kernel)
  rw [bdL_len] at h
  exact h
theorem katt_2 (P : Option Addr) (c : Nat) (W : World) (hP : RecAt pEnc 1 W W.heap.size P (bdL 10 1)) : Calls Tryd.prog 12 #[.agg #[.int .i64 5, .int .i64 5, .slice P 25 c], .string ⟨#[72, 48, 49]⟩, .int .i64 0, .bool false, .int .u64 32768] W fun e w' => e = .returned (.bool true) ∧ Below W.heap.size W w' := by
  have h := rattacks 5 5 0 (bdL 10 1) P c [72, 48, 49] [120] [⟨3, 0, 1, 0, 0, 0⟩] false 32768 W hP (bdL_bd (by decide)) (fun q hq => bdL_mem (by decide) hq) (by decide) kp_H01 (by decide +kernel)
  rw [bdL_len] at h
  exact h
theorem katt_3 (P : Option Addr) (c : Nat) (W : World) (hP : RecAt pEnc 1 W W.heap.size P (bdL 10 1)) : Calls Tryd.prog 12 #[.agg #[.int .i64 5, .int .i64 5, .slice P 25 c], .string ⟨#[74, 48, 49]⟩, .int .i64 0, .bool false, .int .u64 1081344] W fun e w' => e = .returned (.bool true) ∧ Below W.heap.size W w' := by
  have h := rattacks 5 5 0 (bdL 10 1) P c [74, 48, 49] [120] [⟨4, 0, 1, 0, 0, 0⟩] false 1081344 W hP (bdL_bd (by decide)) (fun q hq => bdL_mem (by decide) hq) (by decide) kp_J01 (by decide +kernel)
  rw [bdL_len] at h
  exact h
theorem katt_4 (P : Option Addr) (c : Nat) (W : World) (hP : RecAt pEnc 1 W W.heap.size P (bdL 10 1)) : Calls Tryd.prog 12 #[.agg #[.int .i64 5, .int .i64 5, .slice P 25 c], .string ⟨#[88, 49, 50]⟩, .int .i64 0, .bool false, .int .u64 2176] W fun e w' => e = .returned (.bool true) ∧ Below W.heap.size W w' := by
  have h := rattacks 5 5 0 (bdL 10 1) P c [88, 49, 50] [120] [⟨5, 1, 2, 0, 0, 0⟩] false 2176 W hP (bdL_bd (by decide)) (fun q hq => bdL_mem (by decide) hq) (by decide) kp_X12 (by decide +kernel)
  rw [bdL_len] at h
  exact h
theorem katt_5 (P : Option Addr) (c : Nat) (W : World) (hP : RecAt pEnc 1 W W.heap.size P (bdL 5 1)) : Calls Tryd.prog 12 #[.agg #[.int .i64 5, .int .i64 5, .slice P 25 c], .string ⟨#[88, 49, 50]⟩, .int .i64 0, .bool false, .int .u64 128] W fun e w' => e = .returned (.bool true) ∧ Below W.heap.size W w' := by
  have h := rattacks 5 5 0 (bdL 5 1) P c [88, 49, 50] [120] [⟨5, 1, 2, 0, 0, 0⟩] false 128 W hP (bdL_bd (by decide)) (fun q hq => bdL_mem (by decide) hq) (by decide) kp_X12 (by decide +kernel)
  rw [bdL_len] at h
  exact h
theorem katt_6 (P : Option Addr) (c : Nat) (W : World) (hP : RecAt pEnc 1 W W.heap.size P (bdL 10 1)) : Calls Tryd.prog 12 #[.agg #[.int .i64 5, .int .i64 5, .slice P 25 c], .string ⟨#[99, 102, 76, 49, 49]⟩, .int .i64 12, .bool false, .int .u64 327680] W fun e w' => e = .returned (.bool true) ∧ Below W.heap.size W w' := by
  have h := rattacks 5 5 12 (bdL 10 1) P c [99, 102, 76, 49, 49] [120] [⟨1, 1, 1, 0, 2, 1⟩] false 327680 W hP (bdL_bd (by decide)) (fun q hq => bdL_mem (by decide) hq) (by decide) kp_cfL11 (by decide +kernel)
  rw [bdL_len] at h
  exact h
theorem katt_7 (P : Option Addr) (c : Nat) (W : World) (hP : RecAt pEnc 1 W W.heap.size P (bdL 10 1)) : Calls Tryd.prog 12 #[.agg #[.int .i64 5, .int .i64 5, .slice P 25 c], .string ⟨#[99, 102, 76, 49, 49]⟩, .int .i64 12, .bool true, .int .u64 320] W fun e w' => e = .returned (.bool true) ∧ Below W.heap.size W w' := by
  have h := rattacks 5 5 12 (bdL 10 1) P c [99, 102, 76, 49, 49] [120] [⟨1, 1, 1, 0, 2, 1⟩] true 320 W hP (bdL_bd (by decide)) (fun q hq => bdL_mem (by decide) hq) (by decide) kp_cfL11 (by decide +kernel)
  rw [bdL_len] at h
  exact h
theorem kgo_1 (P : Option Addr) (c : Nat) (A : Option Addr) (ca : Nat) (W : World) (hP : RecAt pEnc 1 W W.heap.size P (bdL 10 1)) (hR : RecAt aEnc 6 W W.heap.size A [⟨2, 0, 1, 0, 0, 0⟩]) : Calls Tryd.prog 14 #[.agg #[.int .i64 5, .int .i64 5, .slice P 25 c], .agg #[.string (bsB [120]), .slice A 1 ca], .int .i64 0, .bool false] W fun e w' => e = .returned (.tuple #[.int .u64 62, .int .i64 0]) ∧ Below W.heap.size W w' := by
  have hok := ((parR_iff _ _ _).1 kp_R01).1
  have h := pgoes_yes 5 5 0 (bdL 10 1) P c (bsB [120]) A [⟨2, 0, 1, 0, 0, 0⟩] ca false W hP hR (by rw [bdL_len]; decide) (wfA_fy hok) (by decide) (by rw [bs_size]; unfold maxLen; decide) (bdL_bd (by decide)) hok (fun q hq => bdL_mem (by decide) hq)
  rw [bdL_len] at h
  refine h.mono ?_
  rintro e w' ⟨h1, _, h3⟩
  rw [show keptN (fun p => p == 0) (bdL 10 1) (orL (visP 5 5 0 (bdL 10 1) false 2 [⟨2, 0, 1, 0, 0, 0⟩])) 25 = 62 by decide +kernel] at h1
  exact ⟨h1, h3⟩
theorem ktk_1 (P : Option Addr) (c : Nat) (A : Option Addr) (ca : Nat) (W : World) (hP : RecAt pEnc 1 W W.heap.size P (bdL 10 1)) (hR : RecAt aEnc 6 W W.heap.size A [⟨2, 0, 1, 0, 0, 0⟩]) : Calls Tryd.prog 15 #[.agg #[.int .i64 5, .int .i64 5, .slice P 25 c], .agg #[.string (bsB [120]), .slice A 1 ca], .int .i64 0, .bool false] W fun e w' => e = .returned (.tuple #[.int .u64 0, .int .i64 0]) ∧ Below W.heap.size W w' := by
  have hok := ((parR_iff _ _ _).1 kp_R01).1
  have h := ptakes_yes 5 5 0 (bdL 10 1) P c (bsB [120]) A [⟨2, 0, 1, 0, 0, 0⟩] ca false W hP hR (by rw [bdL_len]; decide) (wfA_fy hok) (by decide) (by rw [bs_size]; unfold maxLen; decide) (bdL_bd (by decide)) hok (fun q hq => bdL_mem (by decide) hq)
  rw [bdL_len] at h
  refine h.mono ?_
  rintro e w' ⟨h1, _, h3⟩
  rw [show keptN (enB false) (bdL 10 1) (orL (visP 5 5 0 (bdL 10 1) false 1 [⟨2, 0, 1, 0, 0, 0⟩])) 25 = 0 by decide +kernel] at h1
  exact ⟨h1, h3⟩
theorem ktk_2 (P : Option Addr) (c : Nat) (A : Option Addr) (ca : Nat) (W : World) (hP : RecAt pEnc 1 W W.heap.size P (bdL 10 (-1))) (hR : RecAt aEnc 6 W W.heap.size A [⟨2, 0, 1, 0, 0, 0⟩]) : Calls Tryd.prog 15 #[.agg #[.int .i64 5, .int .i64 5, .slice P 25 c], .agg #[.string (bsB [120]), .slice A 1 ca], .int .i64 0, .bool false] W fun e w' => e = .returned (.tuple #[.int .u64 1024, .int .i64 0]) ∧ Below W.heap.size W w' := by
  have hok := ((parR_iff _ _ _).1 kp_R01).1
  have h := ptakes_yes 5 5 0 (bdL 10 (-1)) P c (bsB [120]) A [⟨2, 0, 1, 0, 0, 0⟩] ca false W hP hR (by rw [bdL_len]; decide) (wfA_fy hok) (by decide) (by rw [bs_size]; unfold maxLen; decide) (bdL_bd (by decide)) hok (fun q hq => bdL_mem (by decide) hq)
  rw [bdL_len] at h
  refine h.mono ?_
  rintro e w' ⟨h1, _, h3⟩
  rw [show keptN (enB false) (bdL 10 (-1)) (orL (visP 5 5 0 (bdL 10 (-1)) false 1 [⟨2, 0, 1, 0, 0, 0⟩])) 25 = 1024 by decide +kernel] at h1
  exact ⟨h1, h3⟩
theorem kgo_2 (P : Option Addr) (c : Nat) (A : Option Addr) (ca : Nat) (W : World) (hP : RecAt pEnc 1 W W.heap.size P (bdL 10 1)) (hR : RecAt aEnc 6 W W.heap.size A [⟨2, 0, 1, 2, 1, 1⟩]) : Calls Tryd.prog 14 #[.agg #[.int .i64 5, .int .i64 5, .slice P 25 c], .agg #[.string (bsB [120]), .slice A 1 ca], .int .i64 1, .bool false] W fun e w' => e = .returned (.tuple #[.int .u64 2112, .int .i64 0]) ∧ Below W.heap.size W w' := by
  have hok := ((parR_iff _ _ _).1 kp_mfR01x2).1
  have h := pgoes_yes 5 5 1 (bdL 10 1) P c (bsB [120]) A [⟨2, 0, 1, 2, 1, 1⟩] ca false W hP hR (by rw [bdL_len]; decide) (wfA_fy hok) (by decide) (by rw [bs_size]; unfold maxLen; decide) (bdL_bd (by decide)) hok (fun q hq => bdL_mem (by decide) hq)
  rw [bdL_len] at h
  refine h.mono ?_
  rintro e w' ⟨h1, _, h3⟩
  rw [show keptN (fun p => p == 0) (bdL 10 1) (orL (visP 5 5 1 (bdL 10 1) false 2 [⟨2, 0, 1, 2, 1, 1⟩])) 25 = 2112 by decide +kernel] at h1
  exact ⟨h1, h3⟩
theorem kst1 (W : World) : Calls Tryd.prog 8 #[.agg #[.int .i64 1, .int .i64 1, .int .i64 2, .int .i64 0, .int .i64 0, .int .i64 0], .bool false] W fun e w' => ∃ A c, e = .returned (.tuple #[.slice A 8 c, .int .i64 0]) ∧ RecAt sEnc 2 w' w'.heap.size A [⟨-1, -2⟩, ⟨1, -2⟩, ⟨-2, -1⟩, ⟨2, -1⟩, ⟨-2, 1⟩, ⟨2, 1⟩, ⟨-1, 2⟩, ⟨1, 2⟩] ∧ Below W.heap.size W w' := by
  refine (pStepsOf ⟨1, 1, 2, 0, 0, 0⟩ false W).mono ?_
  rintro e w' h
  have e1 : stepsE ⟨1, 1, 2, 0, 0, 0⟩ false = [⟨-1, -2⟩, ⟨1, -2⟩, ⟨-2, -1⟩, ⟨2, -1⟩, ⟨-2, 1⟩, ⟨2, 1⟩, ⟨-1, 2⟩, ⟨1, 2⟩] := by decide +kernel
  have e2 : errE ⟨1, 1, 2, 0, 0, 0⟩ = 0 := by decide +kernel
  obtain ⟨A, c, he, hR⟩ := h.out
  rw [e1, e2] at he
  rw [e1] at hR
  exact ⟨A, c, he, hR, h.below⟩
theorem kst2 (W : World) : Calls Tryd.prog 8 #[.agg #[.int .i64 1, .int .i64 1, .int .i64 1, .int .i64 0, .int .i64 2, .int .i64 1], .bool true] W fun e w' => ∃ A c, e = .returned (.tuple #[.slice A 2 c, .int .i64 0]) ∧ RecAt sEnc 2 w' w'.heap.size A [⟨-1, -1⟩, ⟨1, -1⟩] ∧ Below W.heap.size W w' := by
  refine (pStepsOf ⟨1, 1, 1, 0, 2, 1⟩ true W).mono ?_
  rintro e w' h
  have e1 : stepsE ⟨1, 1, 1, 0, 2, 1⟩ true = [⟨-1, -1⟩, ⟨1, -1⟩] := by decide +kernel
  have e2 : errE ⟨1, 1, 1, 0, 2, 1⟩ = 0 := by decide +kernel
  obtain ⟨A, c, he, hR⟩ := h.out
  rw [e1, e2] at he
  rw [e1] at hR
  exact ⟨A, c, he, hR, h.below⟩
theorem kbad_0 : parR [120, 32, 82, 49, 48] = none := par_bad ⟨2, 1, 0, 0, 0, 0⟩ (by decide +kernel) (by decide +kernel)
theorem kbad_1 : parR [120, 32, 76, 49, 50, 120, 50] = none := par_bad ⟨1, 1, 2, 2, 0, 0⟩ (by decide +kernel) (by decide +kernel)
theorem kbad_2 : parR [120, 32, 99, 109, 76, 49, 50] = none := par_bad ⟨0, 0, 0, 0, 2, 0⟩ (by decide +kernel) (by decide +kernel)
theorem kbad_3 : parR [82, 48, 49] = none := par_bad ⟨0, 0, 0, 0, 0, 0⟩ (by decide +kernel) (by decide +kernel)
theorem kparse_no {s : List UInt8} (W : World) (m0 : Int) (hM : MX W m0) (hs : s.length ≤ 10000) (h : parR s = none) : Calls Tryd.prog 5 #[.string (bsB s)] W fun e w' => e = .returned (.tuple #[.agg #[.string ⟨#[]⟩, .slice none 0 0], .int .i64 6]) ∧ Below W.heap.size W w' := by
  refine (pparse s W m0 hs hM).mono ?_
  rintro e w' hp
  exact ⟨hp.no h, hp.below⟩
set_option maxRecDepth 100000 in
set_option maxHeartbeats 16000000 in
theorem known_27 (w : World) (m0 : Int) (hM : MX w m0) (hK : PC.KindsAt w) (hg : 0 < w.heap.size) : Calls Tryd.prog 4 #[] w fun e w' => e = .returned (.bool true) ∧ Below w.heap.size w w' := by
  have hMH := Lib.hid hM
  have hKH : Hid (PC.KindsAt w ∧ 0 < w.heap.size) := ⟨hK, hg⟩
  have hfl := run_atoms (bsB [120])
  clear hM hK hg
  go_enter Tryd.func4, Tryd.ntmps4
  go_wp2_with fail
  go_at_call 9
  refine (rpiece [76, 49, 50] [120] [⟨1, 1, 2, 0, 0, 0⟩] _ (by decide) kp_L12).mono ?_
  rintro e w1 hFy
  obtain ⟨A1, c1, rfl, hR1⟩ := hFy.out
  have hb1 := Lib.hid hFy.below
  obtain ⟨b1, o1, rfl, hbl1, hat1⟩ := atoms6_of hR1 (k := 0) rfl
  rw [Nat.zero_mul, Nat.add_zero] at hat1
  obtain ⟨g0, g1, g2, g3, g4, g5⟩ := hat1
  dsimp only at g0 g1 g2 g3 g4 g5
  clear hFy hR1
  go_wp2_with fail
  go_at_call 8
  refine (kst1 _).mono ?_
  rintro e w2 ⟨A2, c2, rfl, hS2, hb⟩
  have hb2 : Hid (Below w.heap.size w w2) := hb1.out.trans (hb.mono hb1.out.size)
  replace hS2 := Lib.hid hS2
  clear hb hb1 g0 g1 g2 g3 g4 g5 hbl1
  go_wp2_with fail
  go_at_call 9
  refine (rpiece [99, 102, 76, 49, 49] [120] [⟨1, 1, 1, 0, 2, 1⟩] _ (by decide) kp_cfL11).mono ?_
  rintro e w3 hFy
  obtain ⟨A1, c1, rfl, hR1⟩ := hFy.out
  have hb3 := Lib.hid hFy.below
  obtain ⟨b1, o1, rfl, hbl1, hat1⟩ := atoms6_of hR1 (k := 0) rfl
  rw [Nat.zero_mul, Nat.add_zero] at hat1
  obtain ⟨g0, g1, g2, g3, g4, g5⟩ := hat1
  dsimp only at g0 g1 g2 g3 g4 g5
  clear hFy hR1
  go_wp2_with fail
  go_at_call 8
  refine (kst2 _).mono ?_
  rintro e w4 ⟨A4, c4, rfl, hS4, hb⟩
  have hb24 : Hid (Below w2.heap.size w2 w4) := hb3.out.trans (hb.mono hb3.out.size)
  have hb4 : Hid (Below w.heap.size w w4) := hb2.out.trans (hb24.out.mono hb2.out.size)
  replace hS4 := Lib.hid hS4
  clear hb hb3 g0 g1 g2 g3 g4 g5 hbl1
  obtain ⟨b2, o2, rfl, hbl2, hf2⟩ := steps2_of hS2.out (k := 0) rfl
  obtain ⟨b2', o2', e2, _, hl2⟩ := steps2_of hS2.out (k := 7) rfl
  cases e2
  obtain ⟨s0, s1⟩ := hf2.next hbl2 hb24.out
  obtain ⟨s2, s3⟩ := hl2.next hbl2 hb24.out
  rw [Nat.zero_mul, Nat.add_zero] at s0 s1
  dsimp only at s0 s1 s2 s3
  have n1 : ∀ W : World, (binOp .neq 43 (.agg #[.int .i64 (-1), .int .i64 (-2)]) (.agg #[.int .i64 (-1), .int .i64 (-2)])).run Tryd.prog W = .ok (.bool false) W := fun W => run_neq_stE ⟨-1, -2⟩ ⟨-1, -2⟩ W
  have n2 : ∀ W : World, (binOp .neq 43 (.agg #[.int .i64 1, .int .i64 2]) (.agg #[.int .i64 1, .int .i64 2])).run Tryd.prog W = .ok (.bool false) W := fun W => run_neq_stE ⟨1, 2⟩ ⟨1, 2⟩ W
  have hbs : Hid (Below w4.heap.size w4 (w4.alloc (.cells #[.int .i64 (-1), .int .i64 (-1), .int .i64 1, .int .i64 (-1)] 43))) := (Below.refl _ _).alloc (Nat.le_refl _) _
  have hsm : Hid (Calls Tryd.prog 10 #[.slice A4 2 c4, .slice (some ⟨w4.heap.size, 0, none⟩) 2 2] (w4.alloc (.cells #[.int .i64 (-1), .int .i64 (-1), .int .i64 1, .int .i64 (-1)] 43)) fun e w' => e = .returned (.bool true) ∧ Below (w4.alloc (.cells #[.int .i64 (-1), .int .i64 (-1), .int .i64 1, .int .i64 (-1)] 43)).heap.size (w4.alloc (.cells #[.int .i64 (-1), .int .i64 (-1), .int .i64 1, .int .i64 (-1)] 43)) w') := rsame A4 (some ⟨w4.heap.size, 0, none⟩) c4 2 [⟨-1, -1⟩, ⟨1, -1⟩] [⟨-1, -1⟩, ⟨1, -1⟩] _ (recs_next hS4.out hbs.out) (recs_two_st w4 ⟨-1, -1⟩ ⟨1, -1⟩ _) (by decide) (by decide)
  go_upto_region 5 with (go_at_call 10; refine hsm.out.mono ?_; rintro e w5 ⟨rfl, hb⟩; have hb5 : Hid (Below w.heap.size w w5) := hb4.out.trans ((hbs.out.trans (hb.mono hbs.out.size)).mono hb4.out.size); clear hb)
  go_wp2_with fail
  go_at_call 11
  refine (rbd 10 1 _ (by decide)).mono ?_
  rintro e w6 hBd
  obtain ⟨P, cP, rfl, hO6⟩ := hBd.out
  have hb6 : Hid (Below w.heap.size w w6) := hb5.out.trans (hBd.below.mono hb5.out.size)
  have hP6 := Lib.hid (hO6.recs pEnc_len)
  rw [bdL_len]
  clear hBd hO6 hb5 hb4 hb24 hb2 hS2 hS4 hbs hsm hf2 hl2 hfl s0 s1 s2 s3 n1 n2
  have hX := Lib.hid (KBd.new w6 5 5 P 25 cP)
  have hba : Hid (Below w6.heap.size w6 (w6.alloc (bdO 5 5 P 25 cP))) := (Below.refl _ _).alloc (Nat.le_refl _) _
  go_upto_region 6 with fail
  have hPu := Lib.hid (recs_next hP6.out hba.out)
  have hbu : Hid (Below w.heap.size w (w6.alloc (bdO 5 5 P 25 cP))) := hb6.out.trans (hba.out.mono hb6.out.size)
  generalize w6.heap.size = B5 at hX ⊢
  generalize w6.alloc (.cells #[.int .i64 5, .int .i64 5, .slice P 25 cP] 48) = u at *
  have hS : Hid (∀ W, Below u.heap.size u W → W.cell? ⟨B5, 0, none⟩ = some (.int .i64 5) ∧ W.cell? ⟨B5, 1, none⟩ = some (.int .i64 5) ∧ W.cell? ⟨B5, 2, none⟩ = some (.slice P 25 cP)) := fun W h => by
    have hk := hX.out.next h
    exact ⟨hk.c0, hk.c1, hk.c2⟩
  clear hba hP6 hb6
  go_cut [121] from 18 to 217 (fun s121 wc => s121 = .bool false ∧ Hid (Below u.heap.size u wc))
  case first =>
    refine wp_region_held_drew (S := fun W => W.cell? ⟨B5, 0, none⟩ = some (.int .i64 5) ∧ W.cell? ⟨B5, 1, none⟩ = some (.int .i64 5) ∧ W.cell? ⟨B5, 2, none⟩ = some (.slice P 25 cP)) (by kernel_rfl) (hS.out _ ((Below.refl _ _).drew)) (fun hHeld => ?_)
    have hv0 : Hid (Below u.heap.size u u.drew) := (Below.refl _ _).drew
    generalize u.drew = v0 at hv0 hHeld ⊢
    refine wpAnyH_take (i := 0) (v := ?_) rfl (by kernel_rfl) (by kernel_rfl) (by kernel_rfl) (fun _ _ _ h => h) (Or.inl ⟨by rfl, ?_⟩) hHeld ?_
    rotate_left
    · intro W9 hSw; (try dsimp only at hSw); go_simp; (try with_reducible rfl)
    simp only [Act.put, List.getElem_toArray, List.getElem_cons_zero, List.getElem_cons_succ, List.setIfInBounds_toArray, List.set_cons_zero, List.set_cons_succ]
    have hbA : Hid (Below u.heap.size u (v0.alloc (.cells #[.int .i64 7, .int .i64 11] 3))) := hv0.out.alloc hv0.out.size _
    refine wpAnyH_ready (rs := [1]) (by kernel_rfl) (by simp) ?_
    refine AllReadyH.cons rfl (fun K hK => ?_) AllReadyH.nil
    go_simp
    refine hK.out _ _ (hS.out _ hbA.out) (fun hHeld2 => ?_)
    clear hK K hHeld
    have hHeld := hHeld2
    clear hHeld2
    refine wpAnyH_ready (rs := [2]) (by kernel_rfl) (by simp) ?_
    refine AllReadyH.cons rfl (fun K hK => ?_) AllReadyH.nil
    go_simp
    go_at_call 13
    refine (kset_0 _ _ rfl).mono ?_
    rintro e w' ⟨rfl, rfl⟩
    refine hK.out _ _ (hS.out _ hbA.out) (fun hHeld2 => ?_)
    clear hK K hHeld
    have hHeld := hHeld2
    clear hHeld2
    refine wpAnyH_ready (rs := [3]) (by kernel_rfl) (by simp) ?_
    refine AllReadyH.cons rfl (fun K hK => ?_) AllReadyH.nil
    go_simp
    go_at_call 12
    refine (katt_0 _ _ _ (recs_next hPu.out hbA.out)).mono ?_
    rintro e v1 ⟨rfl, hb⟩
    have hv1 : Hid (Below u.heap.size u v1) := hbA.out.trans (hb.mono hbA.out.size)
    clear hb hbA
    refine hK.out _ _ (hS.out _ hv1.out) (fun hHeld2 => ?_)
    clear hK K hHeld
    have hHeld := hHeld2
    clear hHeld2
    refine wpAnyH_take (i := 4) (v := ?_) rfl (by kernel_rfl) (by kernel_rfl) (by kernel_rfl) (fun _ _ _ h => h) (Or.inl ⟨by rfl, ?_⟩) hHeld ?_
    rotate_left
    · intro W9 hSw; (try dsimp only at hSw); go_simp; (try with_reducible rfl)
    simp only [Act.put, List.getElem_toArray, List.getElem_cons_zero, List.getElem_cons_succ, List.setIfInBounds_toArray, List.set_cons_zero, List.set_cons_succ]
    refine wpAnyH_take (i := 5) (v := ?_) rfl (by kernel_rfl) (by kernel_rfl) (by kernel_rfl) (fun _ _ _ h => h) (Or.inl ⟨by rfl, ?_⟩) hHeld ?_
    rotate_left
    · intro W9 hSw; (try dsimp only at hSw); go_simp; (try with_reducible rfl)
    simp only [Act.put, List.getElem_toArray, List.getElem_cons_zero, List.getElem_cons_succ, List.setIfInBounds_toArray, List.set_cons_zero, List.set_cons_succ]
    refine wpAnyH_take (i := 6) (v := ?_) rfl (by kernel_rfl) (by kernel_rfl) (by kernel_rfl) (fun _ _ _ h => h) (Or.inl ⟨by rfl, ?_⟩) hHeld ?_
    rotate_left
    · intro W9 hSw; (try dsimp only at hSw); go_simp; (try with_reducible rfl)
    simp only [Act.put, List.getElem_toArray, List.getElem_cons_zero, List.getElem_cons_succ, List.setIfInBounds_toArray, List.set_cons_zero, List.set_cons_succ]
    have hbA : Hid (Below u.heap.size u (v1.alloc (.cells #[.int .i64 1, .int .i64 2, .int .i64 3, .int .i64 4, .int .i64 5, .int .i64 10] 3))) := hv1.out.alloc hv1.out.size _
    refine wpAnyH_ready (rs := [7]) (by kernel_rfl) (by simp) ?_
    refine AllReadyH.cons rfl (fun K hK => ?_) AllReadyH.nil
    go_simp
    refine hK.out _ _ (hS.out _ hbA.out) (fun hHeld2 => ?_)
    clear hK K hHeld
    have hHeld := hHeld2
    clear hHeld2
    refine wpAnyH_ready (rs := [8]) (by kernel_rfl) (by simp) ?_
    refine AllReadyH.cons rfl (fun K hK => ?_) AllReadyH.nil
    go_simp
    go_at_call 13
    refine (kset_1 _ _ rfl).mono ?_
    rintro e w' ⟨rfl, rfl⟩
    refine hK.out _ _ (hS.out _ hbA.out) (fun hHeld2 => ?_)
    clear hK K hHeld
    have hHeld := hHeld2
    clear hHeld2
    refine wpAnyH_ready (rs := [9]) (by kernel_rfl) (by simp) ?_
    refine AllReadyH.cons rfl (fun K hK => ?_) AllReadyH.nil
    go_simp
    go_at_call 12
    refine (katt_1 _ _ _ (recs_next hPu.out hbA.out)).mono ?_
    rintro e v2 ⟨rfl, hb⟩
    have hv2 : Hid (Below u.heap.size u v2) := hbA.out.trans (hb.mono hbA.out.size)
    clear hb hbA
    refine hK.out _ _ (hS.out _ hv2.out) (fun hHeld2 => ?_)
    clear hK K hHeld
    have hHeld := hHeld2
    clear hHeld2
    refine wpAnyH_take (i := 10) (v := ?_) rfl (by kernel_rfl) (by kernel_rfl) (by kernel_rfl) (fun _ _ _ h => h) (Or.inl ⟨by rfl, ?_⟩) hHeld ?_
    rotate_left
    · intro W9 hSw; (try dsimp only at hSw); go_simp; (try with_reducible rfl)
    simp only [Act.put, List.getElem_toArray, List.getElem_cons_zero, List.getElem_cons_succ, List.setIfInBounds_toArray, List.set_cons_zero, List.set_cons_succ]
    refine wpAnyH_take (i := 11) (v := ?_) rfl (by kernel_rfl) (by kernel_rfl) (by kernel_rfl) (fun _ _ _ h => h) (Or.inl ⟨by rfl, ?_⟩) hHeld ?_
    rotate_left
    · intro W9 hSw; (try dsimp only at hSw); go_simp; (try with_reducible rfl)
    simp only [Act.put, List.getElem_toArray, List.getElem_cons_zero, List.getElem_cons_succ, List.setIfInBounds_toArray, List.set_cons_zero, List.set_cons_succ]
    refine wpAnyH_take (i := 12) (v := ?_) rfl (by kernel_rfl) (by kernel_rfl) (by kernel_rfl) (fun _ _ _ h => h) (Or.inl ⟨by rfl, ?_⟩) hHeld ?_
    rotate_left
    · intro W9 hSw; (try dsimp only at hSw); go_simp; (try with_reducible rfl)
    simp only [Act.put, List.getElem_toArray, List.getElem_cons_zero, List.getElem_cons_succ, List.setIfInBounds_toArray, List.set_cons_zero, List.set_cons_succ]
    refine wpAnyH_take (i := 13) (v := ?_) rfl (by kernel_rfl) (by kernel_rfl) (by kernel_rfl) (fun _ _ _ h => h) (Or.inl ⟨by rfl, ?_⟩) hHeld ?_
    rotate_left
    · intro W9 hSw; (try dsimp only at hSw); go_simp; (try with_reducible rfl)
    simp only [Act.put, List.getElem_toArray, List.getElem_cons_zero, List.getElem_cons_succ, List.setIfInBounds_toArray, List.set_cons_zero, List.set_cons_succ]
    have hbA : Hid (Below u.heap.size u (v2.alloc (.cells #[.int .i64 15] 3))) := hv2.out.alloc hv2.out.size _
    refine wpAnyH_ready (rs := [14]) (by kernel_rfl) (by simp) ?_
    refine AllReadyH.cons rfl (fun K hK => ?_) AllReadyH.nil
    go_simp
    refine hK.out _ _ (hS.out _ hbA.out) (fun hHeld2 => ?_)
    clear hK K hHeld
    have hHeld := hHeld2
    clear hHeld2
    refine wpAnyH_ready (rs := [15]) (by kernel_rfl) (by simp) ?_
    refine AllReadyH.cons rfl (fun K hK => ?_) AllReadyH.nil
    go_simp
    go_at_call 13
    refine (kset_2 _ _ rfl).mono ?_
    rintro e w' ⟨rfl, rfl⟩
    refine hK.out _ _ (hS.out _ hbA.out) (fun hHeld2 => ?_)
    clear hK K hHeld
    have hHeld := hHeld2
    clear hHeld2
    refine wpAnyH_ready (rs := [16]) (by kernel_rfl) (by simp) ?_
    refine AllReadyH.cons rfl (fun K hK => ?_) AllReadyH.nil
    go_simp
    go_at_call 12
    refine (katt_2 _ _ _ (recs_next hPu.out hbA.out)).mono ?_
    rintro e v3 ⟨rfl, hb⟩
    have hv3 : Hid (Below u.heap.size u v3) := hbA.out.trans (hb.mono hbA.out.size)
    clear hb hbA
    refine hK.out _ _ (hS.out _ hv3.out) (fun hHeld2 => ?_)
    clear hK K hHeld
    have hHeld := hHeld2
    clear hHeld2
    refine wpAnyH_take (i := 17) (v := ?_) rfl (by kernel_rfl) (by kernel_rfl) (by kernel_rfl) (fun _ _ _ h => h) (Or.inl ⟨by rfl, ?_⟩) hHeld ?_
    rotate_left
    · intro W9 hSw; (try dsimp only at hSw); go_simp; (try with_reducible rfl)
    simp only [Act.put, List.getElem_toArray, List.getElem_cons_zero, List.getElem_cons_succ, List.setIfInBounds_toArray, List.set_cons_zero, List.set_cons_succ]
    refine wpAnyH_take (i := 18) (v := ?_) rfl (by kernel_rfl) (by kernel_rfl) (by kernel_rfl) (fun _ _ _ h => h) (Or.inl ⟨by rfl, ?_⟩) hHeld ?_
    rotate_left
    · intro W9 hSw; (try dsimp only at hSw); go_simp; (try with_reducible rfl)
    simp only [Act.put, List.getElem_toArray, List.getElem_cons_zero, List.getElem_cons_succ, List.setIfInBounds_toArray, List.set_cons_zero, List.set_cons_succ]
    refine wpAnyH_take (i := 19) (v := ?_) rfl (by kernel_rfl) (by kernel_rfl) (by kernel_rfl) (fun _ _ _ h => h) (Or.inl ⟨by rfl, ?_⟩) hHeld ?_
    rotate_left
    · intro W9 hSw; (try dsimp only at hSw); go_simp; (try with_reducible rfl)
    simp only [Act.put, List.getElem_toArray, List.getElem_cons_zero, List.getElem_cons_succ, List.setIfInBounds_toArray, List.set_cons_zero, List.set_cons_succ]
    refine wpAnyH_take (i := 20) (v := ?_) rfl (by kernel_rfl) (by kernel_rfl) (by kernel_rfl) (fun _ _ _ h => h) (Or.inl ⟨by rfl, ?_⟩) hHeld ?_
    rotate_left
    · intro W9 hSw; (try dsimp only at hSw); go_simp; (try with_reducible rfl)
    simp only [Act.put, List.getElem_toArray, List.getElem_cons_zero, List.getElem_cons_succ, List.setIfInBounds_toArray, List.set_cons_zero, List.set_cons_succ]
    have hbA : Hid (Below u.heap.size u (v3.alloc (.cells #[.int .i64 15, .int .i64 20] 3))) := hv3.out.alloc hv3.out.size _
    refine wpAnyH_ready (rs := [21]) (by kernel_rfl) (by simp) ?_
    refine AllReadyH.cons rfl (fun K hK => ?_) AllReadyH.nil
    go_simp
    refine hK.out _ _ (hS.out _ hbA.out) (fun hHeld2 => ?_)
    clear hK K hHeld
    have hHeld := hHeld2
    clear hHeld2
    refine wpAnyH_ready (rs := [22]) (by kernel_rfl) (by simp) ?_
    refine AllReadyH.cons rfl (fun K hK => ?_) AllReadyH.nil
    go_simp
    go_at_call 13
    refine (kset_3 _ _ rfl).mono ?_
    rintro e w' ⟨rfl, rfl⟩
    refine hK.out _ _ (hS.out _ hbA.out) (fun hHeld2 => ?_)
    clear hK K hHeld
    have hHeld := hHeld2
    clear hHeld2
    refine wpAnyH_ready (rs := [23]) (by kernel_rfl) (by simp) ?_
    refine AllReadyH.cons rfl (fun K hK => ?_) AllReadyH.nil
    go_simp
    go_at_call 12
    refine (katt_3 _ _ _ (recs_next hPu.out hbA.out)).mono ?_
    rintro e v4 ⟨rfl, hb⟩
    have hv4 : Hid (Below u.heap.size u v4) := hbA.out.trans (hb.mono hbA.out.size)
    clear hb hbA
    refine hK.out _ _ (hS.out _ hv4.out) (fun hHeld2 => ?_)
    clear hK K hHeld
    have hHeld := hHeld2
    clear hHeld2
    refine wpAnyH_take (i := 24) (v := ?_) rfl (by kernel_rfl) (by kernel_rfl) (by kernel_rfl) (fun _ _ _ h => h) (Or.inl ⟨by rfl, ?_⟩) hHeld ?_
    rotate_left
    · intro W9 hSw; (try dsimp only at hSw); go_simp; (try with_reducible rfl)
    simp only [Act.put, List.getElem_toArray, List.getElem_cons_zero, List.getElem_cons_succ, List.setIfInBounds_toArray, List.set_cons_zero, List.set_cons_succ]
    refine wpAnyH_take (i := 25) (v := ?_) rfl (by kernel_rfl) (by kernel_rfl) (by kernel_rfl) (fun _ _ _ h => h) (Or.inl ⟨by rfl, ?_⟩) hHeld ?_
    rotate_left
    · intro W9 hSw; (try dsimp only at hSw); go_simp; (try with_reducible rfl)
    simp only [Act.put, List.getElem_toArray, List.getElem_cons_zero, List.getElem_cons_succ, List.setIfInBounds_toArray, List.set_cons_zero, List.set_cons_succ]
    refine wpAnyH_take (i := 26) (v := ?_) rfl (by kernel_rfl) (by kernel_rfl) (by kernel_rfl) (fun _ _ _ h => h) (Or.inl ⟨by rfl, ?_⟩) hHeld ?_
    rotate_left
    · intro W9 hSw; (try dsimp only at hSw); go_simp; (try with_reducible rfl)
    simp only [Act.put, List.getElem_toArray, List.getElem_cons_zero, List.getElem_cons_succ, List.setIfInBounds_toArray, List.set_cons_zero, List.set_cons_succ]
    refine wpAnyH_take (i := 27) (v := ?_) rfl (by kernel_rfl) (by kernel_rfl) (by kernel_rfl) (fun _ _ _ h => h) (Or.inl ⟨by rfl, ?_⟩) hHeld ?_
    rotate_left
    · intro W9 hSw; (try dsimp only at hSw); go_simp; (try with_reducible rfl)
    simp only [Act.put, List.getElem_toArray, List.getElem_cons_zero, List.getElem_cons_succ, List.setIfInBounds_toArray, List.set_cons_zero, List.set_cons_succ]
    have hbA : Hid (Below u.heap.size u (v4.alloc (.cells #[.int .i64 7, .int .i64 11] 3))) := hv4.out.alloc hv4.out.size _
    refine wpAnyH_ready (rs := [28]) (by kernel_rfl) (by simp) ?_
    refine AllReadyH.cons rfl (fun K hK => ?_) AllReadyH.nil
    go_simp
    refine hK.out _ _ (hS.out _ hbA.out) (fun hHeld2 => ?_)
    clear hK K hHeld
    have hHeld := hHeld2
    clear hHeld2
    refine wpAnyH_ready (rs := [29]) (by kernel_rfl) (by simp) ?_
    refine AllReadyH.cons rfl (fun K hK => ?_) AllReadyH.nil
    go_simp
    go_at_call 13
    refine (kset_0 _ _ rfl).mono ?_
    rintro e w' ⟨rfl, rfl⟩
    refine hK.out _ _ (hS.out _ hbA.out) (fun hHeld2 => ?_)
    clear hK K hHeld
    have hHeld := hHeld2
    clear hHeld2
    refine wpAnyH_ready (rs := [30]) (by kernel_rfl) (by simp) ?_
    refine AllReadyH.cons rfl (fun K hK => ?_) AllReadyH.nil
    go_simp
    go_at_call 12
    refine (katt_4 _ _ _ (recs_next hPu.out hbA.out)).mono ?_
    rintro e v5 ⟨rfl, hb⟩
    have hv5 : Hid (Below u.heap.size u v5) := hbA.out.trans (hb.mono hbA.out.size)
    clear hb hbA
    refine hK.out _ _ (hS.out _ hv5.out) (fun hHeld2 => ?_)
    clear hK K hHeld
    have hHeld := hHeld2
    clear hHeld2
    refine wpAnyH_take (i := 31) (v := ?_) rfl (by kernel_rfl) (by kernel_rfl) (by kernel_rfl) (fun _ _ _ h => h) (Or.inl ⟨by rfl, ?_⟩) hHeld ?_
    rotate_left
    · intro W9 hSw; (try dsimp only at hSw); go_simp; (try with_reducible rfl)
    simp only [Act.put, List.getElem_toArray, List.getElem_cons_zero, List.getElem_cons_succ, List.setIfInBounds_toArray, List.set_cons_zero, List.set_cons_succ]
    refine wpAnyH_take (i := 32) (v := ?_) rfl (by kernel_rfl) (by kernel_rfl) (by kernel_rfl) (fun _ _ _ h => h) (Or.inl ⟨by rfl, ?_⟩) hHeld ?_
    rotate_left
    · intro W9 hSw; (try dsimp only at hSw); go_simp; (try with_reducible rfl)
    simp only [Act.put, List.getElem_toArray, List.getElem_cons_zero, List.getElem_cons_succ, List.setIfInBounds_toArray, List.set_cons_zero, List.set_cons_succ]
    refine wpAnyH_take (i := 33) (v := ?_) rfl (by kernel_rfl) (by kernel_rfl) (by kernel_rfl) (fun _ _ _ h => h) (Or.inl ⟨by rfl, ?_⟩) hHeld ?_
    rotate_left
    · intro W9 hSw; (try dsimp only at hSw); go_simp; (try with_reducible rfl)
    simp only [Act.put, List.getElem_toArray, List.getElem_cons_zero, List.getElem_cons_succ, List.setIfInBounds_toArray, List.set_cons_zero, List.set_cons_succ]
    refine wpAnyH_ready (rs := [34, 35]) (by kernel_rfl) (by simp) ?_
    refine AllReadyH.cons rfl (fun K hK => ?_) (AllReadyH.cons rfl (fun K hK => ?_) AllReadyH.nil)
    · go_simp
      go_at_call 11
      refine (rbd 5 1 _ (by decide)).mono ?_
      rintro e x5 hBd
      obtain ⟨P5, c5, rfl, hO5⟩ := hBd.out
      rw [bdL_len]
      have hbd5 := Lib.hid hBd.below
      replace hO5 := Lib.hid hO5
      clear hBd
      have hx5 : Hid (Below u.heap.size u x5) := hv5.out.trans (hbd5.out.mono hv5.out.size)
      refine hK.out _ _ (hS.out _ hx5.out) (fun hHeld2 => ?_)
      clear hK K hHeld
      have hHeld := hHeld2
      clear hHeld2
      have hbA : Hid (Below u.heap.size u (x5.alloc (.cells #[.int .i64 7] 3))) := hx5.out.alloc hx5.out.size _
      have hP5 := Lib.hid (recs_next (hO5.out.recs pEnc_len) ((Below.refl x5.heap.size x5).alloc (Nat.le_refl _) (.cells #[.int .i64 7] 3)))
      refine wpAnyH_ready (rs := [35]) (by kernel_rfl) (by simp) ?_
      refine AllReadyH.cons rfl (fun K hK => ?_) AllReadyH.nil
      go_simp
      refine hK.out _ _ (hS.out _ hbA.out) (fun hHeld2 => ?_)
      clear hK K hHeld
      have hHeld := hHeld2
      clear hHeld2
      refine wpAnyH_ready (rs := [36]) (by kernel_rfl) (by simp) ?_
      refine AllReadyH.cons rfl (fun K hK => ?_) AllReadyH.nil
      go_simp
      go_at_call 13
      refine (kset_4 _ _ rfl).mono ?_
      rintro e w' ⟨rfl, rfl⟩
      refine hK.out _ _ (hS.out _ hbA.out) (fun hHeld2 => ?_)
      clear hK K hHeld
      have hHeld := hHeld2
      clear hHeld2
      refine wpAnyH_ready (rs := [37]) (by kernel_rfl) (by simp) ?_
      refine AllReadyH.cons rfl (fun K hK => ?_) AllReadyH.nil
      go_simp
      go_at_call 12
      refine (katt_5 _ _ _ hP5.out).mono ?_
      rintro e v6 ⟨rfl, hb⟩
      have hv6 : Hid (Below u.heap.size u v6) := hbA.out.trans (hb.mono hbA.out.size)
      clear hb hbA
      refine hK.out _ _ (hS.out _ hv6.out) (fun hHeld2 => ?_)
      clear hK K hHeld
      have hHeld := hHeld2
      clear hHeld2
      refine wpAnyH_take (i := 38) (v := ?_) rfl (by kernel_rfl) (by kernel_rfl) (by kernel_rfl) (fun _ _ _ h => h) (Or.inl ⟨by rfl, ?_⟩) hHeld ?_
      rotate_left
      · intro W9 hSw; (try dsimp only at hSw); go_simp; (try with_reducible rfl)
      simp only [Act.put, List.getElem_toArray, List.getElem_cons_zero, List.getElem_cons_succ, List.setIfInBounds_toArray, List.set_cons_zero, List.set_cons_succ]
      refine wpAnyH_take (i := 39) (v := ?_) rfl (by kernel_rfl) (by kernel_rfl) (by kernel_rfl) (fun _ _ _ h => h) (Or.inl ⟨by rfl, ?_⟩) hHeld ?_
      rotate_left
      · intro W9 hSw; (try dsimp only at hSw); go_simp; (try with_reducible rfl)
      simp only [Act.put, List.getElem_toArray, List.getElem_cons_zero, List.getElem_cons_succ, List.setIfInBounds_toArray, List.set_cons_zero, List.set_cons_succ]
      refine wpAnyH_take (i := 40) (v := ?_) rfl (by kernel_rfl) (by kernel_rfl) (by kernel_rfl) (fun _ _ _ h => h) (Or.inl ⟨by rfl, ?_⟩) hHeld ?_
      rotate_left
      · intro W9 hSw; (try dsimp only at hSw); go_simp; (try with_reducible rfl)
      simp only [Act.put, List.getElem_toArray, List.getElem_cons_zero, List.getElem_cons_succ, List.setIfInBounds_toArray, List.set_cons_zero, List.set_cons_succ]
      refine wpAnyH_take (i := 41) (v := ?_) rfl (by kernel_rfl) (by kernel_rfl) (by kernel_rfl) (fun _ _ _ h => h) (Or.inl ⟨by rfl, ?_⟩) hHeld ?_
      rotate_left
      · intro W9 hSw; (try dsimp only at hSw); go_simp; (try with_reducible rfl)
      simp only [Act.put, List.getElem_toArray, List.getElem_cons_zero, List.getElem_cons_succ, List.setIfInBounds_toArray, List.set_cons_zero, List.set_cons_succ]
      have hbA : Hid (Below u.heap.size u (v6.alloc (.cells #[.int .i64 16, .int .i64 18] 3))) := hv6.out.alloc hv6.out.size _
      refine wpAnyH_ready (rs := [42]) (by kernel_rfl) (by simp) ?_
      refine AllReadyH.cons rfl (fun K hK => ?_) AllReadyH.nil
      go_simp
      refine hK.out _ _ (hS.out _ hbA.out) (fun hHeld2 => ?_)
      clear hK K hHeld
      have hHeld := hHeld2
      clear hHeld2
      refine wpAnyH_ready (rs := [43]) (by kernel_rfl) (by simp) ?_
      refine AllReadyH.cons rfl (fun K hK => ?_) AllReadyH.nil
      go_simp
      go_at_call 13
      refine (kset_5 _ _ rfl).mono ?_
      rintro e w' ⟨rfl, rfl⟩
      refine hK.out _ _ (hS.out _ hbA.out) (fun hHeld2 => ?_)
      clear hK K hHeld
      have hHeld := hHeld2
      clear hHeld2
      refine wpAnyH_ready (rs := [44]) (by kernel_rfl) (by simp) ?_
      refine AllReadyH.cons rfl (fun K hK => ?_) AllReadyH.nil
      go_simp
      go_at_call 12
      refine (katt_6 _ _ _ (recs_next hPu.out hbA.out)).mono ?_
      rintro e v7 ⟨rfl, hb⟩
      have hv7 : Hid (Below u.heap.size u v7) := hbA.out.trans (hb.mono hbA.out.size)
      clear hb hbA
      refine hK.out _ _ (hS.out _ hv7.out) (fun hHeld2 => ?_)
      clear hK K hHeld
      have hHeld := hHeld2
      clear hHeld2
      refine wpAnyH_take (i := 45) (v := ?_) rfl (by kernel_rfl) (by kernel_rfl) (by kernel_rfl) (fun _ _ _ h => h) (Or.inl ⟨by rfl, ?_⟩) hHeld ?_
      rotate_left
      · intro W9 hSw; (try dsimp only at hSw); go_simp; (try with_reducible rfl)
      simp only [Act.put, List.getElem_toArray, List.getElem_cons_zero, List.getElem_cons_succ, List.setIfInBounds_toArray, List.set_cons_zero, List.set_cons_succ]
      refine wpAnyH_take (i := 46) (v := ?_) rfl (by kernel_rfl) (by kernel_rfl) (by kernel_rfl) (fun _ _ _ h => h) (Or.inl ⟨by rfl, ?_⟩) hHeld ?_
      rotate_left
      · intro W9 hSw; (try dsimp only at hSw); go_simp; (try with_reducible rfl)
      simp only [Act.put, List.getElem_toArray, List.getElem_cons_zero, List.getElem_cons_succ, List.setIfInBounds_toArray, List.set_cons_zero, List.set_cons_succ]
      refine wpAnyH_take (i := 47) (v := ?_) rfl (by kernel_rfl) (by kernel_rfl) (by kernel_rfl) (fun _ _ _ h => h) (Or.inl ⟨by rfl, ?_⟩) hHeld ?_
      rotate_left
      · intro W9 hSw; (try dsimp only at hSw); go_simp; (try with_reducible rfl)
      simp only [Act.put, List.getElem_toArray, List.getElem_cons_zero, List.getElem_cons_succ, List.setIfInBounds_toArray, List.set_cons_zero, List.set_cons_succ]
      refine wpAnyH_take (i := 48) (v := ?_) rfl (by kernel_rfl) (by kernel_rfl) (by kernel_rfl) (fun _ _ _ h => h) (Or.inl ⟨by rfl, ?_⟩) hHeld ?_
      rotate_left
      · intro W9 hSw; (try dsimp only at hSw); go_simp; (try with_reducible rfl)
      simp only [Act.put, List.getElem_toArray, List.getElem_cons_zero, List.getElem_cons_succ, List.setIfInBounds_toArray, List.set_cons_zero, List.set_cons_succ]
      have hbA : Hid (Below u.heap.size u (v7.alloc (.cells #[.int .i64 6, .int .i64 8] 3))) := hv7.out.alloc hv7.out.size _
      refine wpAnyH_ready (rs := [49]) (by kernel_rfl) (by simp) ?_
      refine AllReadyH.cons rfl (fun K hK => ?_) AllReadyH.nil
      go_simp
      refine hK.out _ _ (hS.out _ hbA.out) (fun hHeld2 => ?_)
      clear hK K hHeld
      have hHeld := hHeld2
      clear hHeld2
      refine wpAnyH_ready (rs := [50]) (by kernel_rfl) (by simp) ?_
      refine AllReadyH.cons rfl (fun K hK => ?_) AllReadyH.nil
      go_simp
      go_at_call 13
      refine (kset_6 _ _ rfl).mono ?_
      rintro e w' ⟨rfl, rfl⟩
      refine hK.out _ _ (hS.out _ hbA.out) (fun hHeld2 => ?_)
      clear hK K hHeld
      have hHeld := hHeld2
      clear hHeld2
      refine wpAnyH_ready (rs := [51]) (by kernel_rfl) (by simp) ?_
      refine AllReadyH.cons rfl (fun K hK => ?_) AllReadyH.nil
      go_simp
      go_at_call 12
      refine (katt_7 _ _ _ (recs_next hPu.out hbA.out)).mono ?_
      rintro e v8 ⟨rfl, hb⟩
      have hv8 : Hid (Below u.heap.size u v8) := hbA.out.trans (hb.mono hbA.out.size)
      clear hb hbA
      refine hK.out _ _ (hS.out _ hv8.out) (fun hHeld2 => ?_)
      clear hK K hHeld
      have hHeld := hHeld2
      clear hHeld2
      refine wpAnyH_take (i := 52) (v := ?_) rfl (by kernel_rfl) (by kernel_rfl) (by kernel_rfl) (fun _ _ _ h => h) (Or.inl ⟨by rfl, ?_⟩) hHeld ?_
      rotate_left
      · intro W9 hSw; (try dsimp only at hSw); go_simp; (try with_reducible rfl)
      simp only [Act.put, List.getElem_toArray, List.getElem_cons_zero, List.getElem_cons_succ, List.setIfInBounds_toArray, List.set_cons_zero, List.set_cons_succ]
      refine wpAnyH_take (i := 53) (v := ?_) rfl (by kernel_rfl) (by kernel_rfl) (by kernel_rfl) (fun _ _ _ h => h) (Or.inl ⟨by rfl, ?_⟩) hHeld ?_
      rotate_left
      · intro W9 hSw; (try dsimp only at hSw); go_simp; (try with_reducible rfl)
      simp only [Act.put, List.getElem_toArray, List.getElem_cons_zero, List.getElem_cons_succ, List.setIfInBounds_toArray, List.set_cons_zero, List.set_cons_succ]
      refine wpAnyH_done (by kernel_rfl) ?_ _
      go_wp2_with fail
      go_meet
      exact ⟨rfl, hv8⟩
    · go_simp
      have hbB : Hid (Below u.heap.size u (v5.alloc (.cells #[.int .i64 7] 3))) := hv5.out.alloc hv5.out.size _
      refine hK.out _ _ (hS.out _ hbB.out) (fun hHeld2 => ?_)
      clear hK K hHeld
      have hHeld := hHeld2
      clear hHeld2
      refine wpAnyH_ready (rs := [34]) (by kernel_rfl) (by simp) ?_
      refine AllReadyH.cons rfl (fun K hK => ?_) AllReadyH.nil
      go_simp
      go_at_call 11
      refine (rbd 5 1 _ (by decide)).mono ?_
      rintro e x5 hBd
      obtain ⟨P5, c5, rfl, hO5⟩ := hBd.out
      rw [bdL_len]
      have hbd5 := Lib.hid hBd.below
      replace hO5 := Lib.hid hO5
      clear hBd
      have hbA : Hid (Below u.heap.size u x5) := hbB.out.trans (hbd5.out.mono hbB.out.size)
      refine hK.out _ _ (hS.out _ hbA.out) (fun hHeld2 => ?_)
      clear hK K hHeld
      have hHeld := hHeld2
      clear hHeld2
      have hP5 := Lib.hid (hO5.out.recs pEnc_len)
      refine wpAnyH_ready (rs := [36]) (by kernel_rfl) (by simp) ?_
      refine AllReadyH.cons rfl (fun K hK => ?_) AllReadyH.nil
      go_simp
      go_at_call 13
      refine (ksetb _ hbd5.out).mono ?_
      rintro e w' ⟨rfl, rfl⟩
      refine hK.out _ _ (hS.out _ hbA.out) (fun hHeld2 => ?_)
      clear hK K hHeld
      have hHeld := hHeld2
      clear hHeld2
      refine wpAnyH_ready (rs := [37]) (by kernel_rfl) (by simp) ?_
      refine AllReadyH.cons rfl (fun K hK => ?_) AllReadyH.nil
      go_simp
      go_at_call 12
      refine (katt_5 _ _ _ hP5.out).mono ?_
      rintro e v6 ⟨rfl, hb⟩
      have hv6 : Hid (Below u.heap.size u v6) := hbA.out.trans (hb.mono hbA.out.size)
      clear hb hbA
      refine hK.out _ _ (hS.out _ hv6.out) (fun hHeld2 => ?_)
      clear hK K hHeld
      have hHeld := hHeld2
      clear hHeld2
      refine wpAnyH_take (i := 38) (v := ?_) rfl (by kernel_rfl) (by kernel_rfl) (by kernel_rfl) (fun _ _ _ h => h) (Or.inl ⟨by rfl, ?_⟩) hHeld ?_
      rotate_left
      · intro W9 hSw; (try dsimp only at hSw); go_simp; (try with_reducible rfl)
      simp only [Act.put, List.getElem_toArray, List.getElem_cons_zero, List.getElem_cons_succ, List.setIfInBounds_toArray, List.set_cons_zero, List.set_cons_succ]
      refine wpAnyH_take (i := 39) (v := ?_) rfl (by kernel_rfl) (by kernel_rfl) (by kernel_rfl) (fun _ _ _ h => h) (Or.inl ⟨by rfl, ?_⟩) hHeld ?_
      rotate_left
      · intro W9 hSw; (try dsimp only at hSw); go_simp; (try with_reducible rfl)
      simp only [Act.put, List.getElem_toArray, List.getElem_cons_zero, List.getElem_cons_succ, List.setIfInBounds_toArray, List.set_cons_zero, List.set_cons_succ]
      refine wpAnyH_take (i := 40) (v := ?_) rfl (by kernel_rfl) (by kernel_rfl) (by kernel_rfl) (fun _ _ _ h => h) (Or.inl ⟨by rfl, ?_⟩) hHeld ?_
      rotate_left
      · intro W9 hSw; (try dsimp only at hSw); go_simp; (try with_reducible rfl)
      simp only [Act.put, List.getElem_toArray, List.getElem_cons_zero, List.getElem_cons_succ, List.setIfInBounds_toArray, List.set_cons_zero, List.set_cons_succ]
      refine wpAnyH_take (i := 41) (v := ?_) rfl (by kernel_rfl) (by kernel_rfl) (by kernel_rfl) (fun _ _ _ h => h) (Or.inl ⟨by rfl, ?_⟩) hHeld ?_
      rotate_left
      · intro W9 hSw; (try dsimp only at hSw); go_simp; (try with_reducible rfl)
      simp only [Act.put, List.getElem_toArray, List.getElem_cons_zero, List.getElem_cons_succ, List.setIfInBounds_toArray, List.set_cons_zero, List.set_cons_succ]
      have hbA : Hid (Below u.heap.size u (v6.alloc (.cells #[.int .i64 16, .int .i64 18] 3))) := hv6.out.alloc hv6.out.size _
      refine wpAnyH_ready (rs := [42]) (by kernel_rfl) (by simp) ?_
      refine AllReadyH.cons rfl (fun K hK => ?_) AllReadyH.nil
      go_simp
      refine hK.out _ _ (hS.out _ hbA.out) (fun hHeld2 => ?_)
      clear hK K hHeld
      have hHeld := hHeld2
      clear hHeld2
      refine wpAnyH_ready (rs := [43]) (by kernel_rfl) (by simp) ?_
      refine AllReadyH.cons rfl (fun K hK => ?_) AllReadyH.nil
      go_simp
      go_at_call 13
      refine (kset_5 _ _ rfl).mono ?_
      rintro e w' ⟨rfl, rfl⟩
      refine hK.out _ _ (hS.out _ hbA.out) (fun hHeld2 => ?_)
      clear hK K hHeld
      have hHeld := hHeld2
      clear hHeld2
      refine wpAnyH_ready (rs := [44]) (by kernel_rfl) (by simp) ?_
      refine AllReadyH.cons rfl (fun K hK => ?_) AllReadyH.nil
      go_simp
      go_at_call 12
      refine (katt_6 _ _ _ (recs_next hPu.out hbA.out)).mono ?_
      rintro e v7 ⟨rfl, hb⟩
      have hv7 : Hid (Below u.heap.size u v7) := hbA.out.trans (hb.mono hbA.out.size)
      clear hb hbA
      refine hK.out _ _ (hS.out _ hv7.out) (fun hHeld2 => ?_)
      clear hK K hHeld
      have hHeld := hHeld2
      clear hHeld2
      refine wpAnyH_take (i := 45) (v := ?_) rfl (by kernel_rfl) (by kernel_rfl) (by kernel_rfl) (fun _ _ _ h => h) (Or.inl ⟨by rfl, ?_⟩) hHeld ?_
      rotate_left
      · intro W9 hSw; (try dsimp only at hSw); go_simp; (try with_reducible rfl)
      simp only [Act.put, List.getElem_toArray, List.getElem_cons_zero, List.getElem_cons_succ, List.setIfInBounds_toArray, List.set_cons_zero, List.set_cons_succ]
      refine wpAnyH_take (i := 46) (v := ?_) rfl (by kernel_rfl) (by kernel_rfl) (by kernel_rfl) (fun _ _ _ h => h) (Or.inl ⟨by rfl, ?_⟩) hHeld ?_
      rotate_left
      · intro W9 hSw; (try dsimp only at hSw); go_simp; (try with_reducible rfl)
      simp only [Act.put, List.getElem_toArray, List.getElem_cons_zero, List.getElem_cons_succ, List.setIfInBounds_toArray, List.set_cons_zero, List.set_cons_succ]
      refine wpAnyH_take (i := 47) (v := ?_) rfl (by kernel_rfl) (by kernel_rfl) (by kernel_rfl) (fun _ _ _ h => h) (Or.inl ⟨by rfl, ?_⟩) hHeld ?_
      rotate_left
      · intro W9 hSw; (try dsimp only at hSw); go_simp; (try with_reducible rfl)
      simp only [Act.put, List.getElem_toArray, List.getElem_cons_zero, List.getElem_cons_succ, List.setIfInBounds_toArray, List.set_cons_zero, List.set_cons_succ]
      refine wpAnyH_take (i := 48) (v := ?_) rfl (by kernel_rfl) (by kernel_rfl) (by kernel_rfl) (fun _ _ _ h => h) (Or.inl ⟨by rfl, ?_⟩) hHeld ?_
      rotate_left
      · intro W9 hSw; (try dsimp only at hSw); go_simp; (try with_reducible rfl)
      simp only [Act.put, List.getElem_toArray, List.getElem_cons_zero, List.getElem_cons_succ, List.setIfInBounds_toArray, List.set_cons_zero, List.set_cons_succ]
      have hbA : Hid (Below u.heap.size u (v7.alloc (.cells #[.int .i64 6, .int .i64 8] 3))) := hv7.out.alloc hv7.out.size _
      refine wpAnyH_ready (rs := [49]) (by kernel_rfl) (by simp) ?_
      refine AllReadyH.cons rfl (fun K hK => ?_) AllReadyH.nil
      go_simp
      refine hK.out _ _ (hS.out _ hbA.out) (fun hHeld2 => ?_)
      clear hK K hHeld
      have hHeld := hHeld2
      clear hHeld2
      refine wpAnyH_ready (rs := [50]) (by kernel_rfl) (by simp) ?_
      refine AllReadyH.cons rfl (fun K hK => ?_) AllReadyH.nil
      go_simp
      go_at_call 13
      refine (kset_6 _ _ rfl).mono ?_
      rintro e w' ⟨rfl, rfl⟩
      refine hK.out _ _ (hS.out _ hbA.out) (fun hHeld2 => ?_)
      clear hK K hHeld
      have hHeld := hHeld2
      clear hHeld2
      refine wpAnyH_ready (rs := [51]) (by kernel_rfl) (by simp) ?_
      refine AllReadyH.cons rfl (fun K hK => ?_) AllReadyH.nil
      go_simp
      go_at_call 12
      refine (katt_7 _ _ _ (recs_next hPu.out hbA.out)).mono ?_
      rintro e v8 ⟨rfl, hb⟩
      have hv8 : Hid (Below u.heap.size u v8) := hbA.out.trans (hb.mono hbA.out.size)
      clear hb hbA
      refine hK.out _ _ (hS.out _ hv8.out) (fun hHeld2 => ?_)
      clear hK K hHeld
      have hHeld := hHeld2
      clear hHeld2
      refine wpAnyH_take (i := 52) (v := ?_) rfl (by kernel_rfl) (by kernel_rfl) (by kernel_rfl) (fun _ _ _ h => h) (Or.inl ⟨by rfl, ?_⟩) hHeld ?_
      rotate_left
      · intro W9 hSw; (try dsimp only at hSw); go_simp; (try with_reducible rfl)
      simp only [Act.put, List.getElem_toArray, List.getElem_cons_zero, List.getElem_cons_succ, List.setIfInBounds_toArray, List.set_cons_zero, List.set_cons_succ]
      refine wpAnyH_take (i := 53) (v := ?_) rfl (by kernel_rfl) (by kernel_rfl) (by kernel_rfl) (fun _ _ _ h => h) (Or.inl ⟨by rfl, ?_⟩) hHeld ?_
      rotate_left
      · intro W9 hSw; (try dsimp only at hSw); go_simp; (try with_reducible rfl)
      simp only [Act.put, List.getElem_toArray, List.getElem_cons_zero, List.getElem_cons_succ, List.setIfInBounds_toArray, List.set_cons_zero, List.set_cons_succ]
      refine wpAnyH_done (by kernel_rfl) ?_ _
      go_wp2_with fail
      go_meet
      exact ⟨rfl, hv8⟩
  case rest =>
  obtain ⟨rfl, hc6⟩ := hcut
  go_upto_region 8 with fail
  go_cut [6, 2] from 18 to 217 (fun s6 s2 wc => s6 = .int .u64 62 ∧ s2 = .int .i64 0 ∧ Hid (Below u.heap.size u wc))
  case first =>
    as_aux_lemma =>
      refine wp_region_held_drew (S := fun W => W.cell? ⟨B5, 0, none⟩ = some (.int .i64 5) ∧ W.cell? ⟨B5, 1, none⟩ = some (.int .i64 5) ∧ W.cell? ⟨B5, 2, none⟩ = some (.slice P 25 cP)) (by kernel_rfl) (hS.out _ hc6.out.drew) (fun hHeld => ?_)
      refine wpAnyH_take (i := 0) (v := ?_) rfl (by kernel_rfl) (by kernel_rfl) (by kernel_rfl) (fun _ _ _ h => h) (Or.inl ⟨by rfl, ?_⟩) hHeld ?_
      rotate_left
      · intro W9 hSw; (try dsimp only at hSw); go_simp; (try with_reducible rfl)
      simp only [Act.put, List.getElem_toArray, List.getElem_cons_zero, List.getElem_cons_succ, List.setIfInBounds_toArray, List.set_cons_zero, List.set_cons_succ]
      refine wpAnyH_ready (rs := [1]) (by kernel_rfl) (by simp) ?_
      refine AllReadyH.cons rfl (fun K hK => ?_) AllReadyH.nil
      go_simp
      go_at_call 9
      refine (rpiece [82, 48, 49] [120] [⟨2, 0, 1, 0, 0, 0⟩] _ (by decide) kp_R01).mono ?_
      rintro e x1 hFy
      obtain ⟨Ax, cx, rfl, hRx⟩ := hFy.out
      have hc1 : Hid (Below u.heap.size u x1) := hc6.out.trans ((undrew hFy.below).mono hc6.out.size)
      replace hRx := Lib.hid hRx
      clear hFy
      refine hK.out _ _ (hS.out _ hc1.out) (fun hHeld2 => ?_)
      clear hK K hHeld
      have hHeld := hHeld2
      clear hHeld2
      refine wpAnyH_ready (rs := [2]) (by kernel_rfl) (by simp) ?_
      refine AllReadyH.cons rfl (fun K hK => ?_) AllReadyH.nil
      go_simp
      go_at_call 14
      refine (kgo_1 P cP Ax cx x1 (recs_next hPu.out hc1.out) hRx.out).mono ?_
      rintro e x2 ⟨rfl, hb⟩
      have hc2 : Hid (Below u.heap.size u x2) := hc1.out.trans (hb.mono hc1.out.size)
      clear hb
      refine hK.out _ _ (hS.out _ hc2.out) (fun hHeld2 => ?_)
      clear hK K hHeld
      have hHeld := hHeld2
      clear hHeld2
      refine wpAnyH_take (i := 3) (v := ?_) rfl (by kernel_rfl) (by kernel_rfl) (by kernel_rfl) (fun _ _ _ h => h) (Or.inl ⟨by rfl, ?_⟩) hHeld ?_
      rotate_left
      · intro W9 hSw; (try dsimp only at hSw); go_simp; (try with_reducible rfl)
      simp only [Act.put, List.getElem_toArray, List.getElem_cons_zero, List.getElem_cons_succ, List.setIfInBounds_toArray, List.set_cons_zero, List.set_cons_succ]
      refine wpAnyH_take (i := 4) (v := ?_) rfl (by kernel_rfl) (by kernel_rfl) (by kernel_rfl) (fun _ _ _ h => h) (Or.inl ⟨by rfl, ?_⟩) hHeld ?_
      rotate_left
      · intro W9 hSw; (try dsimp only at hSw); go_simp; (try with_reducible rfl)
      simp only [Act.put, List.getElem_toArray, List.getElem_cons_zero, List.getElem_cons_succ, List.setIfInBounds_toArray, List.set_cons_zero, List.set_cons_succ]
      refine wpAnyH_take (i := 5) (v := ?_) rfl (by kernel_rfl) (by kernel_rfl) (by kernel_rfl) (fun _ _ _ h => h) (Or.inl ⟨by rfl, ?_⟩) hHeld ?_
      rotate_left
      · intro W9 hSw; (try dsimp only at hSw); go_simp; (try with_reducible rfl)
      simp only [Act.put, List.getElem_toArray, List.getElem_cons_zero, List.getElem_cons_succ, List.setIfInBounds_toArray, List.set_cons_zero, List.set_cons_succ]
      refine wpAnyH_take (i := 6) (v := ?_) rfl (by kernel_rfl) (by kernel_rfl) (by kernel_rfl) (fun _ _ _ h => h) (Or.inl ⟨by rfl, ?_⟩) hHeld ?_
      rotate_left
      · intro W9 hSw; (try dsimp only at hSw); go_simp; (try with_reducible rfl)
      simp only [Act.put, List.getElem_toArray, List.getElem_cons_zero, List.getElem_cons_succ, List.setIfInBounds_toArray, List.set_cons_zero, List.set_cons_succ]
      refine wpAnyH_take (i := 7) (v := ?_) rfl (by kernel_rfl) (by kernel_rfl) (by kernel_rfl) (fun _ _ _ h => h) (Or.inl ⟨by rfl, ?_⟩) hHeld ?_
      rotate_left
      · intro W9 hSw; (try dsimp only at hSw); go_simp; (try with_reducible rfl)
      simp only [Act.put, List.getElem_toArray, List.getElem_cons_zero, List.getElem_cons_succ, List.setIfInBounds_toArray, List.set_cons_zero, List.set_cons_succ]
      refine wpAnyH_done (by kernel_rfl) ?_ _
      go_wp2_with fail
      go_meet
      exact ⟨rfl, rfl, hc2⟩
  case rest =>
  obtain ⟨rfl, rfl, hc8⟩ := hcut
  clear hc6
  go_upto_region 9 with fail
  go_cut [7, 4] from 18 to 217 (fun s7 s4 wc => s7 = .int .u64 0 ∧ s4 = .int .i64 0 ∧ Hid (Below u.heap.size u wc))
  case first =>
    as_aux_lemma =>
      refine wp_region_held_drew (S := fun W => W.cell? ⟨B5, 0, none⟩ = some (.int .i64 5) ∧ W.cell? ⟨B5, 1, none⟩ = some (.int .i64 5) ∧ W.cell? ⟨B5, 2, none⟩ = some (.slice P 25 cP)) (by kernel_rfl) (hS.out _ hc8.out.drew) (fun hHeld => ?_)
      refine wpAnyH_take (i := 0) (v := ?_) rfl (by kernel_rfl) (by kernel_rfl) (by kernel_rfl) (fun _ _ _ h => h) (Or.inl ⟨by rfl, ?_⟩) hHeld ?_
      rotate_left
      · intro W9 hSw; (try dsimp only at hSw); go_simp; (try with_reducible rfl)
      simp only [Act.put, List.getElem_toArray, List.getElem_cons_zero, List.getElem_cons_succ, List.setIfInBounds_toArray, List.set_cons_zero, List.set_cons_succ]
      refine wpAnyH_ready (rs := [1]) (by kernel_rfl) (by simp) ?_
      refine AllReadyH.cons rfl (fun K hK => ?_) AllReadyH.nil
      go_simp
      go_at_call 9
      refine (rpiece [82, 48, 49] [120] [⟨2, 0, 1, 0, 0, 0⟩] _ (by decide) kp_R01).mono ?_
      rintro e x1 hFy
      obtain ⟨Ax, cx, rfl, hRx⟩ := hFy.out
      have hc1 : Hid (Below u.heap.size u x1) := hc8.out.trans ((undrew hFy.below).mono hc8.out.size)
      replace hRx := Lib.hid hRx
      clear hFy
      refine hK.out _ _ (hS.out _ hc1.out) (fun hHeld2 => ?_)
      clear hK K hHeld
      have hHeld := hHeld2
      clear hHeld2
      refine wpAnyH_ready (rs := [2]) (by kernel_rfl) (by simp) ?_
      refine AllReadyH.cons rfl (fun K hK => ?_) AllReadyH.nil
      go_simp
      go_at_call 15
      refine (ktk_1 P cP Ax cx x1 (recs_next hPu.out hc1.out) hRx.out).mono ?_
      rintro e x2 ⟨rfl, hb⟩
      have hc2 : Hid (Below u.heap.size u x2) := hc1.out.trans (hb.mono hc1.out.size)
      clear hb
      refine hK.out _ _ (hS.out _ hc2.out) (fun hHeld2 => ?_)
      clear hK K hHeld
      have hHeld := hHeld2
      clear hHeld2
      refine wpAnyH_take (i := 3) (v := ?_) rfl (by kernel_rfl) (by kernel_rfl) (by kernel_rfl) (fun _ _ _ h => h) (Or.inl ⟨by rfl, ?_⟩) hHeld ?_
      rotate_left
      · intro W9 hSw; (try dsimp only at hSw); go_simp; (try with_reducible rfl)
      simp only [Act.put, List.getElem_toArray, List.getElem_cons_zero, List.getElem_cons_succ, List.setIfInBounds_toArray, List.set_cons_zero, List.set_cons_succ]
      refine wpAnyH_take (i := 4) (v := ?_) rfl (by kernel_rfl) (by kernel_rfl) (by kernel_rfl) (fun _ _ _ h => h) (Or.inl ⟨by rfl, ?_⟩) hHeld ?_
      rotate_left
      · intro W9 hSw; (try dsimp only at hSw); go_simp; (try with_reducible rfl)
      simp only [Act.put, List.getElem_toArray, List.getElem_cons_zero, List.getElem_cons_succ, List.setIfInBounds_toArray, List.set_cons_zero, List.set_cons_succ]
      refine wpAnyH_take (i := 5) (v := ?_) rfl (by kernel_rfl) (by kernel_rfl) (by kernel_rfl) (fun _ _ _ h => h) (Or.inl ⟨by rfl, ?_⟩) hHeld ?_
      rotate_left
      · intro W9 hSw; (try dsimp only at hSw); go_simp; (try with_reducible rfl)
      simp only [Act.put, List.getElem_toArray, List.getElem_cons_zero, List.getElem_cons_succ, List.setIfInBounds_toArray, List.set_cons_zero, List.set_cons_succ]
      refine wpAnyH_take (i := 6) (v := ?_) rfl (by kernel_rfl) (by kernel_rfl) (by kernel_rfl) (fun _ _ _ h => h) (Or.inl ⟨by rfl, ?_⟩) hHeld ?_
      rotate_left
      · intro W9 hSw; (try dsimp only at hSw); go_simp; (try with_reducible rfl)
      simp only [Act.put, List.getElem_toArray, List.getElem_cons_zero, List.getElem_cons_succ, List.setIfInBounds_toArray, List.set_cons_zero, List.set_cons_succ]
      refine wpAnyH_take (i := 7) (v := ?_) rfl (by kernel_rfl) (by kernel_rfl) (by kernel_rfl) (fun _ _ _ h => h) (Or.inl ⟨by rfl, ?_⟩) hHeld ?_
      rotate_left
      · intro W9 hSw; (try dsimp only at hSw); go_simp; (try with_reducible rfl)
      simp only [Act.put, List.getElem_toArray, List.getElem_cons_zero, List.getElem_cons_succ, List.setIfInBounds_toArray, List.set_cons_zero, List.set_cons_succ]
      refine wpAnyH_done (by kernel_rfl) ?_ _
      go_wp2_with fail
      go_meet
      exact ⟨rfl, rfl, hc2⟩
  case rest =>
  obtain ⟨rfl, rfl, hc9⟩ := hcut
  clear hc8
  go_wp2_with fail
  go_at_call 11
  refine (rbd 10 (-1) _ (by decide)).mono ?_
  rintro e y1 hBd
  obtain ⟨P9, cP9, rfl, hO9⟩ := hBd.out
  have hy1 : Hid (Below u.heap.size u y1) := hc9.out.trans (hBd.below.mono hc9.out.size)
  have hP9 := Lib.hid (hO9.recs pEnc_len)
  rw [bdL_len]
  clear hBd hO9 hc9
  go_wp2_with fail
  go_at_call 9
  refine (rpiece [82, 48, 49] [120] [⟨2, 0, 1, 0, 0, 0⟩] _ (by decide) kp_R01).mono ?_
  rintro e y2 hFy
  obtain ⟨Ax, cx, rfl, hRx⟩ := hFy.out
  have hPy := Lib.hid (recs_next hP9.out hFy.below)
  have hy2 : Hid (Below u.heap.size u y2) := hy1.out.trans (hFy.below.mono hy1.out.size)
  replace hRx := Lib.hid hRx
  clear hFy hy1 hP9
  go_wp2_with fail
  go_at_call 15
  refine (ktk_2 P9 cP9 Ax cx y2 hPy.out hRx.out).mono ?_
  rintro e y3 ⟨rfl, hb⟩
  have hc10 : Hid (Below u.heap.size u y3) := hy2.out.trans (hb.mono hy2.out.size)
  clear hb hPy hRx hy2
  go_upto_region 11 with fail
  go_cut [10, 11] from 18 to 217 (fun s10 s11 wc => s10 = .int .u64 2112 ∧ s11 = .int .i64 0 ∧ Hid (Below u.heap.size u wc))
  case first =>
    as_aux_lemma =>
      refine wp_region_held_drew (S := fun W => W.cell? ⟨B5, 0, none⟩ = some (.int .i64 5) ∧ W.cell? ⟨B5, 1, none⟩ = some (.int .i64 5) ∧ W.cell? ⟨B5, 2, none⟩ = some (.slice P 25 cP)) (by kernel_rfl) (hS.out _ hc10.out.drew) (fun hHeld => ?_)
      refine wpAnyH_take (i := 0) (v := ?_) rfl (by kernel_rfl) (by kernel_rfl) (by kernel_rfl) (fun _ _ _ h => h) (Or.inl ⟨by rfl, ?_⟩) hHeld ?_
      rotate_left
      · intro W9 hSw; (try dsimp only at hSw); go_simp; (try with_reducible rfl)
      simp only [Act.put, List.getElem_toArray, List.getElem_cons_zero, List.getElem_cons_succ, List.setIfInBounds_toArray, List.set_cons_zero, List.set_cons_succ]
      refine wpAnyH_ready (rs := [1]) (by kernel_rfl) (by simp) ?_
      refine AllReadyH.cons rfl (fun K hK => ?_) AllReadyH.nil
      go_simp
      go_at_call 9
      refine (rpiece [109, 102, 82, 48, 49, 120, 50] [120] [⟨2, 0, 1, 2, 1, 1⟩] _ (by decide) kp_mfR01x2).mono ?_
      rintro e x1 hFy
      obtain ⟨Ax, cx, rfl, hRx⟩ := hFy.out
      have hc1 : Hid (Below u.heap.size u x1) := hc10.out.trans ((undrew hFy.below).mono hc10.out.size)
      replace hRx := Lib.hid hRx
      clear hFy
      refine hK.out _ _ (hS.out _ hc1.out) (fun hHeld2 => ?_)
      clear hK K hHeld
      have hHeld := hHeld2
      clear hHeld2
      refine wpAnyH_ready (rs := [2]) (by kernel_rfl) (by simp) ?_
      refine AllReadyH.cons rfl (fun K hK => ?_) AllReadyH.nil
      go_simp
      go_at_call 14
      refine (kgo_2 P cP Ax cx x1 (recs_next hPu.out hc1.out) hRx.out).mono ?_
      rintro e x2 ⟨rfl, hb⟩
      have hc2 : Hid (Below u.heap.size u x2) := hc1.out.trans (hb.mono hc1.out.size)
      clear hb
      refine hK.out _ _ (hS.out _ hc2.out) (fun hHeld2 => ?_)
      clear hK K hHeld
      have hHeld := hHeld2
      clear hHeld2
      refine wpAnyH_take (i := 3) (v := ?_) rfl (by kernel_rfl) (by kernel_rfl) (by kernel_rfl) (fun _ _ _ h => h) (Or.inl ⟨by rfl, ?_⟩) hHeld ?_
      rotate_left
      · intro W9 hSw; (try dsimp only at hSw); go_simp; (try with_reducible rfl)
      simp only [Act.put, List.getElem_toArray, List.getElem_cons_zero, List.getElem_cons_succ, List.setIfInBounds_toArray, List.set_cons_zero, List.set_cons_succ]
      refine wpAnyH_take (i := 4) (v := ?_) rfl (by kernel_rfl) (by kernel_rfl) (by kernel_rfl) (fun _ _ _ h => h) (Or.inl ⟨by rfl, ?_⟩) hHeld ?_
      rotate_left
      · intro W9 hSw; (try dsimp only at hSw); go_simp; (try with_reducible rfl)
      simp only [Act.put, List.getElem_toArray, List.getElem_cons_zero, List.getElem_cons_succ, List.setIfInBounds_toArray, List.set_cons_zero, List.set_cons_succ]
      refine wpAnyH_take (i := 5) (v := ?_) rfl (by kernel_rfl) (by kernel_rfl) (by kernel_rfl) (fun _ _ _ h => h) (Or.inl ⟨by rfl, ?_⟩) hHeld ?_
      rotate_left
      · intro W9 hSw; (try dsimp only at hSw); go_simp; (try with_reducible rfl)
      simp only [Act.put, List.getElem_toArray, List.getElem_cons_zero, List.getElem_cons_succ, List.setIfInBounds_toArray, List.set_cons_zero, List.set_cons_succ]
      refine wpAnyH_take (i := 6) (v := ?_) rfl (by kernel_rfl) (by kernel_rfl) (by kernel_rfl) (fun _ _ _ h => h) (Or.inl ⟨by rfl, ?_⟩) hHeld ?_
      rotate_left
      · intro W9 hSw; (try dsimp only at hSw); go_simp; (try with_reducible rfl)
      simp only [Act.put, List.getElem_toArray, List.getElem_cons_zero, List.getElem_cons_succ, List.setIfInBounds_toArray, List.set_cons_zero, List.set_cons_succ]
      refine wpAnyH_take (i := 7) (v := ?_) rfl (by kernel_rfl) (by kernel_rfl) (by kernel_rfl) (fun _ _ _ h => h) (Or.inl ⟨by rfl, ?_⟩) hHeld ?_
      rotate_left
      · intro W9 hSw; (try dsimp only at hSw); go_simp; (try with_reducible rfl)
      simp only [Act.put, List.getElem_toArray, List.getElem_cons_zero, List.getElem_cons_succ, List.setIfInBounds_toArray, List.set_cons_zero, List.set_cons_succ]
      refine wpAnyH_done (by kernel_rfl) ?_ _
      go_wp2_with fail
      go_meet
      exact ⟨rfl, rfl, hc2⟩
  case rest =>
  obtain ⟨rfl, rfl, hc11⟩ := hcut
  clear hc10
  have hcw : Hid (Below w.heap.size w wc) := hbu.out.trans (hc11.out.mono hbu.out.size)
  have hd1 : Hid (Below w.heap.size w (((wc.alloc (.cells #[.int .i64 1, .int .i64 2, .int .i64 3, .int .i64 4, .int .i64 5] 3)).alloc (.cells #[.int .i64 10] 3)).alloc (.cells #[.int .i64 6, .int .i64 11] 3))) := ((hcw.out.alloc hcw.out.size _).alloc (by have := hcw.out.size; simp; omega) _).alloc (by have := hcw.out.size; simp; omega) _
  clear hc11 hX hPu hS
  go_wp2_with fail
  go_at_call 13
  refine (kset_7 _ wc rfl).mono ?_
  rintro e w' ⟨rfl, rfl⟩
  go_wp2_with fail
  go_at_call 13
  refine (kset_8 _ (wc.alloc (.cells #[.int .i64 1, .int .i64 2, .int .i64 3, .int .i64 4, .int .i64 5] 3)) (by simp)).mono ?_
  rintro e w' ⟨rfl, rfl⟩
  go_wp2_with fail
  go_at_call 13
  refine (kset_9 _ ((wc.alloc (.cells #[.int .i64 1, .int .i64 2, .int .i64 3, .int .i64 4, .int .i64 5] 3)).alloc (.cells #[.int .i64 10] 3)) (by simp)).mono ?_
  rintro e w' ⟨rfl, rfl⟩
  go_upto_region 14 with fail
  generalize ((wc.alloc (.cells #[.int .i64 1, .int .i64 2, .int .i64 3, .int .i64 4, .int .i64 5] 3)).alloc (.cells #[.int .i64 10] 3)).alloc (.cells #[.int .i64 6, .int .i64 11] 3) = z0 at *
  as_aux_lemma =>
    have hKz : PC.KindsAt z0 := hKH.out.1.below hKH.out.2 hd1.out
    go_wp2_with fail
    go_at_call 16
    refine (pusual_5 _ m0 (hMH.out.next hd1.out) hKz (Nat.lt_of_lt_of_le hKH.out.2 hd1.out.size)).mono ?_
    rintro e z1 hPa
    obtain ⟨Aq, cq, rfl, hRq⟩ := hPa.yes _ _ rfl
    have hz1 : Hid (Below w.heap.size w z1) := hd1.out.trans (hPa.below.mono hd1.out.size)
    have hba : Below z1.heap.size z1 (z1.alloc (.cells #[.string (bsB [113, 117, 101, 101, 110]), .slice Aq 2 cq] 25)) := (Below.refl _ _).alloc (Nat.le_refl _) _
    have hRq2 := Lib.hid (recs_next hRq hba)
    have hz2 : Hid (Below w.heap.size w (z1.alloc (.cells #[.string (bsB [113, 117, 101, 101, 110]), .slice Aq 2 cq] 25))) := hz1.out.trans (hba.mono hz1.out.size)
    have hF := Lib.hid (B2.new z1 (.string (bsB [113, 117, 101, 101, 110])) (.slice Aq 2 cq) 25)
    clear hPa hRq hba hd1 hKz hcw
    go_upto_region 15 with fail
    generalize z1.heap.size = Bq at hF ⊢
    generalize z1.alloc (.cells #[.string (bsB [113, 117, 101, 101, 110]), .slice Aq 2 cq] 25) = z2 at *
    obtain ⟨f0, f1, _, _, _⟩ := hF.out
    have hT := Lib.hid (ptext_yes [113, 117, 101, 101, 110] Aq [⟨2, 0, 1, 0, 0, 0⟩, ⟨2, 1, 1, 0, 0, 0⟩] cq z2 m0 hRq2.out (us_ok (k := 5) (by decide) (by decide)) (hMH.out.next hz2.out))
    obtain ⟨tx, htx⟩ : ∃ tx, txL [113, 117, 101, 101, 110] [⟨2, 0, 1, 0, 0, 0⟩, ⟨2, 1, 1, 0, 0, 0⟩] = tx := ⟨_, rfl⟩
    have hq : ((bsB tx).toList == ([113, 117, 101, 101, 110, 32, 82, 48, 49, 43, 82, 49, 49] : List UInt8)) = true := by
      rw [← htx, ByteArray.toList_eq]
      decide +kernel
    rw [htx] at hT
    clear htx
    have hbad : Hid (∀ (i : Nat) (s : List UInt8), ([[120, 32, 82, 49, 48], [120, 32, 76, 49, 50, 120, 50], [120, 32, 99, 109, 76, 49, 50], [82, 48, 49]] : List (List UInt8))[i]? = some s → parR s = none ∧ s.length ≤ 10000) := fun i s h => by
      match i, h with
      | 0, h => exact (Option.some.inj h) ▸ ⟨kbad_0, by decide⟩
      | 1, h => exact (Option.some.inj h) ▸ ⟨kbad_1, by decide⟩
      | 2, h => exact (Option.some.inj h) ▸ ⟨kbad_2, by decide⟩
      | 3, h => exact (Option.some.inj h) ▸ ⟨kbad_3, by decide⟩
      | (i + 4), h => simp at h
    go_upto_region 18 with (go_at_call 17; refine hT.out.mono ?_; rintro e z3 ⟨rfl, hb⟩; have hz3 : Hid (Below w.heap.size w z3) := hz2.out.trans (hb.mono hz2.out.size); clear hb)
    clear hz1 hz2 hRq2 hF hT hq f0 f1
    have hz4 : Hid (Below w.heap.size w (z3.alloc (.cells #[.string ⟨#[120, 32, 82, 49, 48]⟩, .string ⟨#[120, 32, 76, 49, 50, 120, 50]⟩, .string ⟨#[120, 32, 99, 109, 76, 49, 50]⟩, .string ⟨#[82, 48, 49]⟩] 9))) := hz3.out.alloc hz3.out.size _
    have hrow : Hid (∀ (i : Nat) (s : List UInt8), ([[120, 32, 82, 49, 48], [120, 32, 76, 49, 50, 120, 50], [120, 32, 99, 109, 76, 49, 50], [82, 48, 49]] : List (List UInt8))[i]? = some s → (z3.alloc (.cells #[.string ⟨#[120, 32, 82, 49, 48]⟩, .string ⟨#[120, 32, 76, 49, 50, 120, 50]⟩, .string ⟨#[120, 32, 99, 109, 76, 49, 50]⟩, .string ⟨#[82, 48, 49]⟩] 9)).cell? ⟨z3.heap.size, i, none⟩ = some (.string (bsB s))) := fun i s h => by
      rw [cell_of_row _ _ _ _ _ _ (heap_alloc_new z3 _)]
      match i, h with
      | 0, h => exact (Option.some.inj h) ▸ rfl
      | 1, h => exact (Option.some.inj h) ▸ rfl
      | 2, h => exact (Option.some.inj h) ▸ rfl
      | 3, h => exact (Option.some.inj h) ▸ rfl
      | (i + 4), h => simp at h
    have hlt : Hid (z3.heap.size < (z3.alloc (.cells #[.string ⟨#[120, 32, 82, 49, 48]⟩, .string ⟨#[120, 32, 76, 49, 50, 120, 50]⟩, .string ⟨#[120, 32, 99, 109, 76, 49, 50]⟩, .string ⟨#[82, 48, 49]⟩] 9)).heap.size) := by show _ < _; simp
    go_upto_region 19 with fail
    generalize z3.heap.size = Bz at hrow hlt ⊢
    generalize z3.alloc (.cells #[.string ⟨#[120, 32, 82, 49, 48]⟩, .string ⟨#[120, 32, 76, 49, 50, 120, 50]⟩, .string ⟨#[120, 32, 99, 109, 76, 49, 50]⟩, .string ⟨#[82, 48, 49]⟩] 9) = z4 at *
    obtain ⟨BL, hBL⟩ : ∃ BL : List (List UInt8), [[120, 32, 82, 49, 48], [120, 32, 76, 49, 50, 120, 50], [120, 32, 99, 109, 76, 49, 50], [82, 48, 49]] = BL := ⟨_, rfl⟩
    have hBl : BL.length = 4 := by rw [← hBL]; rfl
    rw [hBL] at hrow hbad
    clear hBL
    go_wp2_with fail
    go_loopw [15] (fun s15 wr => ∃ (k : Nat), k ≤ 4 ∧ s15 = .int .i64 (k : Int) ∧ Hid (Below z4.heap.size z4 wr)) (fun s15 _ => 4 - (intOf s15).toNat)
    case atStart => exact ⟨0, by omega, rfl, Below.refl _ _⟩
    case round =>
      obtain ⟨k, hk, rfl, hB⟩ := hrel
      have hk0 : (0 : Int) ≤ (k : Int) := Int.natCast_nonneg _
      have hBw : Hid (Below w.heap.size w wr) := hz4.out.trans (hB.out.mono hz4.out.size)
      by_cases hkl : k < 4
      rotate_left
      · obtain rfl : k = 4 := by omega
        go_wp2_with fail
        go_ret
        exact ⟨rfl, hBw.out⟩
      have hkI : (k : Int) < 4 := by omega
      obtain ⟨s, hs⟩ : ∃ s, BL[k]? = some s := ⟨_, List.getElem?_eq_getElem (by omega)⟩
      obtain ⟨hpn, hsl⟩ := hbad.out k s hs
      have hc : wr.cell? ⟨Bz, k, none⟩ = some (.string (bsB s)) := (hB.out.cell (p := ⟨Bz, k, none⟩) hlt.out).trans (hrow.out k s hs)
      have hP := Lib.hid (kparse_no wr m0 (hMH.out.next hBw.out) hsl hpn)
      have hBH := hB
      clear hs hpn hsl hB
      go_wp2_with (go_at_call 5; refine hP.out.mono ?_; rintro e w9 ⟨rfl, hb⟩; have hB9 : Hid (Below z4.heap.size z4 w9) := hBH.out.trans (hb.mono hBH.out.size); clear hb)
      go_roundw
      case rel => exact ⟨k + 1, by omega, by go_num, hB9.out.alloc hB9.out.size _⟩
      case measure => simp [intOf]; omega
end Go.Proofs.YtbcdimklblpdnaaDoor
