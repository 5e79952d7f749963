/- Layer 1: the set of all squares, and shifted sets. -/
import Derived.Test.YtjjchodcoeciaaaDoorQg
import Derived.Laws.BitsAllLaws
import Derived.BigRegionIn
import Derived.Test.YtjjchodcoeciaaaDoorQr
namespace Go.Proofs.YtjjchodcoeciaaaDoor
open Go.RowKit
set_option linter.unusedSimpArgs false
set_option linter.unusedVariables false
attribute [local go_sem] Oper.semAt_some

/-- the set of all squares -/
def allV (f r : Int) : Nat := 2 ^ (f * r).toNat - 1
theorem all_shift : ∀ n : Nat, n ≤ 64 → 18446744073709551615 / 2 ^ (64 - n) = 2 ^ n - 1 := by
  intro n hn
  have key : ∀ n : Fin 65, 18446744073709551615 / 2 ^ (64 - n.1) = 2 ^ n.1 - 1 := by decide +kernel
  exact key ⟨n, by omega⟩
theorem all_val {f r : Int} (hs : szB f r = true) : (18446744073709551615 : Int) / 2 ^ (64 - f * r).toNat = (allV f r : Nat) := by
  obtain ⟨f0, f1, r0, r1⟩ := szB_out hs
  obtain ⟨m0, m1⟩ := mul_bd f0 f1 r0 r1
  have h := all_shift (f * r).toNat (by omega)
  unfold allV
  rw [← h, show (64 - f * r).toNat = 64 - (f * r).toNat by omega]
  rfl
theorem allV_lt {f r : Int} (hs : szB f r = true) : allV f r < 18446744073709551616 := by
  obtain ⟨f0, f1, r0, r1⟩ := szB_out hs
  obtain ⟨m0, m1⟩ := mul_bd f0 f1 r0 r1
  have : 2 ^ (f * r).toNat ≤ 2 ^ 64 := Nat.pow_le_pow_right (by decide) (by omega)
  have h2 : 1 ≤ 2 ^ (f * r).toNat := Nat.one_le_two_pow
  unfold allV
  omega
theorem pall (f r : Int) (w : World) (hs : szB f r = true) : Calls Tryd.prog 39 #[.agg #[.int .i64 f, .int .i64 r]] w fun e w' => e = .returned (.int .u64 (allV f r : Nat)) ∧ Below w.heap.size w w' := by
  have hv := Lib.hid (all_val hs)
  obtain ⟨f0, f1, r0, r1⟩ := szB_out hs
  obtain ⟨m0, m1⟩ := mul_bd f0 f1 r0 r1
  go_enter Tryd.func39, Tryd.ntmps39
  go_wp2
  go_ret
  exact ⟨ri hv.out, (Below.refl _ _).alloc (Nat.le_refl _) _⟩
theorem pAll_yes (f r : Int) (w : World) (hs : szB f r = true) : Calls Tryd.prog 11 #[.agg #[.int .i64 f, .int .i64 r]] w fun e w' => e = .returned (.tuple #[.int .u64 (allV f r : Nat), .int .i64 0]) ∧ Below w.heap.size w w' := by
  go_enter Tryd.func11, Tryd.ntmps11
  go_wp2_with (first
    | (go_at_call 12; refine (pvsize _ _ _).mono ?_; rintro e w1 ⟨rfl, hb⟩; obtain ⟨q0, q1, q2⟩ := box_cells hb; have hbH := Lib.hid (below_box hb); clear hb)
    | (go_at_call 39; refine (pall _ _ _ hs).mono ?_; rintro e w2 ⟨rfl, hb2⟩; have hbH2 := Lib.hid (hbH.out.trans (hb2.mono hbH.out.size)); clear hb2))
  go_ret2
  exact ⟨rfl, hbH2.out⟩
theorem pAll_no (f r : Int) (w : World) (hs : szB f r = false) : Calls Tryd.prog 11 #[.agg #[.int .i64 f, .int .i64 r]] w fun e w' => e = .returned (.tuple #[.int .u64 0, .int .i64 2]) ∧ Below w.heap.size w w' := by
  go_enter Tryd.func11, Tryd.ntmps11
  go_wp2_with (go_at_call 12; refine (pvsize _ _ _).mono ?_; rintro e w1 ⟨rfl, hb⟩; obtain ⟨q0, q1, q2⟩ := box_cells hb; have hbH := Lib.hid (below_box hb); clear hb)
  go_ret2
  exact ⟨rfl, hbH.out⟩

/-- the boxes of the three arguments lie in w1 as they lay -/
structure Bx3 (w w1 : World) (f r dx dy : Int) : Prop where
  c0 : w1.cell? ⟨w.heap.size, 0, none⟩ = some (.int .i64 f)
  c1 : w1.cell? ⟨w.heap.size, 1, none⟩ = some (.int .i64 r)
  cx : w1.cell? ⟨w.heap.size + 1, 0, none⟩ = some (.int .i64 dx)
  cy : w1.cell? ⟨w.heap.size + 1 + 1, 0, none⟩ = some (.int .i64 dy)
  lt : w.heap.size + 1 + 1 < w1.heap.size
  below : Below w.heap.size w w1
theorem Bx3.first {w w1 : World} {f r dx dy : Int} {t t2 t3 : TypeId} (hb : Below (((w.alloc (.cells #[.int .i64 f, .int .i64 r] t)).alloc (.cells #[.int .i64 dx] t2)).alloc (.cells #[.int .i64 dy] t3)).heap.size (((w.alloc (.cells #[.int .i64 f, .int .i64 r] t)).alloc (.cells #[.int .i64 dx] t2)).alloc (.cells #[.int .i64 dy] t3)) w1) : Bx3 w w1 f r dx dy := by
  have hz : (((w.alloc (.cells #[.int .i64 f, .int .i64 r] t)).alloc (.cells #[.int .i64 dx] t2)).alloc (.cells #[.int .i64 dy] t3)).heap.size = w.heap.size + 1 + 1 + 1 := by rw [World.size_alloc, World.size_alloc, World.size_alloc]
  refine ⟨?_, ?_, ?_, ?_, ?_, ?_⟩
  · rw [hb.cell (p := ⟨w.heap.size, 0, none⟩) (by show w.heap.size < _; omega), World.cell?_alloc_lt _ _ ⟨w.heap.size, 0, none⟩ (by show w.heap.size < _; rw [World.size_alloc, World.size_alloc]; omega), World.cell?_alloc_lt _ _ ⟨w.heap.size, 0, none⟩ (by show w.heap.size < _; rw [World.size_alloc]; omega), cell_of_row _ _ _ _ _ _ (heap_alloc_new w _)]; rfl
  · rw [hb.cell (p := ⟨w.heap.size, 1, none⟩) (by show w.heap.size < _; omega), World.cell?_alloc_lt _ _ ⟨w.heap.size, 1, none⟩ (by show w.heap.size < _; rw [World.size_alloc, World.size_alloc]; omega), World.cell?_alloc_lt _ _ ⟨w.heap.size, 1, none⟩ (by show w.heap.size < _; rw [World.size_alloc]; omega), cell_of_row _ _ _ _ _ _ (heap_alloc_new w _)]; rfl
  · rw [hb.cell (p := ⟨w.heap.size + 1, 0, none⟩) (by show w.heap.size + 1 < _; omega), World.cell?_alloc_lt _ _ ⟨w.heap.size + 1, 0, none⟩ (by show w.heap.size + 1 < _; rw [World.size_alloc, World.size_alloc]; omega), ← World.size_alloc w (.cells #[.int .i64 f, .int .i64 r] t), cell_of_row _ _ _ _ _ _ (heap_alloc_new _ _)]; rfl
  · rw [hb.cell (p := ⟨w.heap.size + 1 + 1, 0, none⟩) (by show w.heap.size + 1 + 1 < _; omega), ← World.size_alloc w (.cells #[.int .i64 f, .int .i64 r] t), ← World.size_alloc (w.alloc (.cells #[.int .i64 f, .int .i64 r] t)) (.cells #[.int .i64 dx] t2), cell_of_row _ _ _ _ _ _ (heap_alloc_new _ _)]; rfl
  · have := hb.size; omega
  · exact ((((Below.refl _ _).alloc (Nat.le_refl _) _).alloc (by simp) _).alloc (by simp; omega) _).trans (hb.mono (by omega))
theorem Bx3.next {w w1 w2 : World} {f r dx dy : Int} (h : Bx3 w w1 f r dx dy) {B : Nat} (hB : w.heap.size + 1 + 1 < B) (hb : Below B w1 w2) : Bx3 w w2 f r dx dy :=
  ⟨(hb.cell (p := ⟨w.heap.size, 0, none⟩) (by show w.heap.size < B; omega)).trans h.c0, (hb.cell (p := ⟨w.heap.size, 1, none⟩) (by show w.heap.size < B; omega)).trans h.c1, (hb.cell (p := ⟨w.heap.size + 1, 0, none⟩) (by show w.heap.size + 1 < B; omega)).trans h.cx, (hb.cell (p := ⟨w.heap.size + 1 + 1, 0, none⟩) hB).trans h.cy, Nat.lt_of_lt_of_le h.lt hb.size, h.below.trans (hb.mono (by omega))⟩
theorem out_box (w : World) (v : Value) (t : TypeId) (o : Obj) : ((w.alloc (.cells #[v] t)).alloc o).cell? ⟨w.heap.size, 0, none⟩ = some v ∧ ((w.alloc (.cells #[v] t)).alloc o).frozen? ⟨w.heap.size, 0, none⟩ = false := by
  have h := heap_alloc_new w (.cells #[v] t)
  rw [← Below.heap_alloc (w.alloc (.cells #[v] t)) o w.heap.size (by rw [World.size_alloc]; omega)] at h
  exact ⟨by rw [cell_of_row _ _ _ _ _ _ h]; rfl, by simp [World.frozen?, h]⟩
theorem keeps_below {W W' : World} (h : Below W.heap.size W W') : KeepsOthers W W' := ⟨h.size, fun k o hk _ => (h.block k (Array.getElem?_eq_some_iff.1 hk).1).trans hk⟩
theorem onB_out {f r x y : Int} (h : onB f r x y = true) : 0 ≤ x ∧ x < f ∧ 0 ≤ y ∧ y < r := by
  simpa [onB, and_assoc] using h
theorem mul_bd2 {f r x y : Int} (f0 : 3 ≤ f) (f1 : f ≤ 8) (r0 : 3 ≤ r) (r1 : r ≤ 8) (h0 : 0 ≤ x) (h1 : x < f) (h2 : 0 ≤ y) (h3 : y < r) : (0 ≤ y * f ∧ y * f ≤ 56) ∧ 0 ≤ x + y * f ∧ x + y * f < f * r := by
  have e1 : 0 ≤ y * f := Int.mul_nonneg h2 (by omega)
  have e2 : y * f ≤ (r - 1) * f := Int.mul_le_mul_of_nonneg_right (by omega) (by omega)
  have e3 : (r - 1) * f = r * f - f := by rw [Int.sub_mul]; omega
  have e4 : r * f = f * r := Int.mul_comm _ _
  have e5 : (r - 1) * f ≤ 7 * 8 := Int.mul_le_mul (by omega) f1 (by omega) (by omega)
  refine ⟨⟨e1, by omega⟩, by omega, by omega⟩
theorem or_shift {acc : Nat} {k : Int} (h : acc < 18446744073709551616) (h0 : 0 ≤ k) (h1 : k < 64) : bits BinOp.or IntKind.u64 (acc : Int) (IntKind.u64.wrap (2 ^ k.toNat)) = ((acc ||| 1 <<< k.toNat : Nat) : Int) := by
  have e : 2 ^ k.toNat < 2 ^ 64 := Nat.pow_lt_pow_right (by decide) (by omega)
  have e2 : IntKind.u64.wrap (2 ^ k.toNat) = ((1 <<< k.toNat : Nat) : Int) := by
    rw [Nat.shiftLeft_eq, IntKind.wrap_u64, Nat.one_mul, Int.emod_eq_of_lt]
    · simp
    · exact Int.le_of_lt (Int.pow_pos (by decide))
    · have : ((2 ^ k.toNat : Nat) : Int) < ((2 ^ 64 : Nat) : Int) := by exact_mod_cast e
      simpa using this
  rw [e2]
  refine bits_or_u64_nat acc _ h ?_
  rw [Nat.shiftLeft_eq]; omega
/-- one square shifted into a set -/
def stepS (f r dx dy : Int) (acc : Nat) (a : Nat) : Nat := if onB f r ((a : Int) % f + dx) ((a : Int) / f + dy) = true then acc ||| 1 <<< (((a : Int) % f + dx) + ((a : Int) / f + dy) * f).toNat else acc
def accS (f r dx dy : Int) (l : List Nat) : Nat := l.foldl (stepS f r dx dy) 0
theorem accS_snoc (f r dx dy : Int) (l : List Nat) (a : Nat) : accS f r dx dy (l ++ [a]) = stepS f r dx dy (accS f r dx dy l) a := by simp [accS]

theorem stepS_lt {f r dx dy : Int} (hs : szB f r = true) {acc : Nat} (h : acc < 18446744073709551616) (a : Nat) : stepS f r dx dy acc a < 18446744073709551616 := by
  obtain ⟨f0, f1, r0, r1⟩ := szB_out hs
  unfold stepS
  split
  · rename_i ho
    obtain ⟨o0, o1, o2, o3⟩ := onB_out ho
    obtain ⟨_, b0, b1⟩ := mul_bd2 f0 f1 r0 r1 o0 o1 o2 o3
    have := (mul_bd f0 f1 r0 r1).2
    refine Nat.or_lt_two_pow (n := 64) h ?_
    rw [Nat.shiftLeft_eq, Nat.one_mul]
    exact Nat.pow_lt_pow_right (by decide) (by omega)
  · exact h
theorem accS_lt {f r dx dy : Int} (hs : szB f r = true) (l : List Nat) : accS f r dx dy l < 18446744073709551616 := by
  have key : ∀ (l : List Nat) (acc : Nat), acc < 18446744073709551616 → l.foldl (stepS f r dx dy) acc < 18446744073709551616 := by
    intro l
    induction l with
    | nil => intro acc h; exact h
    | cons a l ih => intro acc h; exact ih _ (stepS_lt hs h a)
  exact key l 0 (by decide)

set_option maxRecDepth 100000 in
set_option maxHeartbeats 4000000 in
theorem pshift_in (f r dx dy : Int) (m : Nat) (w : World) (hT : TabAt w) (hs : szB f r = true) (hm : m < 18446744073709551616) (hand : m &&& (18446744073709551615 - allV f r) = 0)
    (x0 : -f < dx) (x1 : dx < f) (y0 : -r < dy) (y1 : dy < r) :
    Calls Tryd.prog 30 #[.agg #[.int .i64 f, .int .i64 r], .int .u64 (m : Int), .int .i64 dx, .int .i64 dy] w fun e w' => e = .returned (.tuple #[.int .u64 (accS f r dx dy (sqs m) : Nat), .int .i64 0]) ∧ Below w.heap.size w w' := by
  obtain ⟨f0, f1, r0, r1⟩ := szB_out hs
  have hpos := hT.pos
  have hTH := Lib.hid hT
  have hallH := Lib.hid (allV_lt hs)
  have hz : bits BinOp.andNot IntKind.u64 (m : Int) (allV f r : Int) = 0 := by
    rw [u64_andNot_nat m _ hm (allV_lt hs), hand]; rfl
  clear hT
  refine (callsIn_wide (n := 5)).1 ?_
  refine callsIn_of_wp_marks Tryd.func30 rfl trivial ?_ rfl
  simp only [Tryd.ntmps30, List.size_toArray, List.length_cons, List.length_nil, Nat.reduceAdd, Nat.reduceSub, Array.replicate_succ, Array.replicate_zero, List.push_toArray, List.append_toArray, List.nil_append, List.cons_append]
  gi_wp2_with (first
    | (refine ⟨trivial, ?_⟩; gi_at_call 12; refine (callsIn_wide.2 (pvsize _ _ _)).mono ?_; rintro e w1 ⟨rfl, hb⟩; have hB1 := Lib.hid (Bx3.first hb); have q0 := hB1.out.c0; have q1 := hB1.out.c1; have qx := hB1.out.cx; have qy := hB1.out.cy; have q2 := hB1.out.lt; clear hb)
    | (refine ⟨trivial, ?_⟩; gi_at_call 39; refine (callsIn_wide.2 (pall _ _ _ hs)).mono ?_; rintro e w2 ⟨rfl, hb2⟩; have hB2 := Lib.hid (hB1.out.next hB1.out.lt hb2); have p0 := hB2.out.c0; have p1 := hB2.out.c1; have px := hB2.out.cx; have py := hB2.out.cy; have p2 := hB2.out.lt; clear hb2)
    | (refine ⟨trivial, ?_⟩; gi_at_call 33; refine (callsIn_wide.2 (peach _ _)).mono ?_; rintro e w' ⟨rfl, rfl⟩))
  have hO := Lib.hid (out_box w2 (.int .u64 0) 28 (.cells #[.int .u64 (m : Int)] 28))
  have hB0 : Hid (Below w2.heap.size w2 ((w2.alloc (.cells #[.int .u64 0] 28)).alloc (.cells #[.int .u64 (m : Int)] 28))) := ((Below.refl _ w2).alloc (Nat.le_refl _) _).alloc (by simp) _
  have hT2 := Lib.hid (hTH.out.below hpos hB2.out.below)
  have hc0 : ((w2.alloc (.cells #[.int .u64 0] 28)).alloc (.cells #[.int .u64 (m : Int)] 28)).cell? ⟨w2.heap.size + 1, 0, none⟩ = some (.int .u64 (m : Int)) := by
    have h := heap_alloc_new (w2.alloc (.cells #[.int .u64 0] 28)) (.cells #[.int .u64 (m : Int)] 28)
    rw [World.size_alloc] at h
    rw [cell_of_row _ _ _ _ _ _ h]; rfl
  have hf0 : (f == 0) = false := by rw [beq_eq_false_iff_ne]; omega
  refine wpIn_rangeFunc_ownF (n := 5) rfl (by omega) (gf := 44) (lb := #[.pointer (some ⟨w2.heap.size + 1, 0, none⟩)]) rfl trivial (enters_of Tryd.func44 (by kernel_rfl) rfl)
    (each_stops 4 (by omega) (w2.heap.size + 1) w2.heap.size m _ (by simp) (by simp; omega) (by omega) hc0 hm (hT2.out.below (by omega) hB0.out)) belowK_t (belowK_b (by simp; omega)) (Below.refl _ _) (fun _ => rfl)
    (fun (pre : List Sq) W => (W.cell? ⟨w2.heap.size, 0, none⟩ = some (.int .u64 (accS f r dx dy (pre.map (·.1)) : Nat)) ∧ W.frozen? ⟨w2.heap.size, 0, none⟩ = false) ∧ Below w2.heap.size w2 W)
    (fun _ _ _ => False)
    (OwnFrom.and (Own.from (fun s A B row hs hg hr => ⟨cell_kept hs.1 hg hr, (frozen_kept hs.1 hg hr).trans hs.2⟩) _) (ownFrom_below (Nat.le_refl _) (by simp; omega)))
    (fun _ _ _ _ _ hs _ _ => hs)
    ⟨hO.out, hB0.out⟩
    (fun x : Sq => { tmps := #[Value.agg #[Value.int IntKind.i64 f, Value.int IntKind.i64 r], Value.int IntKind.u64 ↑m, Value.int IntKind.i64 dx, Value.int IntKind.i64 dy, Value.pointer (some { block := w.heap.size, off := 0 }), undef, Value.pointer (some { block := w.heap.size + 1, off := 0 }), Value.pointer (some { block := w.heap.size + 1 + 1, off := 0 }), Value.int IntKind.u64 0, Value.int IntKind.i64 0, Value.pointer (some { block := w2.heap.size, off := 0 }), Value.int IntKind.i64 (x.1 : Int), undef, undef, Value.agg #[Value.int IntKind.i64 f, Value.int IntKind.i64 r], Value.bool true, Value.bool false, Value.bool false, Value.int IntKind.u64 ↑m, Value.agg #[Value.int IntKind.i64 f, Value.int IntKind.i64 r], Value.int IntKind.u64 ↑(allV f r), Value.int IntKind.u64 0, Value.bool false, Value.bool false, Value.int IntKind.i64 dx, Value.pointer (some { block := w.heap.size, off := 0 }), Value.int IntKind.i64 f, Value.int IntKind.i64 (-f), Value.bool (decide (dx ≤ -f)), Value.bool (decide (dx ≤ -f)), Value.int IntKind.i64 dx, Value.pointer (some { block := w.heap.size, off := 0 }), Value.int IntKind.i64 f, Value.bool (decide (f ≤ dx)), Value.bool (decide (dx ≤ -f) || decide (f ≤ dx)), Value.bool (decide (dx ≤ -f) || decide (f ≤ dx)), Value.int IntKind.i64 dy, Value.pointer (some { block := w.heap.size, off := 1 }), Value.int IntKind.i64 r, Value.int IntKind.i64 (-r), Value.bool (decide (dy ≤ -r)), Value.bool (decide (dx ≤ -f) || decide (f ≤ dx) || decide (dy ≤ -r)), Value.bool (decide (dx ≤ -f) || decide (f ≤ dx) || decide (dy ≤ -r)), Value.int IntKind.i64 dy, Value.pointer (some { block := w.heap.size, off := 1 }), Value.int IntKind.i64 r, Value.bool (decide (r ≤ dy)), Value.bool (decide (dx ≤ -f) || decide (f ≤ dx) || decide (dy ≤ -r) || decide (r ≤ dy)), Value.int IntKind.u64 ↑m, Value.func (Fn.func 44) #[] #[Value.pointer (some { block := w2.heap.size + 1, off := 0 })], Value.int IntKind.i64 (x.1 : Int), undef, undef, undef, undef, undef, undef, undef, undef, undef, undef, undef, undef, undef, undef, undef, undef, undef, undef, undef, undef, undef, undef, undef, undef, undef, undef], defers := [] }) ?assign ?body ?done ?stop
  case assign =>
    intro l x W K hK
    gi_wp2
    exact hK
  case body =>
    rintro l pre ⟨x, hx64⟩ W ⟨⟨hc, hf⟩, hB⟩ _
    have hB3 := Lib.hid (hB2.out.next p2 hB)
    have c0 := hB3.out.c0
    have c1 := hB3.out.c1
    have cx := hB3.out.cx
    have cy := hB3.out.cy
    have hBH := Lib.hid hB
    clear hB q0 q1 qx qy p0 p1 px py
    have e1 : 0 ≤ (x : Int) % f := Int.emod_nonneg _ (by omega)
    have e2 : (x : Int) % f < f := Int.emod_lt_of_pos _ (by omega)
    have e3 : 0 ≤ (x : Int) / f := Int.ediv_nonneg (by omega) (by omega)
    have e4 : (x : Int) / f ≤ x := Int.ediv_le_self _ (by omega)
    have t1 : (x : Int).tmod f = (x : Int) % f := Int.tmod_eq_emod_of_nonneg (by omega)
    have t2 : (x : Int).tdiv f = (x : Int) / f := Int.tdiv_eq_ediv_of_nonneg (by omega)
    have g1 : IntKind.i64.wrap ((x : Int) / f) = (x : Int) / f := IntWalk.i64_in _ (by omega)
    have g2 : IntKind.i64.wrap ((x : Int) % f + dx) = (x : Int) % f + dx := IntWalk.i64_in _ (by omega)
    have g3 : IntKind.i64.wrap ((x : Int) / f + dy) = (x : Int) / f + dy := IntWalk.i64_in _ (by omega)
    have hmx : Tryd.prog.follows .mixedOrders = true := by kernel_rfl
    gi_wp2
    refine wpIn_region_quiet_round_lit (F := Fence.wide) rfl (by kernel_rfl) hmx (by kernel_rfl) ?_
    repeat (gi_big_quiet_step (fail))
    refine wpQuietIn_nil ?_
    intro _ hw'
    obtain ⟨nq, hw''⟩ := hw'
    subst hw''
    have d0 : (W.drewN nq).cell? ⟨w.heap.size, 0, none⟩ = some (.int .i64 f) := c0
    have d1 : (W.drewN nq).cell? ⟨w.heap.size, 1, none⟩ = some (.int .i64 r) := c1
    have hlt : w2.heap.size < W.heap.size := by
      rcases Nat.lt_or_ge w2.heap.size W.heap.size with h | h
      · exact h
      · simp [World.cell?, Array.getElem?_eq_none h] at hc
    have hlt0 : w.heap.size < W.heap.size := by omega
    have hmap : List.map (fun x => x.val) (pre ++ [(⟨x, hx64⟩ : Sq)]) = List.map (fun x => x.val) pre ++ [x] := by simp
    gi_wp2_with (refine ⟨trivial, ?_⟩; gi_at_call 42; refine (CallsIn.inRound l (callsIn_wide.2 (pon _ _ _ _ _))).mono ?_; rintro e w' ⟨rfl, hb⟩; have hbW : Hid (Below W.heap.size W w') := ⟨hb.os, hb.tape, hb.output, hb.size, hb.block⟩; clear hb; have kc := (hbW.out.cell (p := ⟨w2.heap.size, 0, none⟩) hlt).trans hc; have kf := (hbW.out.frozen (p := ⟨w2.heap.size, 0, none⟩) hlt).trans hf; have k0 := (hbW.out.cell (p := ⟨w.heap.size, 0, none⟩) hlt0).trans c0)
    · rename_i hon
      obtain ⟨o0, o1, o2, o3⟩ := onB_out hon
      obtain ⟨bb, b0, b1'⟩ := mul_bd2 f0 f1 r0 r1 o0 o1 o2 o3
      have b1 : (x : Int) % f + dx + ((x : Int) / f + dy) * f < 64 := by have := (mul_bd f0 f1 r0 r1).2; omega
      have kcH : ∀ nr : Nat, Hid ((w'.drewN nr).cell? ⟨w2.heap.size, 0, none⟩ = some (.int .u64 (accS f r dx dy (pre.map (·.1)) : Nat))) := fun _ => kc
      have kfH : ∀ nr : Nat, Hid ((w'.drewN nr).frozen? ⟨w2.heap.size, 0, none⟩ = false) := fun _ => kf
      have u1 : IntKind.i64.wrap (((x : Int) / f + dy) * f) = ((x : Int) / f + dy) * f := IntWalk.i64_in _ (by omega)
      have u2 : IntKind.i64.wrap ((x : Int) % f + dx + ((x : Int) / f + dy) * f) = (x : Int) % f + dx + ((x : Int) / f + dy) * f := IntWalk.i64_in _ (by omega)

      refine wpIn_region_last_round (F := Fence.wide) 9 rfl rfl rfl rfl (by kernel_rfl) hmx (by kernel_rfl) ?_
      simp only [List.take_succ_cons, List.take_zero]
      repeat (gi_big_quiet_step (fail))
      refine wpQuietIn_nil ?_
      intro _ hw' K hK
      obtain ⟨nr, hw''⟩ := hw'
      subst hw''
      gi_big_op
      refine hK _ _ ?_
      have hbr : Below W.heap.size W (w'.drewN nr) := ⟨hbW.out.os, hbW.out.tape, hbW.out.output, hbW.out.size, hbW.out.block⟩
      have hst : Hid (bits BinOp.or IntKind.u64 (accS f r dx dy pre.unattach : Int) (IntKind.u64.wrap (2 ^ ((x : Int) % f + dx + ((x : Int) / f + dy) * f).toNat)) = (accS f r dx dy (List.map (fun x => x.val) (pre ++ [(⟨x, hx64⟩ : Sq)])) : Nat)) := by
        rw [hmap, accS_snoc, stepS, if_pos hon]
        exact or_shift (accS_lt hs _) b0 b1
      clear hc hf kc kf k0 c0 c1 cx cy
      gi_wp2
      refine ⟨(KeepsOthers.trans (keeps_below hbr) (KeepsOthers.setCell _ _ _)), (hbr.mono (Nat.le_of_lt hlt)).setCell (p := ⟨w2.heap.size, 0, none⟩) (Nat.le_refl _) _, ⟨?_, ?_⟩, (hBH.out.trans (hbr.mono (Nat.le_of_lt hlt))).setCell (p := ⟨w2.heap.size, 0, none⟩) (Nat.le_refl _) _⟩
      · rw [hst.out]; exact World.cell?_setCell_same' _ _ _ (by rw [(kcH nr).out]; rfl)
      · rw [World.frozen?_setCell]; exact (kfH nr).out
    · rename_i hon
      refine ⟨keeps_below hbW.out, hbW.out.mono (by omega), ⟨?_, kf⟩, hBH.out.trans (hbW.out.mono (by omega))⟩
      rw [hmap, accS_snoc, stepS, if_neg (by simpa using hon)]
      exact kc
  case done =>
    rintro D ys W hD hys ⟨⟨hc, _⟩, hB⟩ hK
    have hBH := Lib.hid hB
    have hB2' := Lib.hid (hB2.out.below.trans (hB.mono (by omega)))
    clear hB
    rw [hys] at hc
    gi_wp2
    refine ⟨by simp, .inl ⟨_, _, rfl, run_takeDeferred hK, ?_⟩⟩
    exact ⟨_, results_tmp2 rfl _ _ _, rfl, hB2'.out.trans (belowK_b (w := w) (Nat.le_refl _) W D _ _ (by simp at hD; omega) hK rfl rfl)⟩
  case stop =>
    rintro D c pre W _ _ h _
    exact h.elim
end Go.Proofs.YtjjchodcoeciaaaDoor
