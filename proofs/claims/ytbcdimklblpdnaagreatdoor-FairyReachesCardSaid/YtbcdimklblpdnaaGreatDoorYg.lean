/- Layer 27: sign, leg and at of the reference. -/
import Derived.Test.YtbcdimklblpdnaaGreatDoorYf
import Derived.BigRegion
import Derived.Deep.RegionHeld3
namespace Go.Proofs.YtbcdimklblpdnaaGreatDoor
open Go Go.RowKit
set_option linter.unusedSimpArgs false
set_option linter.unusedVariables false
def sgnI (n : Int) : Int := max (-1) (min 1 n)
theorem rsign (n : Int) (w : World) : Calls Tryz.prog 98 #[.int .i64 n] w fun e w' => e = .returned (.int .i64 (sgnI n)) ∧ w = w' := by
  have hV : Hid (sgnI n = max (-1) (min 1 n)) := rfl
  go_enter Tryz.func98, Tryz.ntmps98
  go_wp2_with fail
  go_ret
  exact ⟨ri hV.out.symm, rfl⟩
/-- the box of a board -/
structure KBd (w : World) (B : Nat) (f r : Int) (P : Option Addr) (n c : Nat) : Prop where
  c0 : w.cell? ⟨B, 0, none⟩ = some (.int .i64 f)
  c1 : w.cell? ⟨B, 1, none⟩ = some (.int .i64 r)
  c2 : w.cell? ⟨B, 2, none⟩ = some (.slice P n c)
  lt : B < w.heap.size
abbrev bdV (f r : Int) (P : Option Addr) (n c : Nat) : Value := .agg #[.int .i64 f, .int .i64 r, .slice P n c]
abbrev bdO (f r : Int) (P : Option Addr) (n c : Nat) : Obj := .cells #[.int .i64 f, .int .i64 r, .slice P n c] 40
theorem KBd.new (w : World) (f r : Int) (P : Option Addr) (n c : Nat) : KBd (w.alloc (bdO f r P n c)) w.heap.size f r P n c :=
  ⟨by rw [cell_of_row _ _ _ _ _ _ (heap_alloc_new w _)]; rfl, by rw [cell_of_row _ _ _ _ _ _ (heap_alloc_new w _)]; rfl, by rw [cell_of_row _ _ _ _ _ _ (heap_alloc_new w _)]; rfl, by simp⟩
theorem KBd.next {w w' : World} {B : Nat} {f r : Int} {P : Option Addr} {n c : Nat} (h : KBd w B f r P n c) (hb : Below w.heap.size w w') : KBd w' B f r P n c :=
  ⟨(hb.cell (p := ⟨B, _, none⟩) h.lt).trans h.c0, (hb.cell (p := ⟨B, _, none⟩) h.lt).trans h.c1, (hb.cell (p := ⟨B, _, none⟩) h.lt).trans h.c2, Nat.lt_of_lt_of_le h.lt hb.size⟩
/-- the box of a step -/
structure KS (w : World) (B : Nat) (x y : Int) : Prop where
  c0 : w.cell? ⟨B, 0, none⟩ = some (.int .i64 x)
  c1 : w.cell? ⟨B, 1, none⟩ = some (.int .i64 y)
  lt : B < w.heap.size
theorem KS.new (w : World) (x y : Int) : KS (w.alloc (.cells #[.int .i64 x, .int .i64 y] 74)) w.heap.size x y :=
  ⟨by rw [cell_of_row _ _ _ _ _ _ (heap_alloc_new w _)]; rfl, by rw [cell_of_row _ _ _ _ _ _ (heap_alloc_new w _)]; rfl, by simp⟩
theorem KS.next {w w' : World} {B : Nat} {x y : Int} (h : KS w B x y) (hb : Below w.heap.size w w') : KS w' B x y :=
  ⟨(hb.cell (p := ⟨B, _, none⟩) h.lt).trans h.c0, (hb.cell (p := ⟨B, _, none⟩) h.lt).trans h.c1, Nat.lt_of_lt_of_le h.lt hb.size⟩
/-- the square that is some steps away; -1: there is none -/
def atV (f r a : Nat) (p q : Int) : Int := if inB ((a % f : Nat) + p) 0 ((f : Int) - 1) && inB ((a / f : Nat) + q) 0 ((r : Int) - 1) then ((a % f : Nat) + p) + ((a / f : Nat) + q) * f else -1
set_option maxRecDepth 100000 in
set_option maxHeartbeats 4000000 in
theorem rat (f r a : Nat) (P : Option Addr) (n c : Nat) (sf sr m : Int) (w : World) (hf : 1 ≤ f ∧ f ≤ 100) (hr : r ≤ 100) (ha : a ≤ 10000) (hp : -1000 ≤ m * sf ∧ m * sf ≤ 1000) (hq : -1000 ≤ m * sr ∧ m * sr ≤ 1000) :
    Calls Tryz.prog 75 #[.agg #[.int .i64 (f : Int), .int .i64 (r : Int), .slice P n c], .int .i64 (a : Int), .agg #[.int .i64 sf, .int .i64 sr], .int .i64 m] w fun e w' => e = .returned (.int .i64 (atV f r a (m * sf) (m * sr))) ∧ Below w.heap.size w w' := by
  have hX := Lib.hid (KBd.new w f r P n c)
  have hbA : Hid (Below w.heap.size w (w.alloc (.cells #[.int .i64 (f : Int), .int .i64 (r : Int), .slice P n c] 40))) := (Below.refl _ _).alloc (Nat.le_refl _) _
  have e1 : (w.alloc (.cells #[.int .i64 (f : Int), .int .i64 (r : Int), .slice P n c] 40)).heap.size = w.heap.size + 1 := by simp
  have hY := Lib.hid (KS.new (w.alloc (.cells #[.int .i64 (f : Int), .int .i64 (r : Int), .slice P n c] 40)) sf sr)
  rw [e1] at hY
  have hbB : Below (w.alloc (.cells #[.int .i64 (f : Int), .int .i64 (r : Int), .slice P n c] 40)).heap.size (w.alloc (.cells #[.int .i64 (f : Int), .int .i64 (r : Int), .slice P n c] 40)) ((w.alloc (.cells #[.int .i64 (f : Int), .int .i64 (r : Int), .slice P n c] 40)).alloc (.cells #[.int .i64 sf, .int .i64 sr] 74)) := (Below.refl _ _).alloc (Nat.le_refl _) _
  replace hX := Lib.hid (hX.out.next hbB)
  have hb1 := Lib.hid (hbA.out.trans (hbB.mono hbA.out.size))
  clear hbA hbB e1
  obtain ⟨p, hpe⟩ : ∃ p, m * sf = p := ⟨_, rfl⟩
  obtain ⟨q, hqe⟩ : ∃ q, m * sr = q := ⟨_, rfl⟩
  rw [hpe] at hp ⊢
  rw [hqe] at hq ⊢
  obtain ⟨X, hXe⟩ : ∃ X, a % f = X := ⟨_, rfl⟩
  obtain ⟨Y, hYe⟩ : ∃ Y, a / f = Y := ⟨_, rfl⟩
  have hX1 : X < f := by rw [← hXe]; exact Nat.mod_lt _ (by omega)
  have hY1 : Y ≤ 10000 := by rw [← hYe]; exact Nat.le_trans (Nat.div_le_self _ _) ha
  have m1 : (a : Int).tmod (f : Int) = (X : Int) := by rw [← hXe]; rfl
  have m2 : (a : Int).tdiv (f : Int) = (Y : Int) := by rw [← hYe]; rfl
  have m2' : (a : Int) / (f : Int) = (Y : Int) := by rw [← hYe]; rfl
  have m1' : (a : Int) % (f : Int) = (X : Int) := by rw [← hXe]; rfl
  have m3 : IntKind.i64.wrap (X : Int) = (X : Int) := IntWalk.i64_in _ (by omega)
  have m4 : IntKind.i64.wrap (Y : Int) = (Y : Int) := IntWalk.i64_in _ (by omega)
  have m5 : IntKind.i64.wrap p = p := IntWalk.i64_in _ (by omega)
  have m6 : IntKind.i64.wrap q = q := IntWalk.i64_in _ (by omega)
  have m7 : IntKind.i64.wrap ((X : Int) + p) = (X : Int) + p := IntWalk.i64_in _ (by omega)
  have m8 : IntKind.i64.wrap ((Y : Int) + q) = (Y : Int) + q := IntWalk.i64_in _ (by omega)
  have m9 : IntKind.i64.wrap ((f : Int) - 1) = (f : Int) - 1 := IntWalk.i64_in _ (by omega)
  have m10 : IntKind.i64.wrap ((r : Int) - 1) = (r : Int) - 1 := IntWalk.i64_in _ (by omega)
  have z1 : ((f : Int) == 0) = false := by rw [beq_eq_false_iff_ne]; omega
  have z2 : ((f : Int) = 0) = False := eq_false (by omega)
  have z3 : (f = 0) = False := eq_false (by omega)
  have hV : Hid (atV f r a p q = if inB ((X : Int) + p) 0 ((f : Int) - 1) && inB ((Y : Int) + q) 0 ((r : Int) - 1) then ((X : Int) + p) + ((Y : Int) + q) * f else -1) := by
    show atV f r a p q = _
    unfold atV
    rw [hXe, hYe]
  clear hXe hYe
  go_enter Tryz.func75, Tryz.ntmps75
  go_upto_region 1 with fail
  generalize w.heap.size = B0 at hX hY ⊢
  generalize (w.alloc (.cells #[.int .i64 (f : Int), .int .i64 (r : Int), .slice P n c] 40)).alloc (.cells #[.int .i64 sf, .int .i64 sr] 74) = u at *
  obtain ⟨x0, x1, x2, _⟩ := hX.out
  obtain ⟨y0, y1, _⟩ := hY.out
  clear hX hY
  go_quiet (fail)
  clear m1 m1' m2 m2' m3 m4 m5 m6 m7 m8 z1 z2 z3 y0 y1
  by_cases h1 : 0 ≤ (X : Int) + p ∧ (X : Int) + p ≤ (f : Int) - 1
  rotate_left
  · have i1 := inB_no h1
    rw [i1] at hV
    clear h1
    go_wp2_with (go_at_call 46; refine (rto _ _ _ _).mono ?_; rintro e w' ⟨rfl, rfl⟩)
    go_ret
    exact ⟨ri (by rw [hV.out]; rfl), below_drewN hb1.out _⟩
  have i1 := inB_yes h1.1 h1.2
  by_cases h2 : 0 ≤ (Y : Int) + q ∧ (Y : Int) + q ≤ (r : Int) - 1
  rotate_left
  · have i2 := inB_no h2
    rw [i1, i2] at hV
    clear h1 h2
    go_wp2_with (go_at_call 46; refine (rto _ _ _ _).mono ?_; rintro e w' ⟨rfl, rfl⟩)
    go_ret
    exact ⟨ri (by rw [hV.out]; rfl), below_drewN hb1.out _⟩
  have i2 := inB_yes h2.1 h2.2
  rw [i1, i2] at hV
  obtain ⟨z, hz⟩ := Int.eq_ofNat_of_zero_le h2.1
  have hzb : z ≤ 100 := by omega
  have hzf : z * f ≤ 100 * 100 := Nat.mul_le_mul hzb hf.2
  obtain ⟨g, hg⟩ : ∃ g, z * f = g := ⟨_, rfl⟩
  have hgI : ((Y : Int) + q) * (f : Int) = (g : Int) := by rw [hz, ← hg, Int.natCast_mul]
  have n1 : IntKind.i64.wrap (((Y : Int) + q) * (f : Int)) = (g : Int) := by rw [hgI]; exact IntWalk.i64_in _ (by omega)
  have n2 : IntKind.i64.wrap ((X : Int) + p + (g : Int)) = (X : Int) + p + (g : Int) := IntWalk.i64_in _ (by omega)
  have hfin : Hid (atV f r a p q = (X : Int) + p + (g : Int)) := by show atV f r a p q = _; rw [hV.out, hgI]; rfl
  clear h1 h2 hz hgI hV hg hzf
  go_wp2_with (go_at_call 46; refine (rto _ _ _ _).mono ?_; rintro e w' ⟨rfl, rfl⟩)
  go_ret
  exact ⟨ri hfin.out.symm, below_drewN hb1.out _⟩
/-- the step to the square on the way -/
def legV (x y : Int) : Int × Int := if absI y < absI x then (sgnI x, 0) else if absI x < absI y then (0, sgnI y) else (sgnI x, sgnI y)
set_option maxRecDepth 100000 in
set_option maxHeartbeats 4000000 in
theorem rleg (x y : Int) (w : World) (hx : -100 ≤ x ∧ x ≤ 100) (hy : -100 ≤ y ∧ y ≤ 100) : Calls Tryz.prog 76 #[.agg #[.int .i64 x, .int .i64 y]] w fun e w' => e = .returned (.agg #[.int .i64 (legV x y).1, .int .i64 (legV x y).2]) ∧ Below w.heap.size w w' := by
  have hX := Lib.hid (KS.new w x y)
  have hbA : Hid (Below w.heap.size w (w.alloc (.cells #[.int .i64 x, .int .i64 y] 74))) := (Below.refl _ _).alloc (Nat.le_refl _) _
  have e1 : (w.alloc (.cells #[.int .i64 x, .int .i64 y] 74)).heap.size = w.heap.size + 1 := by simp
  have hRb := heap_alloc_new (w.alloc (.cells #[.int .i64 x, .int .i64 y] 74)) (.cells #[.int .i64 0, .int .i64 0] 74)
  rw [e1] at hRb
  have hbB : Below (w.alloc (.cells #[.int .i64 x, .int .i64 y] 74)).heap.size (w.alloc (.cells #[.int .i64 x, .int .i64 y] 74)) ((w.alloc (.cells #[.int .i64 x, .int .i64 y] 74)).alloc (.cells #[.int .i64 0, .int .i64 0] 74)) := (Below.refl _ _).alloc (Nat.le_refl _) _
  replace hX := Lib.hid (hX.out.next hbB)
  have hb1 := Lib.hid (hbA.out.trans (hbB.mono hbA.out.size))
  replace hRb := Lib.hid hRb
  clear hbA hbB e1
  obtain ⟨P, hP⟩ : ∃ P, absI x = P := ⟨_, rfl⟩
  obtain ⟨Q, hQ⟩ : ∃ Q, absI y = Q := ⟨_, rfl⟩
  have hs1 : Hid (∀ W, Calls Tryz.prog 66 #[.int .i64 x] W fun e w' => e = .returned (.int .i64 P) ∧ W = w') := fun W => hP ▸ rsize x W (by omega) (by omega)
  have hs2 : Hid (∀ W, Calls Tryz.prog 66 #[.int .i64 y] W fun e w' => e = .returned (.int .i64 Q) ∧ W = w') := fun W => hQ ▸ rsize y W (by omega) (by omega)
  have hV : Hid (legV x y = if Q < P then (sgnI x, 0) else if P < Q then (0, sgnI y) else (sgnI x, sgnI y)) := by show legV x y = _; unfold legV; rw [hP, hQ]
  clear hP hQ
  go_enter Tryz.func76, Tryz.ntmps76
  go_upto_region 1 with fail
  generalize hB0 : w.heap.size = B0 at hX hRb ⊢
  have hBH := Lib.hid hB0
  clear hB0
  generalize (w.alloc (.cells #[.int .i64 x, .int .i64 y] 74)).alloc (.cells #[.int .i64 0, .int .i64 0] 74) = u at *
  obtain ⟨x0, x1, _⟩ := hX.out
  have r0 : u.cell? ⟨B0 + 1, 0, none⟩ = some (.int .i64 0) := by rw [cell_of_row _ _ _ _ _ _ hRb.out]; rfl
  have r1 : u.cell? ⟨B0 + 1, 1, none⟩ = some (.int .i64 0) := by rw [cell_of_row _ _ _ _ _ _ hRb.out]; rfl
  have g0 : u.frozen? ⟨B0 + 1, 0, none⟩ = false := frozen_of_row _ _ _ _ _ hRb.out
  have g1 : u.frozen? ⟨B0 + 1, 1, none⟩ = false := frozen_of_row _ _ _ _ _ hRb.out
  have hbs : Hid (∀ (a b : Int) (k : Nat), Below w.heap.size w (World.drewN ((u.setCell ⟨B0 + 1, 0, none⟩ (.int .i64 a)).setCell ⟨B0 + 1, 1, none⟩ (.int .i64 b)) k)) := fun a b k => below_drewN ((hb1.out.setCell (p := ⟨B0 + 1, 0, none⟩) (by show w.heap.size ≤ B0 + 1; have := hBH.out; omega) _).setCell (p := ⟨B0 + 1, 1, none⟩) (by show w.heap.size ≤ B0 + 1; have := hBH.out; omega) _) k
  clear hX
  by_cases k1 : Q < P
  · have q1 : (Q < P) = True := eq_true k1
    have hV1 : Hid (legV x y = (sgnI x, 0)) := hV.out.trans (if_pos k1)
    clear k1 hV
    go_quiet (first | (go_at_call 66; first | exact Calls.quiet_of_same ((hs1.out _).mono fun _ _ ⟨h1, h2⟩ => ⟨h1, h2.symm⟩) | exact Calls.quiet_of_same ((hs2.out _).mono fun _ _ ⟨h1, h2⟩ => ⟨h1, h2.symm⟩)))
    go_wp2_with (go_at_call 98; refine (rsign _ _).mono ?_; rintro e w' ⟨rfl, rfl⟩)
    (try simp only [Exit.inBlock, Exit.then])
    refine bodyPost_ret (v := .agg #[.int .i64 (sgnI x), .int .i64 0]) ?hres rfl ?hfin
    case hfin => exact ⟨by rw [hV1.out], ((below_drewN hb1.out _).setCell (p := ⟨B0 + 1, 0, none⟩) (by show w.heap.size ≤ B0 + 1; have := hBH.out; omega) _).setCell (p := ⟨B0 + 1, 1, none⟩) (by show w.heap.size ≤ B0 + 1; have := hBH.out; omega) _⟩
    case hres => simp [results, Tryz.results76, go_sem, r0, r1]
  have q1 : (Q < P) = False := eq_false k1
  rw [if_neg k1] at hV
  clear k1
  by_cases k2 : P < Q
  · have q2 : (P < Q) = True := eq_true k2
    have hV1 : Hid (legV x y = (0, sgnI y)) := hV.out.trans (if_pos k2)
    clear k2 hV
    go_quiet (first | (go_at_call 66; first | exact Calls.quiet_of_same ((hs1.out _).mono fun _ _ ⟨h1, h2⟩ => ⟨h1, h2.symm⟩) | exact Calls.quiet_of_same ((hs2.out _).mono fun _ _ ⟨h1, h2⟩ => ⟨h1, h2.symm⟩)))
    have y0 : (u.drewN nq).cell? ⟨B0, 0, none⟩ = some (.int .i64 x) := x0
    have y1 : (u.drewN nq).cell? ⟨B0, 1, none⟩ = some (.int .i64 y) := x1
    have s0 : (u.drewN nq).cell? ⟨B0 + 1, 0, none⟩ = some (.int .i64 0) := r0
    have s1 : (u.drewN nq).cell? ⟨B0 + 1, 1, none⟩ = some (.int .i64 0) := r1
    have h0 : (u.drewN nq).frozen? ⟨B0 + 1, 0, none⟩ = false := g0
    have h1 : (u.drewN nq).frozen? ⟨B0 + 1, 1, none⟩ = false := g1
    have hb2 : Hid (Below w.heap.size w (u.drewN nq)) := below_drewN hb1.out _
    clear x0 x1 r0 r1 g0 g1 hb1 hbs hRb
    generalize u.drewN nq = u2 at *
    go_upto_region 3 with fail
    go_quiet (first | (go_at_call 66; first | exact Calls.quiet_of_same ((hs1.out _).mono fun _ _ ⟨h1, h2⟩ => ⟨h1, h2.symm⟩) | exact Calls.quiet_of_same ((hs2.out _).mono fun _ _ ⟨h1, h2⟩ => ⟨h1, h2.symm⟩)))
    go_wp2_with (go_at_call 98; refine (rsign _ _).mono ?_; rintro e w' ⟨rfl, rfl⟩)
    (try simp only [Exit.inBlock, Exit.then])
    refine bodyPost_ret (v := .agg #[.int .i64 0, .int .i64 (sgnI y)]) ?hres rfl ?hfin
    case hfin => exact ⟨by rw [hV1.out], ((below_drewN hb2.out _).setCell (p := ⟨B0 + 1, 0, none⟩) (by show w.heap.size ≤ B0 + 1; have := hBH.out; omega) _).setCell (p := ⟨B0 + 1, 1, none⟩) (by show w.heap.size ≤ B0 + 1; have := hBH.out; omega) _⟩
    case hres => simp [results, Tryz.results76, go_sem, s0, s1]
  have q2 : (P < Q) = False := eq_false k2
  have hV1 : Hid (legV x y = (sgnI x, sgnI y)) := hV.out.trans (if_neg k2)
  clear k2 hV
  go_quiet (first | (go_at_call 66; first | exact Calls.quiet_of_same ((hs1.out _).mono fun _ _ ⟨h1, h2⟩ => ⟨h1, h2.symm⟩) | exact Calls.quiet_of_same ((hs2.out _).mono fun _ _ ⟨h1, h2⟩ => ⟨h1, h2.symm⟩)))
  have y0 : (u.drewN nq).cell? ⟨B0, 0, none⟩ = some (.int .i64 x) := x0
  have y1 : (u.drewN nq).cell? ⟨B0, 1, none⟩ = some (.int .i64 y) := x1
  have s0 : (u.drewN nq).cell? ⟨B0 + 1, 0, none⟩ = some (.int .i64 0) := r0
  have s1 : (u.drewN nq).cell? ⟨B0 + 1, 1, none⟩ = some (.int .i64 0) := r1
  have h0 : (u.drewN nq).frozen? ⟨B0 + 1, 0, none⟩ = false := g0
  have h1 : (u.drewN nq).frozen? ⟨B0 + 1, 1, none⟩ = false := g1
  have hb2 : Hid (Below w.heap.size w (u.drewN nq)) := below_drewN hb1.out _
  clear x0 x1 r0 r1 g0 g1 hb1 hbs hRb
  generalize u.drewN nq = u2 at *
  go_upto_region 3 with fail
  go_quiet (first | (go_at_call 66; first | exact Calls.quiet_of_same ((hs1.out _).mono fun _ _ ⟨h1, h2⟩ => ⟨h1, h2.symm⟩) | exact Calls.quiet_of_same ((hs2.out _).mono fun _ _ ⟨h1, h2⟩ => ⟨h1, h2.symm⟩)))
  have x0 : (u2.drewN nq).cell? ⟨B0, 0, none⟩ = some (.int .i64 x) := y0
  have x1 : (u2.drewN nq).cell? ⟨B0, 1, none⟩ = some (.int .i64 y) := y1
  have r0 : (u2.drewN nq).cell? ⟨B0 + 1, 0, none⟩ = some (.int .i64 0) := s0
  have r1 : (u2.drewN nq).cell? ⟨B0 + 1, 1, none⟩ = some (.int .i64 0) := s1
  have g0 : (u2.drewN nq).frozen? ⟨B0 + 1, 0, none⟩ = false := h0
  have g1 : (u2.drewN nq).frozen? ⟨B0 + 1, 1, none⟩ = false := h1
  have hb3 : Hid (Below w.heap.size w (u2.drewN nq)) := below_drewN hb2.out _
  clear y0 y1 s0 s1 h0 h1 hb2
  generalize u2.drewN nq = u3 at *
  have hC : Hid (∀ W, Below u3.heap.size u3 W → W.cell? ⟨B0, 0, none⟩ = some (.int .i64 x) ∧ W.cell? ⟨B0, 1, none⟩ = some (.int .i64 y)) := fun W h => ⟨(h.cell (p := ⟨B0, 0, none⟩) (block_lt_of_cell x0)).trans x0, (h.cell (p := ⟨B0, 1, none⟩) (block_lt_of_cell x1)).trans x1⟩
  go_upto_region 5 with fail
  refine wp_region_held_drew (S := fun W => W.cell? ⟨B0, 0, none⟩ = some (.int .i64 x) ∧ W.cell? ⟨B0, 1, none⟩ = some (.int .i64 y)) (by kernel_rfl) (hC.out _ ((Below.refl _ _).drew)) (fun hHeld => ?_)
  refine wpAnyH_take (i := 0) (v := ?_) rfl (by kernel_rfl) (by kernel_rfl) (by kernel_rfl) (fun _ _ _ h => h) (Or.inl ⟨by rfl, ?_⟩) hHeld ?_
  rotate_left
  · intro W9 hSw; (try dsimp only at hSw); go_simp; (try with_reducible rfl)
  simp only [Act.put, List.getElem_toArray, List.getElem_cons_zero, List.getElem_cons_succ, List.setIfInBounds_toArray, List.set_cons_zero, List.set_cons_succ]
  refine wpAnyH_take (i := 1) (v := ?_) rfl (by kernel_rfl) (by kernel_rfl) (by kernel_rfl) (fun _ _ _ h => h) (Or.inl ⟨by rfl, ?_⟩) hHeld ?_
  rotate_left
  · intro W9 hSw; (try dsimp only at hSw); go_simp; (try with_reducible rfl)
  simp only [Act.put, List.getElem_toArray, List.getElem_cons_zero, List.getElem_cons_succ, List.setIfInBounds_toArray, List.set_cons_zero, List.set_cons_succ]
  refine wpAnyH_take (i := 3) (v := ?_) rfl (by kernel_rfl) (by kernel_rfl) (by kernel_rfl) (fun _ _ _ h => h) (Or.inl ⟨by rfl, ?_⟩) hHeld ?_
  rotate_left
  · intro W9 hSw; (try dsimp only at hSw); go_simp; (try with_reducible rfl)
  simp only [Act.put, List.getElem_toArray, List.getElem_cons_zero, List.getElem_cons_succ, List.setIfInBounds_toArray, List.set_cons_zero, List.set_cons_succ]
  refine wpAnyH_take (i := 4) (v := ?_) rfl (by kernel_rfl) (by kernel_rfl) (by kernel_rfl) (fun _ _ _ h => h) (Or.inl ⟨by rfl, ?_⟩) hHeld ?_
  rotate_left
  · intro W9 hSw; (try dsimp only at hSw); go_simp; (try with_reducible rfl)
  simp only [Act.put, List.getElem_toArray, List.getElem_cons_zero, List.getElem_cons_succ, List.setIfInBounds_toArray, List.set_cons_zero, List.set_cons_succ]
  refine wpAnyH_ready (rs := [2]) (by kernel_rfl) (by simp) ?_
  refine AllReadyH.cons rfl (fun K hK => ?_) AllReadyH.nil
  go_simp
  go_at_call 98
  refine (rsign _ _).mono ?_
  rintro e w9 ⟨rfl, rfl⟩
  refine hK.out _ _ (hHeld) (fun hHeld2 => ?_)
  clear hK K hHeld
  have hHeld := hHeld2
  clear hHeld2
  refine wpAnyH_ready (rs := [5]) (by kernel_rfl) (by simp) ?_
  refine AllReadyH.cons rfl (fun K hK => ?_) AllReadyH.nil
  go_simp
  go_at_call 98
  refine (rsign _ _).mono ?_
  rintro e w9 ⟨rfl, rfl⟩
  refine hK.out _ _ (hHeld) (fun hHeld2 => ?_)
  clear hK K hHeld
  have hHeld := hHeld2
  clear hHeld2
  refine wpAnyH_take (i := 6) (v := ?_) rfl (by kernel_rfl) (by kernel_rfl) (by kernel_rfl) (fun _ _ _ h => h) (Or.inl ⟨by rfl, ?_⟩) hHeld ?_
  rotate_left
  · intro W9 hSw; (try dsimp only at hSw); go_simp; (try with_reducible rfl)
  simp only [Act.put, List.getElem_toArray, List.getElem_cons_zero, List.getElem_cons_succ, List.setIfInBounds_toArray, List.set_cons_zero, List.set_cons_succ]
  refine wpAnyH_ready (rs := [7]) (by kernel_rfl) (by simp) ?_
  refine AllReadyH.cons rfl (fun K hK => ?_) AllReadyH.nil
  go_simp
  refine hK.out _ _ (⟨by rw [← hHeld.1]; exact (World.cell?_setCell_far _ _ _ _ (by show B0 + 1 ≠ B0; omega)).trans (World.cell?_setCell_far _ _ _ _ (by show B0 + 1 ≠ B0; omega)), by rw [← hHeld.2]; exact (World.cell?_setCell_far _ _ _ _ (by show B0 + 1 ≠ B0; omega)).trans (World.cell?_setCell_far _ _ _ _ (by show B0 + 1 ≠ B0; omega))⟩) (fun hHeld2 => ?_)
  clear hK K hHeld
  have hHeld := hHeld2
  clear hHeld2
  refine wpAnyH_done (by kernel_rfl) ?_ _
  clear hHeld hC
  go_wp2_with fail
  (try simp only [Exit.inBlock, Exit.then])
  refine bodyPost_ret (v := .agg #[.int .i64 (sgnI x), .int .i64 (sgnI y)]) ?hres rfl ?hfin
  case hfin => exact ⟨by rw [hV1.out], ((hb3.out.setCell (p := ⟨B0 + 1, 0, none⟩) (by show w.heap.size ≤ B0 + 1; have := hBH.out; omega) _).setCell (p := ⟨B0 + 1, 1, none⟩) (by show w.heap.size ≤ B0 + 1; have := hBH.out; omega) _).drew⟩
  case hres => simp [results, Tryz.results76, go_sem, r0, r1]
end Go.Proofs.YtbcdimklblpdnaaGreatDoor
