/- Layer 43: the table's closure. -/
import Derived.Test.YtjjjdoealagpcaaDoorGm
import Derived.Test.YtjjjdoealagpcaaDoorGn
namespace Go.Proofs.YtjjjdoealagpcaaDoor
open Go Go.RowKit
set_option linter.unusedSimpArgs false
set_option linter.unusedVariables false
attribute [local go_sem ↓] Go.wp_at_zero Go.wp_at_succ
/-- what one trial leaves in the table -/
def tryL (C : Nat → Nat → Int) (L : List Int) (s i j : Nat) : List Int :=
  let r := L.getD (restN s i j) 0
  if C i j ≠ -1 ∧ r ≠ -1 ∧ (L.getD s 0 = -1 ∨ C i j + r < L.getD s 0) then L.set s (C i j + r) else L
theorem tryL_len (C : Nat → Nat → Int) (L : List Int) (s i j : Nat) : (tryL C L s i j).length = L.length := by unfold tryL; dsimp only; split <;> simp
/-- the world behind a trial: the row of the table has turned, nothing else -/
structure TryW (w w' : World) (Br : Nat) (L L' : List Int) : Prop where
  row : IRow w' Br 3 L'
  grown : w.grownBy w' (some Br)
theorem TryW.refl {w : World} {Br : Nat} {L : List Int} (h : IRow w Br 3 L) (n : Nat) : TryW w (w.drewN n) Br L L := ⟨h.of_block rfl, rfl, rfl, rfl, Nat.le_refl _, fun _ _ _ => rfl⟩
theorem TryW.set {w : World} {Br : Nat} {L : List Int} (h : IRow w Br 3 L) (n i : Nat) (x : Int) : TryW w ((w.setCell ⟨Br, i, none⟩ (.int .i64 x)).drewN n) Br L (L.set i x) :=
  ⟨(h.set i x).of_block rfl, rfl, rfl, rfl, by show _ ≤ (w.setCell _ _).heap.size; simp, fun k hk hne => heap_setCell_other w ⟨Br, i, none⟩ k _ (fun e => hne (by rw [e]))⟩
set_option maxRecDepth 100000 in
set_option maxHeartbeats 4000000 in
theorem ptry (C : Nat → Nat → Int) (Bc Bb Br : Nat) (CL L : List Int) (s i j : Nat) (w : World) (hC : IRow w Bc 64 CL) (hR : IRow w Br 3 L) (hb : w.cell? ⟨Bb, 0, none⟩ = some (.slice (some ⟨Br, 0, none⟩) L.length L.length))
    (hL : L.length ≤ 256) (hs : s < L.length) (hij : i < j) (hj : j < 8) (bi : s.testBit i = true) (bj : s.testBit j = true) (hc : CL[i * 13 + j]? = some (C i j)) (hcb : -1 ≤ C i j ∧ C i j ≤ 100000006) (hLb : ∀ (k : Nat) (x : Int), L[k]? = some x → -1 ≤ x ∧ x ≤ 1000000000000) :
    Calls Tryd.prog 42 #[.int .i64 (s : Int), .int .i64 (i : Int), .int .i64 (j : Int), .pointer (some ⟨Bc, 0, none⟩), .pointer (some ⟨Bb, 0, none⟩)] w fun e w' => e = .returned (.tuple #[]) ∧ TryW w w' Br L (tryL C L s i j) := by
  obtain ⟨r1, r2, _, r4⟩ := rest_eq (show s < 256 by omega) (by omega) hj (by omega) bi bj
  obtain ⟨R, hRe⟩ : ∃ R, restN s i j = R := ⟨_, rfl⟩
  rw [hRe] at r1 r2
  have z1 := Nat.two_pow_pos i
  have z2 := Nat.two_pow_pos j
  have p1 : 2 ^ i < 256 := by omega
  have p2 : 2 ^ j < 256 := by omega
  obtain ⟨p, hp⟩ : ∃ p, 2 ^ i = p := ⟨_, rfl⟩
  obtain ⟨q, hq⟩ : ∃ q, 2 ^ j = q := ⟨_, rfl⟩
  rw [hp, hq] at r1
  rw [hp] at p1
  rw [hq] at p2
  have g1 : IntKind.i64.wrap (2 ^ i) = (p : Int) := by
    have e : ((2 : Int) ^ i) = (p : Int) := by rw [← hp, Int.natCast_pow]; rfl
    rw [e]; exact i64_nat (by omega)
  have g2 : IntKind.i64.wrap (2 ^ j) = (q : Int) := by
    have e : ((2 : Int) ^ j) = (q : Int) := by rw [← hq, Int.natCast_pow]; rfl
    rw [e]; exact i64_nat (by omega)
  have g3 : bits BinOp.or IntKind.i64 (p : Int) (q : Int) = ((p ||| q : Nat) : Int) := bits_or_i64_nat _ _ (by omega) (by omega)
  have h4 : p ||| q < 2 ^ 8 := Nat.or_lt_two_pow (by omega) (by omega)
  have g4 : bits BinOp.andNot IntKind.i64 (s : Int) ((p ||| q : Nat) : Int) = (R : Int) := by rw [bits_andNot_i64_nat _ _ (by omega) (by omega), r1]
  generalize p ||| q = o at *
  obtain ⟨x, hx⟩ : ∃ x, L[R]? = some x := ⟨_, List.getElem?_eq_getElem (by omega)⟩
  obtain ⟨m, hm⟩ : ∃ m, L[s]? = some m := ⟨_, List.getElem?_eq_getElem hs⟩
  have x0 := hLb R x hx
  have m0 := hLb s m hm
  have hV : Hid (tryL C L s i j = if C i j ≠ -1 ∧ x ≠ -1 ∧ (m = -1 ∨ C i j + x < m) then L.set s (C i j + x) else L) := by
    show tryL C L s i j = _
    unfold tryL
    rw [hRe]
    simp only [List.getD_eq_getElem?_getD, hx, hm, Option.getD_some]
  have c1 := hC.cell hc
  have c2 := hR.cell hx
  have c3 := hR.cell hm
  have c4 := hR.fr s
  have hCH := Lib.hid hC
  have hRH := Lib.hid hR
  generalize C i j = K at *
  have g5 : IntKind.i64.wrap (K + x) = K + x := IntWalk.i64_in _ (by omega)
  have i0 : (0 : Int) ≤ (i : Int) := Int.natCast_nonneg _
  have i1 : (i : Int) < 12 := by omega
  have j0 : (0 : Int) ≤ (j : Int) := Int.natCast_nonneg _
  have j1 : (j : Int) < 13 := by omega
  have s0 : (0 : Int) ≤ (s : Int) := Int.natCast_nonneg _
  have s1 : (s : Int) < (L.length : Int) := by omega
  have R0 : (0 : Int) ≤ (R : Int) := Int.natCast_nonneg _
  have R1 : (R : Int) < (L.length : Int) := by omega
  obtain ⟨N, hN⟩ : ∃ N, L.length = N := ⟨_, rfl⟩
  rw [hN] at *
  clear z1 z2 hN hRe hp hq r1 r2 r4 hc hcb hLb hx hm h4 p1 p2 hL hij bi bj hC hR x0 m0 hj hs
  by_cases k1 : K = -1
  · have t1 : (K != -1) = false := by rw [bne_eq_false_iff_eq]; exact k1
    have hE : Hid (tryL C L s i j = L) := by show _ = _; rw [hV.out, if_neg (fun h => h.1 k1)]
    clear k1 hV
    go_enter Tryd.func42, Tryd.ntmps42
    go_wp2_with fail
    go_quiet (fail)
    go_wp2_with fail
    go_end0
    exact ⟨rfl, by rw [hE.out]; exact TryW.refl hRH.out _⟩
  have t1 : (K != -1) = true := by rw [bne_iff_ne]; exact k1
  by_cases k2 : x = -1
  · have t2 : (x != -1) = false := by rw [bne_eq_false_iff_eq]; exact k2
    have hE : Hid (tryL C L s i j = L) := by show _ = _; rw [hV.out, if_neg (fun h => h.2.1 k2)]
    clear k1 k2 hV
    go_enter Tryd.func42, Tryd.ntmps42
    go_wp2_with fail
    go_quiet (fail)
    go_wp2_with fail
    go_end0
    exact ⟨rfl, by rw [hE.out]; exact TryW.refl hRH.out _⟩
  have t2 : (x != -1) = true := by rw [bne_iff_ne]; exact k2
  by_cases k3 : m = -1
  · have t3 : (m == -1) = true := by rw [beq_iff_eq]; exact k3
    have hE : Hid (tryL C L s i j = L.set s (K + x)) := by show _ = _; rw [hV.out, if_pos ⟨k1, k2, Or.inl k3⟩]
    clear k1 k2 k3 hV
    go_enter Tryd.func42, Tryd.ntmps42
    go_wp2_with fail
    go_quiet (fail)
    go_wp2_with fail
    go_end0
    exact ⟨rfl, by rw [hE.out]; exact TryW.set hRH.out _ _ _⟩
  have t3 : (m == -1) = false := by rw [beq_eq_false_iff_ne]; exact k3
  by_cases k4 : K + x < m
  · have t4 : (K + x < m) = True := eq_true k4
    have hE : Hid (tryL C L s i j = L.set s (K + x)) := by show _ = _; rw [hV.out, if_pos ⟨k1, k2, Or.inr k4⟩]
    clear k1 k2 k3 k4 hV
    go_enter Tryd.func42, Tryd.ntmps42
    go_wp2_with fail
    go_quiet (fail)
    go_wp2_with fail
    go_end0
    exact ⟨rfl, by rw [hE.out]; exact TryW.set hRH.out _ _ _⟩
  · have t4 : (K + x < m) = False := eq_false k4
    have hE : Hid (tryL C L s i j = L) := by show _ = _; rw [hV.out, if_neg (fun h => h.2.2.elim k3 k4)]
    clear k1 k2 k3 k4 hV
    go_enter Tryd.func42, Tryd.ntmps42
    go_wp2_with fail
    go_quiet (fail)
    go_wp2_with fail
    go_end0
    exact ⟨rfl, by rw [hE.out]; exact TryW.refl hRH.out _⟩
end Go.Proofs.YtjjjdoealagpcaaDoor
