/- Layer 27: leg of the program; the two visitors of reach. -/
import Derived.Test.YtbcdimklblpdnaaDoorYq
import Derived.Lib.MinMax
namespace Go.Proofs.YtbcdimklblpdnaaDoor
open Go Go.RowKit
set_option linter.unusedSimpArgs false
set_option linter.unusedVariables false
theorem run_max4 {P : Program} (w : World) (ts : Array TypeId) (t : TypeId) (x y z u : Int) : (Builtin.max_ ts t #[.int .i64 x, .int .i64 y, .int .i64 z, .int .i64 u]).run P w = .ok (.int .i64 (max (max (max x y) z) u)) w := by
  have e : ∀ a b : Int, (if b > a then b else a) = max a b := fun a b => by
    rw [Int.max_def]
    split <;> split <;> omega
  simp [Builtin.max_, Builtin.max2, e]
def longV (x y : Int) : Int := max (max (max x (-x)) y) (-y)
set_option maxRecDepth 100000 in
theorem leg_table : ∀ (i j : Fin 15), ((i.1 : Int) - 7 ≠ 0 ∨ (j.1 : Int) - 7 ≠ 0) → 1 ≤ longV ((i.1 : Int) - 7) ((j.1 : Int) - 7) ∧ longV ((i.1 : Int) - 7) ((j.1 : Int) - 7) ≤ 7 ∧ Int.tdiv ((i.1 : Int) - 7) (longV ((i.1 : Int) - 7) ((j.1 : Int) - 7)) = (legV ((i.1 : Int) - 7) ((j.1 : Int) - 7)).1 ∧ Int.tdiv ((j.1 : Int) - 7) (longV ((i.1 : Int) - 7) ((j.1 : Int) - 7)) = (legV ((i.1 : Int) - 7) ((j.1 : Int) - 7)).2 := by decide +kernel
theorem leg_is {x y : Int} (hx : -7 ≤ x ∧ x ≤ 7) (hy : -7 ≤ y ∧ y ≤ 7) (hn : x ≠ 0 ∨ y ≠ 0) : 1 ≤ longV x y ∧ longV x y ≤ 7 ∧ Int.tdiv x (longV x y) = (legV x y).1 ∧ Int.tdiv y (longV x y) = (legV x y).2 := by
  have h := leg_table ⟨(x + 7).toNat, by omega⟩ ⟨(y + 7).toNat, by omega⟩
  have ex : (((x + 7).toNat : Nat) : Int) - 7 = x := by omega
  have ey : (((y + 7).toNat : Nat) : Int) - 7 = y := by omega
  simp only [ex, ey] at h
  exact h hn
set_option maxRecDepth 100000 in
set_option maxHeartbeats 1000000 in
theorem pleg (x y : Int) (w : World) (hx : -7 ≤ x ∧ x ≤ 7) (hy : -7 ≤ y ∧ y ≤ 7) (hn : x ≠ 0 ∨ y ≠ 0) : Calls Tryd.prog 68 #[.agg #[.int .i64 x, .int .i64 y]] w fun e w' => e = .returned (.agg #[.int .i64 (legV x y).1, .int .i64 (legV x y).2]) ∧ Below w.heap.size w w' := by
  obtain ⟨hl1, hl7, hd1, hd2⟩ := leg_is hx hy hn
  have hLV : Hid (longV x y = max (max (max x (-x)) y) (-y)) := rfl
  obtain ⟨L, hL⟩ : ∃ L, longV x y = L := ⟨_, rfl⟩
  rw [hL] at hl1 hl7 hd1 hd2 hLV
  obtain ⟨p, hp⟩ : ∃ p, (legV x y).1 = p := ⟨_, rfl⟩
  obtain ⟨q, hq⟩ : ∃ q, (legV x y).2 = q := ⟨_, rfl⟩
  have hpb := (legV_bd x y).1
  have hqb := (legV_bd x y).2
  rw [hp] at hpb hd1 ⊢
  rw [hq] at hqb hd2 ⊢
  have hd1H := Lib.hid hd1
  have hd2H := Lib.hid hd2
  clear hL hp hq hn hd1 hd2
  have hX := Lib.hid (KS.new w x y)
  have hbA : Hid (Below w.heap.size w (w.alloc (.cells #[.int .i64 x, .int .i64 y] 43))) := (Below.refl _ _).alloc (Nat.le_refl _) _
  have g1 : IntKind.i64.wrap (-x) = -x := IntWalk.i64_in _ (by omega)
  have g2 : IntKind.i64.wrap (-y) = -y := IntWalk.i64_in _ (by omega)
  go_enter Tryd.func68, Tryd.ntmps68
  have hmax : ∀ W : World, (Builtin.max_ #[3, 3, 3, 3] 3 #[.int .i64 x, .int .i64 (-x), .int .i64 y, .int .i64 (-y)]).run Tryd.prog W = .ok (.int .i64 L) W := fun W => by rw [run_max4, ← hLV.out]
  go_upto_region 2 with fail
  have hS : Hid (∀ W, Below (w.heap.size + 1) (w.alloc (.cells #[.int .i64 x, .int .i64 y] 43)) W → W.cell? ⟨w.heap.size, 0, none⟩ = some (.int .i64 x) ∧ W.cell? ⟨w.heap.size, 1, none⟩ = some (.int .i64 y)) := fun W h => by
    have h2 : Below (w.alloc (.cells #[.int .i64 x, .int .i64 y] 43)).heap.size (w.alloc (.cells #[.int .i64 x, .int .i64 y] 43)) W := by simpa using h
    exact ⟨(hX.out.next h2).c0, (hX.out.next h2).c1⟩
  have hd1 : Int.tdiv x L = p := hd1H.out
  have hd2 : Int.tdiv y L = q := hd2H.out
  have hL0 : (L == 0) = false := by rw [beq_eq_false_iff_ne]; omega
  have hL1 : (L = 0) = False := eq_false (by omega)
  have w1 : IntKind.i64.wrap p = p := IntWalk.i64_in _ (by omega)
  have w2 : IntKind.i64.wrap q = q := IntWalk.i64_in _ (by omega)
  have hb0 : Hid (Below (w.heap.size + 1) (w.alloc (.cells #[.int .i64 x, .int .i64 y] 43)) ((w.alloc (.cells #[.int .i64 x, .int .i64 y] 43)).alloc (.cells #[.int .i64 0, .int .i64 0] 43)).drew) := ((Below.refl _ _).alloc (by simp) _).drew
  refine wp_region_held_drew (S := fun W => W.cell? ⟨w.heap.size, 0, none⟩ = some (.int .i64 x) ∧ W.cell? ⟨w.heap.size, 1, none⟩ = some (.int .i64 y)) (by kernel_rfl) (hS.out _ hb0.out) (fun hHeld => ?_)
  refine wpAnyH_take (i := 0) (v := ?_) rfl (by kernel_rfl) (by kernel_rfl) (by kernel_rfl) (fun _ _ _ h => h) (Or.inl ⟨by rfl, ?_⟩) hHeld ?_
  rotate_left
  · intro W9 hSw; (try dsimp only at hSw); go_simp; (try with_reducible rfl)
  simp only [Act.put, List.getElem_toArray, List.getElem_cons_zero, List.getElem_cons_succ, List.setIfInBounds_toArray, List.set_cons_zero, List.set_cons_succ]
  refine wpAnyH_take (i := 1) (v := ?_) rfl (by kernel_rfl) (by kernel_rfl) (by kernel_rfl) (fun _ _ _ h => h) (Or.inl ⟨by rfl, ?_⟩) hHeld ?_
  rotate_left
  · intro W9 hSw; (try dsimp only at hSw); go_simp; (try with_reducible rfl)
  simp only [Act.put, List.getElem_toArray, List.getElem_cons_zero, List.getElem_cons_succ, List.setIfInBounds_toArray, List.set_cons_zero, List.set_cons_succ]
  refine wpAnyH_take (i := 2) (v := ?_) rfl (by kernel_rfl) (by kernel_rfl) (by kernel_rfl) (fun _ _ _ h => h) (Or.inl ⟨by rfl, ?_⟩) hHeld ?_
  rotate_left
  · intro W9 hSw; (try dsimp only at hSw); go_simp; (try with_reducible rfl)
  simp only [Act.put, List.getElem_toArray, List.getElem_cons_zero, List.getElem_cons_succ, List.setIfInBounds_toArray, List.set_cons_zero, List.set_cons_succ]
  refine wpAnyH_take (i := 3) (v := ?_) rfl (by kernel_rfl) (by kernel_rfl) (by kernel_rfl) (fun _ _ _ h => h) (Or.inl ⟨by rfl, ?_⟩) hHeld ?_
  rotate_left
  · intro W9 hSw; (try dsimp only at hSw); go_simp; (try with_reducible rfl)
  simp only [Act.put, List.getElem_toArray, List.getElem_cons_zero, List.getElem_cons_succ, List.setIfInBounds_toArray, List.set_cons_zero, List.set_cons_succ]
  refine wpAnyH_take (i := 4) (v := ?_) rfl (by kernel_rfl) (by kernel_rfl) (by kernel_rfl) (fun _ _ _ h => h) (Or.inl ⟨by rfl, ?_⟩) hHeld ?_
  rotate_left
  · intro W9 hSw; (try dsimp only at hSw); go_simp; (try with_reducible rfl)
  simp only [Act.put, List.getElem_toArray, List.getElem_cons_zero, List.getElem_cons_succ, List.setIfInBounds_toArray, List.set_cons_zero, List.set_cons_succ]
  refine wpAnyH_take (i := 5) (v := ?_) rfl (by kernel_rfl) (by kernel_rfl) (by kernel_rfl) (fun _ _ _ h => h) (Or.inl ⟨by rfl, ?_⟩) hHeld ?_
  rotate_left
  · intro W9 hSw; (try dsimp only at hSw); go_simp; (try with_reducible rfl)
  simp only [Act.put, List.getElem_toArray, List.getElem_cons_zero, List.getElem_cons_succ, List.setIfInBounds_toArray, List.set_cons_zero, List.set_cons_succ]
  refine wpAnyH_take (i := 6) (v := ?_) rfl (by kernel_rfl) (by kernel_rfl) (by kernel_rfl) (fun _ _ _ h => h) (Or.inl ⟨by rfl, ?_⟩) hHeld ?_
  rotate_left
  · intro W9 hSw; (try dsimp only at hSw); go_simp; (try with_reducible rfl)
  simp only [Act.put, List.getElem_toArray, List.getElem_cons_zero, List.getElem_cons_succ, List.setIfInBounds_toArray, List.set_cons_zero, List.set_cons_succ]
  refine wpAnyH_take (i := 7) (v := ?_) rfl (by kernel_rfl) (by kernel_rfl) (by kernel_rfl) (fun _ _ _ h => h) (Or.inl ⟨by rfl, ?_⟩) hHeld ?_
  rotate_left
  · intro W9 hSw; (try dsimp only at hSw); go_simp; (try with_reducible rfl)
  simp only [Act.put, List.getElem_toArray, List.getElem_cons_zero, List.getElem_cons_succ, List.setIfInBounds_toArray, List.set_cons_zero, List.set_cons_succ]
  refine wpAnyH_take (i := 8) (v := ?_) rfl (by kernel_rfl) (by kernel_rfl) (by kernel_rfl) (fun _ _ _ h => h) (Or.inl ⟨by rfl, ?_⟩) hHeld ?_
  rotate_left
  · intro W9 hSw; (try dsimp only at hSw); go_simp; (try with_reducible rfl)
  simp only [Act.put, List.getElem_toArray, List.getElem_cons_zero, List.getElem_cons_succ, List.setIfInBounds_toArray, List.set_cons_zero, List.set_cons_succ]
  refine wpAnyH_ready (rs := [9]) (by kernel_rfl) (by simp) ?_
  refine AllReadyH.cons rfl (fun K hK => ?_) AllReadyH.nil
  go_simp
  refine hK.out _ _ (hS.out _ (((Below.refl _ _).alloc (by simp) _).drew)) (fun hHeld2 => ?_)
  clear hK K hHeld
  have hHeld := hHeld2
  clear hHeld2
  refine wpAnyH_done (by kernel_rfl) ?_ _
  have hK2 := KS.new (w.alloc (.cells #[.int .i64 x, .int .i64 y] 43)) p q
  have hbB : Below (w.alloc (.cells #[.int .i64 x, .int .i64 y] 43)).heap.size (w.alloc (.cells #[.int .i64 x, .int .i64 y] 43)) ((w.alloc (.cells #[.int .i64 x, .int .i64 y] 43)).alloc (.cells #[.int .i64 p, .int .i64 q] 43)) := (Below.refl _ _).alloc (Nat.le_refl _) _
  have e1 : (w.alloc (.cells #[.int .i64 x, .int .i64 y] 43)).heap.size = w.heap.size + 1 := by simp
  rw [e1] at hK2
  have hfin : Hid (Below w.heap.size w (((w.alloc (.cells #[.int .i64 x, .int .i64 y] 43)).alloc (.cells #[.int .i64 p, .int .i64 q] 43))).drew) := (hbA.out.trans (hbB.mono hbA.out.size)).drew
  go_wp2_with fail
  refine bodyPost_ret (v := .agg #[.int .i64 p, .int .i64 q]) ?hres rfl ?hfin
  case hfin => exact ⟨rfl, hfin.out⟩
  case hres =>
    generalize (w.alloc (.cells #[.int .i64 x, .int .i64 y] 43)).alloc (.cells #[.int .i64 p, .int .i64 q] 43) = v at *
    have k0 : v.drew.cell? ⟨w.heap.size + 1, 0, none⟩ = some (.int .i64 p) := hK2.c0
    have k1 : v.drew.cell? ⟨w.heap.size + 1, 1, none⟩ = some (.int .i64 q) := hK2.c1
    simp [results, Tryd.results68, go_sem, k0, k1]
/-- what the first visitor does -/
theorem pvis1 (BB BF : Nat) (f r : Int) (P : Option Addr) (n c z : Nat) (pc : Int) (b0 : Bool) (bk off : Nat) (W : World) (hX : KBd W BB f r P n c) (hPA : P = some ⟨bk, off, none⟩) (hc : W.cell? ⟨bk, off + z, none⟩ = some (.int .i8 pc)) (hz : z < n)
    (hf : W.cell? ⟨BF, 0, none⟩ = some (.bool b0)) (hfr : W.frozen? ⟨BF, 0, none⟩ = false) :
    Calls Tryd.prog 69 #[.int .i64 (z : Int), .pointer (some ⟨BB, 0, none⟩), .pointer (some ⟨BF, 0, none⟩)] W fun e w' => e = .returned (.bool false) ∧ w' = W.setCell ⟨BF, 0, none⟩ (.bool (pc == 0)) := by
  subst hPA
  obtain ⟨x0, x1, x2, _⟩ := hX
  have hzI : (z : Int) < (n : Int) := by omega
  go_enter Tryd.func69, Tryd.ntmps69
  go_wp2_with fail
  go_ret
  exact ⟨rfl, rfl⟩
/-- the three variables of the second visitor -/
structure VS (W : World) (BP BO BM : Nat) (p : Int) (o : Nat) (m : Int) : Prop where
  p0 : W.cell? ⟨BP, 0, none⟩ = some (.int .i64 p)
  o0 : W.cell? ⟨BO, 0, none⟩ = some (.int .u64 (o : Int))
  m0 : W.cell? ⟨BM, 0, none⟩ = some (.int .i64 m)
  fp : W.frozen? ⟨BP, 0, none⟩ = false
  fo : W.frozen? ⟨BO, 0, none⟩ = false
  fm : W.frozen? ⟨BM, 0, none⟩ = false
  po : BP ≠ BO
  pm : BP ≠ BM
  om : BO ≠ BM
theorem frz_set {W : World} {a b : Addr} {v : Value} (h : W.frozen? a = false) : (W.setCell b v).frozen? a = false := by rw [World.frozen?_setCell]; exact h
theorem VS.setP {W : World} {BP BO BM : Nat} {p m p' : Int} {o : Nat} (h : VS W BP BO BM p o m) : VS (W.setCell ⟨BP, 0, none⟩ (.int .i64 p')) BP BO BM p' o m :=
  ⟨World.cell?_setCell_same' _ _ _ (by rw [h.p0]; rfl), (World.cell?_setCell_other W ⟨BP, 0, none⟩ ⟨BO, 0, none⟩ _ (by simp [h.po, h.po.symm])).trans h.o0, (World.cell?_setCell_other W ⟨BP, 0, none⟩ ⟨BM, 0, none⟩ _ (by simp [h.pm, h.pm.symm])).trans h.m0, frz_set h.fp, frz_set h.fo, frz_set h.fm, h.po, h.pm, h.om⟩
theorem VS.setO {W : World} {BP BO BM : Nat} {p m : Int} {o o' : Nat} (h : VS W BP BO BM p o m) : VS (W.setCell ⟨BO, 0, none⟩ (.int .u64 (o' : Int))) BP BO BM p o' m :=
  ⟨(World.cell?_setCell_other W ⟨BO, 0, none⟩ ⟨BP, 0, none⟩ _ (by simp [h.po, h.po.symm])).trans h.p0, World.cell?_setCell_same' _ _ _ (by rw [h.o0]; rfl), (World.cell?_setCell_other W ⟨BO, 0, none⟩ ⟨BM, 0, none⟩ _ (by simp [h.om, h.om.symm])).trans h.m0, frz_set h.fp, frz_set h.fo, frz_set h.fm, h.po, h.pm, h.om⟩
theorem VS.setM {W : World} {BP BO BM : Nat} {p m m' : Int} {o : Nat} (h : VS W BP BO BM p o m) : VS (W.setCell ⟨BM, 0, none⟩ (.int .i64 m')) BP BO BM p o m' :=
  ⟨(World.cell?_setCell_other W ⟨BM, 0, none⟩ ⟨BP, 0, none⟩ _ (by simp [h.pm, h.pm.symm])).trans h.p0, (World.cell?_setCell_other W ⟨BM, 0, none⟩ ⟨BO, 0, none⟩ _ (by simp [h.om, h.om.symm])).trans h.o0, World.cell?_setCell_same' _ _ _ (by rw [h.m0]; rfl), frz_set h.fp, frz_set h.fo, frz_set h.fm, h.po, h.pm, h.om⟩
theorem VS.drewN {W : World} {BP BO BM : Nat} {p m : Int} {o : Nat} (h : VS W BP BO BM p o m) (n : Nat) : VS (W.drewN n) BP BO BM p o m := ⟨h.p0, h.o0, h.m0, h.fp, h.fo, h.fm, h.po, h.pm, h.om⟩
theorem VS.drew {W : World} {BP BO BM : Nat} {p m : Int} {o : Nat} (h : VS W BP BO BM p o m) : VS W.drew BP BO BM p o m := ⟨h.p0, h.o0, h.m0, h.fp, h.fo, h.fm, h.po, h.pm, h.om⟩
/-- what the second visitor does while it passes over -/
theorem pvis2a (BB BP BO BM : Nat) (f r : Int) (P : Option Addr) (n c z : Nat) (pc m : Int) (o : Nat) (bk off : Nat) (W : World) (hX : KBd W BB f r P n c) (hPA : P = some ⟨bk, off, none⟩) (hc : W.cell? ⟨bk, off + z, none⟩ = some (.int .i8 pc)) (hz : z < n) (hV : VS W BP BO BM 1 o m) :
    Calls Tryd.prog 70 #[.int .i64 (z : Int), .pointer (some ⟨BP, 0, none⟩), .pointer (some ⟨BB, 0, none⟩), .pointer (some ⟨BO, 0, none⟩), .pointer (some ⟨BM, 0, none⟩)] W fun e w' => e = .returned (.bool true) ∧ Chg [BP, BO, BM] W w' ∧ VS w' BP BO BM (if pc = 0 then 1 else 0) o m := by
  subst hPA
  have hVH := Lib.hid hV
  obtain ⟨x0, x1, x2, _⟩ := hX
  obtain ⟨p0, o0, m0, fp, fo, fm, po, pm, om⟩ := hV
  have hzI : (z : Int) < (n : Int) := by omega
  go_enter Tryd.func70, Tryd.ntmps70
  by_cases hp : pc = 0
  · have q1 : (pc != 0) = false := by rw [bne_eq_false_iff_eq]; exact hp
    have hpH := Lib.hid hp
    clear hp
    go_wp2_with fail
    go_ret
    exact ⟨rfl, Chg.refl _ _, by first | exact hVH.out | (rw [if_pos hpH.out]; exact hVH.out)⟩
  · have q1 : (pc != 0) = true := by rw [bne_iff_ne]; exact hp
    have hpH := Lib.hid hp
    clear hp
    go_wp2_with fail
    go_ret
    exact ⟨rfl, (Chg.refl _ _).setCell (by simp) _ _, by first | exact hVH.out.setP | (rw [if_neg hpH.out]; exact hVH.out.setP)⟩
theorem KBd.chg {S : List Nat} {w w' : World} {B : Nat} {f r : Int} {P : Option Addr} {n c : Nat} (h : KBd w B f r P n c) (hc : Chg S w w') (hn : B ∉ S) : KBd w' B f r P n c :=
  ⟨(hc.cell (p := ⟨B, _, none⟩) h.lt hn).trans h.c0, (hc.cell (p := ⟨B, _, none⟩) h.lt hn).trans h.c1, (hc.cell (p := ⟨B, _, none⟩) h.lt hn).trans h.c2, Nat.lt_of_lt_of_le h.lt hc.size⟩
set_option maxRecDepth 100000 in
set_option maxHeartbeats 1000000 in
/-- what it does then -/
theorem pvis2b (BB BP BO BM : Nat) (f r : Int) (P : Option Addr) (n c z : Nat) (pc m : Int) (o : Nat) (bk off : Nat) (W : World) (hX : KBd W BB f r P n c) (hPA : P = some ⟨bk, off, none⟩) (hc : W.cell? ⟨bk, off + z, none⟩ = some (.int .i8 pc)) (hz : z < n) (hn : n ≤ 64) (hm : -100 ≤ m ∧ m ≤ 100) (ho : o < 18446744073709551616) (hV : VS W BP BO BM 0 o m) (hBB : BB ∉ [BP, BO, BM]) (hbk : bk ∉ [BP, BO, BM]) (hbl : bk < W.heap.size) :
    Calls Tryd.prog 70 #[.int .i64 (z : Int), .pointer (some ⟨BP, 0, none⟩), .pointer (some ⟨BB, 0, none⟩), .pointer (some ⟨BO, 0, none⟩), .pointer (some ⟨BM, 0, none⟩)] W fun e w' => e = .returned (.bool (pc == 0 && m - 1 != 0)) ∧ Chg [BP, BO, BM] W w' ∧ VS w' BP BO BM 0 (o ||| 2 ^ z) (m - 1) := by
  subst hPA
  have hVH := Lib.hid hV
  have hXH := Lib.hid hX
  obtain ⟨x0, x1, x2, _⟩ := hX
  obtain ⟨p0, o0, m0, fp, fo, fm, po, pm, om⟩ := hV
  have hzI : (z : Int) < (n : Int) := by omega
  have hor := or_shift2 ho (show z < 64 by omega)
  obtain ⟨m1, hm1⟩ : ∃ m1, m - 1 = m1 := ⟨_, rfl⟩
  have hm1b : -1000 ≤ m1 ∧ m1 ≤ 1000 := by omega
  rw [hm1]
  go_enter Tryd.func70, Tryd.ntmps70
  go_upto_region 5 with fail
  go_region
  have hC1 := Lib.hid (((Chg.refl [BP, BO, BM] W).setCell (B := BO) (by simp) 0 (.int .u64 ((o ||| 2 ^ z : Nat) : Int))).drew)
  have hV1 := Lib.hid ((hVH.out.setO (o' := o ||| 2 ^ z)).drew)
  have hX1 := Lib.hid (hXH.out.chg hC1.out hBB)
  have hc1 := (hC1.out.cell (p := ⟨bk, off + z, none⟩) hbl hbk).trans hc
  generalize (W.setCell ⟨BO, 0, none⟩ (.int .u64 ((o ||| 2 ^ z : Nat) : Int))).drew = w1 at *
  clear x0 x1 x2 p0 o0 m0 fp fo fm hc hXH hVH hor
  obtain ⟨x0, x1, x2, _⟩ := hX1.out
  obtain ⟨p0, o0, m0, fp, fo, fm, _, _, _⟩ := hV1.out
  go_upto_region 7 with fail
  have hV2 := Lib.hid (hV1.out.setM (m' := m1))
  have hC2 := Lib.hid (hC1.out.setCell (B := BM) (by simp) 0 (.int .i64 m1))
  have hX2 := Lib.hid (hX1.out.chg ((Chg.refl [BP, BO, BM] w1).setCell (B := BM) (by simp) 0 (.int .i64 m1)) hBB)
  have hc2 := (((Chg.refl [BP, BO, BM] w1).setCell (B := BM) (by simp) 0 (.int .i64 m1)).cell (p := ⟨bk, off + z, none⟩) (by have := hC1.out.size; show bk < _; omega) hbk).trans hc1
  generalize w1.setCell ⟨BM, 0, none⟩ (.int .i64 m1) = w2 at *
  clear x0 x1 x2 p0 o0 m0 fp fo fm hc1 hX1 hV1 hC1
  obtain ⟨x0, x1, x2, _⟩ := hX2.out
  obtain ⟨p0, o0, m0, fp, fo, fm, _, _, _⟩ := hV2.out
  by_cases hp : pc = 0
  rotate_left
  · have q1 : (pc == 0) = false := by rw [beq_eq_false_iff_ne]; exact hp
    clear hp
    go_wp2_with fail
    go_ret
    exact ⟨by first | rfl | rw [q1]; rfl, hC2.out, hV2.out⟩
  have q1 : (pc == 0) = true := by rw [beq_iff_eq]; exact hp
  clear hp
  obtain ⟨bb, hbb⟩ : ∃ bb, (m1 != 0) = bb := ⟨_, rfl⟩
  go_wp2_with fail
  go_ret
  exact ⟨by rw [q1, Bool.true_and, hbb]; rfl, hC2.out, hV2.out⟩
end Go.Proofs.YtbcdimklblpdnaaDoor
