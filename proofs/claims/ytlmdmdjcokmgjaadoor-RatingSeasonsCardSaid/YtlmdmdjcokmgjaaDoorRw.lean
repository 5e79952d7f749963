/- Layer 45: the new ratings after a season, the program's. -/
import Derived.Test.YtlmdmdjcokmgjaaDoorRv
import Derived.Deep.RegionHeld3
import Derived.Test.YtlmdmdjcokmgjaaDoorOl
import Derived.Deep.DrawnRows
import Derived.Deep.DeepCutAuto
import Derived.Deep.CutRange
import Derived.Deep.LoopGhost
namespace Go.Proofs.YtlmdmdjcokmgjaaDoor
open Go.RowKit
set_option linter.unusedSimpArgs false
set_option linter.unusedVariables false

/-- what Season returns -/
def SeasP (R F : List Int) (E : List En) (w : World) (e : Ending) (w' : World) : Prop :=
  (allB R F E = false ∧ e = .returned (.tuple #[.slice none 0 0, .int .i64 2]) ∧ Below w.heap.size w w') ∨
  (allB R F E = true ∧ fulB R E R.length = true ∧ e = .returned (.tuple #[.slice none 0 0, .int .i64 7]) ∧ Below w.heap.size w w') ∨
  (allB R F E = true ∧ fulB R E R.length = false ∧ ∃ (A : Option Addr) (c : Nat), e = .returned (.tuple #[.slice A (outL R F E R.length).length c, .int .i64 0]) ∧ O1 iEnc 1 w.heap.size 3 w w' A c (outL R F E R.length))
section
variable {R F : List Int} {E : List En} {w w' : World} {e : Ending}
theorem SeasP.bad (h : allB R F E = false) (he : e = .returned (.tuple #[.slice none 0 0, .int .i64 2])) (hb : Below w.heap.size w w') : SeasP R F E w e w' := .inl ⟨h, he, hb⟩
theorem SeasP.full (h : allB R F E = true) (h2 : fulB R E R.length = true) (he : e = .returned (.tuple #[.slice none 0 0, .int .i64 7])) (hb : Below w.heap.size w w') : SeasP R F E w e w' := .inr (.inl ⟨h, h2, he, hb⟩)
theorem SeasP.ok (h : allB R F E = true) (h2 : fulB R E R.length = false) {A : Option Addr} {c : Nat} {l : List Int} (hl : outL R F E R.length = l) (he : e = .returned (.tuple #[.slice A l.length c, .int .i64 0])) (hb : O1 iEnc 1 w.heap.size 3 w w' A c l) : SeasP R F E w e w' := .inr (.inr ⟨h, h2, A, c, by rw [hl]; exact he, by rw [hl]; exact hb⟩)
end
theorem recs1 {w : World} {B : Nat} {A : Option Addr} {l : List Int} (h : RecAt iEnc 1 w B A l) (h0 : 0 < l.length) : ∃ b off, A = some ⟨b, off, none⟩ ∧ b < B ∧ ∀ k, k < l.length → w.cell? ⟨b, off + k, none⟩ = some (.int .i64 (atI l k)) := by
  obtain ⟨b, off, e, hb, hc⟩ := h h0
  refine ⟨b, off, e, hb, fun k hk => ?_⟩
  have := hc k _ (atI_get hk) 0 _ rfl
  simpa using this
theorem recs3 {w : World} {B : Nat} {A : Option Addr} {l : List En} (h : RecAt eEnc 3 w B A l) {k : Nat} {x : En} (hx : l[k]? = some x) : ∃ b off, A = some ⟨b, off, none⟩ ∧ b < B ∧ w.cell? ⟨b, off + k * 3, none⟩ = some (.int .i64 x.1) ∧ w.cell? ⟨b, off + k * 3 + 1, none⟩ = some (.int .i64 x.2.1) ∧ w.cell? ⟨b, off + k * 3 + 2, none⟩ = some (.int .i64 x.2.2) := by
  obtain ⟨b, off, e, hb, hc⟩ := h (by have := (List.getElem?_eq_some_iff.1 hx).1; omega)
  exact ⟨b, off, e, hb, hc k x hx 0 _ rfl, hc k x hx 1 _ rfl, hc k x hx 2 _ rfl⟩
/-- three blocks are as they were -/
def Keep3 (B1 B2 B3 : Nat) (w W : World) : Prop := ∀ b, b = B1 ∨ b = B2 ∨ b = B3 → W.heap[b]? = w.heap[b]?
theorem Keep3.refl (B1 B2 B3 : Nat) (w : World) : Keep3 B1 B2 B3 w w := fun _ _ => rfl
theorem Keep3.alloc {B1 B2 B3 : Nat} {w W : World} (h : Keep3 B1 B2 B3 w W) (h1 : B1 < W.heap.size) (h2 : B2 < W.heap.size) (h3 : B3 < W.heap.size) (o : Obj) : Keep3 B1 B2 B3 w (W.alloc o) := fun b hb => by
  have hl : b < W.heap.size := by rcases hb with rfl | rfl | rfl <;> assumption
  exact (((Below.refl W.heap.size W).alloc (Nat.le_refl _) o).block b hl).trans (h b hb)
theorem Keep3.drew {B1 B2 B3 : Nat} {w W : World} (h : Keep3 B1 B2 B3 w W) : Keep3 B1 B2 B3 w W.drew := h
theorem Keep3.grown {B1 B2 B3 : Nat} {w W W' : World} (h : Keep3 B1 B2 B3 w W) (h1 : B1 < W.heap.size) (h2 : B2 < W.heap.size) (h3 : B3 < W.heap.size) {v : Value} (hg : W.grownBy W' v.ownBlock) (n1 : v.ownBlock ≠ some B1) (n2 : v.ownBlock ≠ some B2) (n3 : v.ownBlock ≠ some B3) : Keep3 B1 B2 B3 w W' := fun b hb => by
  have hl : b < W.heap.size := by rcases hb with rfl | rfl | rfl <;> assumption
  exact (hg.block b hl (fun e => by rcases hb with rfl | rfl | rfl <;> first | exact n1 e.symm | exact n2 e.symm | exact n3 e.symm)).trans (h b hb)
theorem Keep3.fr {B1 B2 B3 : Nat} {w W : World} (h : Keep3 B1 B2 B3 w W) (i : Nat) : W.frozen? ⟨B3, i, none⟩ = w.frozen? ⟨B3, i, none⟩ := by simp only [World.frozen?]; rw [h B3 (.inr (.inr rfl))]
theorem s_four {B1 B2 o2 : Nat} {w W : World} {x y z u : Value} (h : Keep3 B1 B2 B2 w W) (a0 : w.cell? ⟨B1, 0, none⟩ = some x) (a1 : w.cell? ⟨B1, 1, none⟩ = some y) (a2 : w.cell? ⟨B1, 2, none⟩ = some z) (a3 : w.cell? ⟨B2, o2, none⟩ = some u) :
    W.cell? ⟨B1, 0, none⟩ = some x ∧ W.cell? ⟨B1, 1, none⟩ = some y ∧ W.cell? ⟨B1, 2, none⟩ = some z ∧ W.cell? ⟨B2, o2, none⟩ = some u :=
  ⟨(World.cell?_of_block (h B1 (.inl rfl))).trans a0, (World.cell?_of_block (h B1 (.inl rfl))).trans a1, (World.cell?_of_block (h B1 (.inl rfl))).trans a2, (World.cell?_of_block (h B2 (.inr (.inl rfl)))).trans a3⟩
theorem Keep3.less {B1 B2 B3 : Nat} {w W : World} (h : Keep3 B1 B2 B3 w W) : Keep3 B1 B2 B2 w W := fun b hb => h b (by rcases hb with h | h | h <;> simp [h])
theorem s_five {B1 B2 B3 o2 o3 : Nat} {w W : World} {x y z u v : Value} (h : Keep3 B1 B2 B3 w W) (a0 : w.cell? ⟨B1, 0, none⟩ = some x) (a1 : w.cell? ⟨B1, 1, none⟩ = some y) (a2 : w.cell? ⟨B1, 2, none⟩ = some z) (a3 : w.cell? ⟨B2, o2, none⟩ = some u) (a4 : w.cell? ⟨B3, o3, none⟩ = some v) :
    W.cell? ⟨B1, 0, none⟩ = some x ∧ W.cell? ⟨B1, 1, none⟩ = some y ∧ W.cell? ⟨B1, 2, none⟩ = some z ∧ W.cell? ⟨B2, o2, none⟩ = some u ∧ W.cell? ⟨B3, o3, none⟩ = some v :=
  ⟨(World.cell?_of_block (h B1 (.inl rfl))).trans a0, (World.cell?_of_block (h B1 (.inl rfl))).trans a1, (World.cell?_of_block (h B1 (.inl rfl))).trans a2, (World.cell?_of_block (h B2 (.inr (.inl rfl)))).trans a3, (World.cell?_of_block (h B3 (.inr (.inr rfl)))).trans a4⟩
theorem s_two {B1 B2 o1 o2 : Nat} {w W : World} {x y : Value} (h : Keep3 B1 B2 B2 w W) (a0 : w.cell? ⟨B1, o1, none⟩ = some x) (a1 : w.cell? ⟨B2, o2, none⟩ = some y) :
    W.cell? ⟨B1, o1, none⟩ = some x ∧ W.cell? ⟨B2, o2, none⟩ = some y :=
  ⟨(World.cell?_of_block (h B1 (.inl rfl))).trans a0, (World.cell?_of_block (h B2 (.inr (.inl rfl)))).trans a1⟩
theorem Keep3.below {B1 B2 B3 : Nat} {w W W' : World} (h : Keep3 B1 B2 B3 w W) (h1 : B1 < W.heap.size) (h2 : B2 < W.heap.size) (h3 : B3 < W.heap.size) (hb : Below W.heap.size W W') : Keep3 B1 B2 B3 w W' := fun b hb2 => by
  have hl : b < W.heap.size := by rcases hb2 with rfl | rfl | rfl <;> assumption
  exact (hb.block b hl).trans (h b hb2)
theorem recs_gi {B : Nat} {w : World} {A : Option Addr} {l : List Int} (h : RecAt iEnc 1 w B A l) : RecAt iEnc 1 w.drew B A l := h
theorem recs_i (w : World) (x : Int) (t : TypeId) {b : Nat} (hb : b = w.heap.size) : RecAt iEnc 1 (w.alloc (.cells #[.int .i64 x] t)) (w.alloc (.cells #[.int .i64 x] t)).heap.size (some ⟨b, 0, none⟩) [x] := by subst hb; exact recs_one (g := fun x => .int .i64 x) (fun _ => rfl) w x t
theorem recs_g (w : World) (x y : Int) (t : TypeId) {b : Nat} (hb : b = w.heap.size) : RecAt gEnc 2 (w.alloc (.cells #[.int .i64 x, .int .i64 y] t)) (w.alloc (.cells #[.int .i64 x, .int .i64 y] t)).heap.size (some ⟨b, 0, none⟩) [(x, y)] := by subst hb; exact games1r w x y t
theorem recs_gd {B : Nat} {w : World} {A : Option Addr} {l : List (Int × Int)} (h : RecAt gEnc 2 w B A l) : RecAt gEnc 2 w.drew B A l := h
theorem Keep3.two {B1 B2 B3 : Nat} {w W : World} (h : Keep3 B1 B2 B3 w W) (n1 : B3 ≠ B1) (n2 : B3 ≠ B2) (i : Nat) (v : Value) : Keep3 B1 B2 B2 w (W.setCell ⟨B3, i, none⟩ v) := fun b hb => by
  have hb2 : b = B1 ∨ b = B2 := by rcases hb with h | h | h <;> simp [h]
  rw [Below.heap_setCell _ _ _ _ (by rcases hb2 with rfl | rfl <;> (intro e; first | exact n1 e | exact n1 e.symm | exact n2 e | exact n2 e.symm))]
  exact h b (by rcases hb2 with h | h <;> simp [h])
set_option maxRecDepth 100000 in
set_option maxHeartbeats 4000000 in
theorem pseason (R F : List Int) (E : List En) (AR AF AE : Option Addr) (cR cF cE : Nat) (w : World) (hl : LimsAt w) (hR : RecAt iEnc 1 w w.heap.size AR R) (hF : RecAt iEnc 1 w w.heap.size AF F) (hE : RecAt eEnc 3 w w.heap.size AE E)
    (hRl : R.length ≤ 10) (hFl : F.length ≤ 10) (hEl : E.length ≤ 300) : Calls Tryd.prog 18 #[.slice AR R.length cR, .slice AF F.length cF, .slice AE E.length cE] w (SeasP R F E w) := by
  have t1 : ((200 : Int) < (R.length : Int)) = False := by rw [eq_iff_iff, iff_false]; omega
  have t3 : ((2000 : Int) < (E.length : Int)) = False := by rw [eq_iff_iff, iff_false]; omega
  by_cases hlen : R.length = F.length
  · have t2 : ((F.length : Int) != (R.length : Int)) = false := by rw [bne_eq_false_iff_eq]; omega
    obtain ⟨n, hn⟩ : ∃ n, R.length = n := ⟨_, rfl⟩
    have hnF : F.length = n := by omega
    have hlH := Lib.hid hl
    have hRH := Lib.hid hR
    have hFH := Lib.hid hF
    have hEH := Lib.hid hE
    have hlenH := Lib.hid hlen
    have hnH := Lib.hid hn
    have hnFH := Lib.hid hnF
    rw [hn] at t1 t2 hRl ⊢
    rw [hnF] at t2 ⊢
    have hmk := run_make_fam w n (by omega)
    clear hl hR hF hE hlen hn hnF hFl
    go_enter Tryd.func18, Tryd.ntmps18
    go_wp2_with fail
    go_loop [33] (fun i => ∃ k : Nat, k ≤ n ∧ i = .int .i64 k ∧ Hid (rfB R F k = true)) (fun i => n - (intOf i).toNat)
    case atStart => exact ⟨0, Nat.zero_le _, rfl, rfl⟩
    case round =>
      obtain ⟨k, hk, rfl, hrf⟩ := hrel
      by_cases hkn : k < n
      · obtain ⟨bR, oR, rfl, hbR, hcR⟩ := recs1 hRH.out (by have := hnH.out; omega)
        obtain ⟨bF, oF, rfl, hbF, hcF⟩ := recs1 hFH.out (by have := hnFH.out; omega)
        have m0 := hcR k (by have := hnH.out; omega)
        have m1 := hcF k (by have := hnFH.out; omega)
        have hki : (k : Int) < (n : Int) := by omega
        clear hcR hcF
        have hsu := Lib.hid (rfB_succ R F k)
        cases hok : okRF (atI R k) (atI F k) with
        | true =>
          obtain ⟨r0, r1, f0, f1⟩ := okRF_out hok
          have i1 := inB_yes r0 r1
          have i2 := inB_yes f0 f1
          have hnx : Hid (rfB R F (k + 1) = true) := by show _ = _; rw [hsu.out, hrf.out, hok]; rfl
          clear hok r0 r1 f0 f1
          generalize atI R k = r at *
          generalize atI F k = f at *
          go_wp2_with (go_at_call 19; refine (within _ _ _ _).mono ?_; rintro e w' ⟨rfl, rfl⟩)
          go_round
          case rel => exact ⟨k + 1, by omega, by go_num, hnx⟩
          case measure => simp [intOf]; omega
        | false =>
          have hbad : Hid (allB R F E = false) := allB_2 (rfB_no (i := k) (by have := hnH.out; omega) hok)
          have hor : inB (atI R k) 0 4000 = false ∨ inB (atI R k) 0 4000 = true ∧ inB (atI F k) 1 60 = false := by
            cases h1 : inB (atI R k) 0 4000 with
            | false => exact .inl rfl
            | true =>
              refine .inr ⟨rfl, ?_⟩
              cases h2 : inB (atI F k) 1 60 with
              | false => rfl
              | true =>
                have a1 := of_decide_eq_true h1
                have a2 := of_decide_eq_true h2
                have : okRF (atI R k) (atI F k) = true := decide_eq_true ⟨a1.1, a1.2, a2.1, a2.2⟩
                rw [hok] at this; cases this
          clear hok
          generalize atI R k = r at *
          generalize atI F k = f at *
          rcases hor with i1 | ⟨i1, i2⟩
          · go_wp2_with (go_at_call 19; refine (within _ _ _ _).mono ?_; rintro e w' ⟨rfl, rfl⟩)
            go_ret2
            exact SeasP.bad hbad.out rfl (Below.refl _ _)
          · go_wp2_with (go_at_call 19; refine (within _ _ _ _).mono ?_; rintro e w' ⟨rfl, rfl⟩)
            go_ret2
            exact SeasP.bad hbad.out rfl (Below.refl _ _)
      · obtain rfl : k = n := by omega
        clear hk hkn
        have hFm := Lib.hid (fam_made w w w.heap.size k 29 (Below.refl _ _) (Nat.le_refl _))
        go_upto_region 10 with fail
        clear hmk
        generalize w.alloc (.cells (madeCells #[.slice none 0 0] k) 29) = w1 at *
        go_wp2_with fail
        go_loopw [55] (fun i wr => ∃ (j : Nat) (A : Nat → Option Addr) (c : Nat → Nat), j ≤ E.length ∧ i = .int .i64 j ∧ Hid ((E.take j).all (okX k) = true) ∧ Hid (Fam w wr w.heap.size w.heap.size (w.heap.size + 1) k (fun i => gms R (E.take j) i) A c)) (fun i _ => E.length - (intOf i).toNat)
        case atStart => exact ⟨0, fun _ => none, fun _ => 0, by omega, rfl, rfl, hFm⟩
        case round =>
          clear hFm
          obtain ⟨j, A, c, hj, rfl, hal, hFm⟩ := hrel
          by_cases hjn : j < E.length
          · obtain ⟨x, hx⟩ : ∃ x, E[j]? = some x := ⟨_, List.getElem?_eq_getElem hjn⟩
            have hgs := Lib.hid (gms_succ (R := R) hx)
            have hals : Hid (okX k x = true → (E.take (j + 1)).all (okX k) = true) := fun h => by rw [List.take_add_one, hx, List.all_append, hal.out]; simp [h]
            have hbx : Hid (okX k x = false → allB R F E = false) := fun h => allB_3 (List.mem_of_getElem? hx) (by rw [hnH.out]; exact h)
            obtain ⟨xa, xb, p⟩ := x
            obtain ⟨bE, oE, rfl, hbE, e0, e1, e2⟩ := recs3 hEH.out hx
            have hB := hFm.out.below
            have m0 := (hB.cell (p := ⟨bE, oE + j * 3, none⟩) hbE).trans e0
            have m1 := (hB.cell (p := ⟨bE, oE + j * 3 + 1, none⟩) hbE).trans e1
            have m2 := (hB.cell (p := ⟨bE, oE + j * 3 + 2, none⟩) hbE).trans e2
            have hki : (j : Int) < (E.length : Int) := by omega
            have hT := Lib.hid (tri_new wr wr.heap.size (.int .i64 xa) (.int .i64 xb) (.int .i64 p) 43 rfl)
            have hFm2 := Lib.hid (hFm.out.alloc (.cells #[.int .i64 xa, .int .i64 xb, .int .i64 p] 43))
            have hBT := hFm.out.lt.2.2
            have hBTb : Hid (Below w.heap.size w wr) := hB
            have hap : Hid (∀ i, i < k → (Value.slice (A i) ((fun i => gms R (E.take j) i) i).length (c i)).ownBlock ≠ some wr.heap.size) := fun i hi e => by have := (World.ownsRow.lt (hFm.out.own i hi) _ e).2; omega
            have hap2 : Hid (∀ i, i < k → ∀ b, b ≤ w.heap.size → (Value.slice (A i) ((fun i => gms R (E.take j) i) i).length (c i)).ownBlock ≠ some b) := fun i hi b hb e => by have := (World.ownsRow.lt (hFm.out.own i hi) _ e).1; omega
            replace hx := Lib.hid hx
            clear hB e0 e1 e2
            go_upto_region 13 with fail
            clear m0 m1 m2 hFm
            generalize wr.heap.size = BT at *
            generalize wr.alloc (.cells #[.int .i64 xa, .int .i64 xb, .int .i64 p] 43) = w2 at *
            have c0 := hT.out.c0
            have c1 := hT.out.c1
            have c2 := hT.out.c2
            cases hok : okX k (xa, xb, p) with
            | false =>
              have hor : inB xa 0 ((k : Int) - 1) = false ∨ inB xa 0 ((k : Int) - 1) = true ∧ inB xb 0 ((k : Int) - 1) = false ∨ inB xa 0 ((k : Int) - 1) = true ∧ inB xb 0 ((k : Int) - 1) = true ∧ (xa == xb) = true ∨ inB xa 0 ((k : Int) - 1) = true ∧ inB xb 0 ((k : Int) - 1) = true ∧ (xa == xb) = false ∧ inB p 0 2 = false := by
                cases h1 : inB xa 0 ((k : Int) - 1) with
                | false => exact .inl rfl
                | true =>
                  cases h2 : inB xb 0 ((k : Int) - 1) with
                  | false => exact .inr (.inl ⟨rfl, rfl⟩)
                  | true =>
                    cases h3 : (xa == xb) with
                    | true => exact .inr (.inr (.inl ⟨rfl, rfl, rfl⟩))
                    | false =>
                      cases h4 : inB p 0 2 with
                      | false => exact .inr (.inr (.inr ⟨rfl, rfl, rfl, rfl⟩))
                      | true =>
                        have a1 := of_decide_eq_true h1
                        have a2 := of_decide_eq_true h2
                        have a4 := of_decide_eq_true h4
                        rw [beq_eq_false_iff_ne] at h3
                        have : okX k (xa, xb, p) = true := decide_eq_true ⟨a1.1, by show xa < _; omega, a2.1, by show xb < _; omega, h3, a4.1, a4.2⟩
                        rw [hok] at this; cases this
              have hbad := Lib.hid (hbx.out hok)
              clear hok hbx hals hgs
              rcases hor with i1 | ⟨i1, i2⟩ | ⟨i1, i2, i3⟩ | ⟨i1, i2, i3, i4⟩
              all_goals
                go_wp2_with (go_at_call 19; refine (within _ _ _ _).mono ?_; rintro e w' ⟨rfl, rfl⟩)
                go_ret2
                exact SeasP.bad hbad.out rfl hFm2.out.below
            | true =>
              replace hals := Lib.hid (hals.out hok)
              obtain ⟨a0, a1, b0, b1, hne, p0, p1⟩ := okX_out hok
              clear hok hbx
              obtain ⟨ia, rfl⟩ : ∃ ia : Nat, xa = (ia : Int) := Int.eq_ofNat_of_zero_le a0
              obtain ⟨ib, rfl⟩ : ∃ ib : Nat, xb = (ib : Int) := Int.eq_ofNat_of_zero_le b0
              have hne2 : ia ≠ ib := fun e => hne (by show (ia : Int) = (ib : Int); rw [e])
              have hia : ia < k := Int.ofNat_lt.1 a1
              have hib : ib < k := Int.ofNat_lt.1 b1
              have p0' : 0 ≤ p := p0
              have p1' : p ≤ 2 := p1
              have i1 : inB (ia : Int) 0 ((k : Int) - 1) = true := inB_yes (by omega) (by omega)
              have i2 : inB (ib : Int) 0 ((k : Int) - 1) = true := inB_yes (by omega) (by omega)
              have i3 : ((ia : Int) == (ib : Int)) = false := by rw [beq_eq_false_iff_ne]; omega
              have i4 : inB p 0 2 = true := inB_yes p0' p1'
              obtain ⟨bR, oR, rfl, hbR, hcR⟩ := recs1 hRH.out (by have := hnH.out; omega)
              have q1 := hcR ib (by have := hnH.out; omega)
              have q2 := hcR ia (by have := hnH.out; omega)
              clear a0 a1 b0 b1 hne p0 p1 hcR
              obtain ⟨rb, hrb⟩ : ∃ rb, atI R (ib : Int) = rb := ⟨_, rfl⟩
              obtain ⟨ra, hra⟩ : ∃ ra, atI R (ia : Int) = ra := ⟨_, rfl⟩
              rw [hrb] at q1
              rw [hra] at q2
              have hgl : ∀ i, (gms R (E.take j) i).length ≤ 600 := fun i => by
                have h1 := gms_len R i (E.take j)
                have h2 : (E.take j).length ≤ E.length := by rw [List.length_take]; omega
                omega
              have hgn : Hid (∀ i, i < k → upd (upd (fun i => gms R (E.take j) i) ia (gms R (E.take j) ia ++ [(rb, p)])) ib (gms R (E.take j) ib ++ [(ra, 2 - p)]) i = gms R (E.take (j + 1)) i) := fun i hi => by
                rw [hgs.out i]
                by_cases hib2 : i = ib
                · subst hib2
                  rw [upd_same, gm_b (fun e => hne2 (Int.ofNat_inj.1 e)) rfl, hra]
                · rw [upd_other _ _ hib2]
                  by_cases hia2 : i = ia
                  · subst hia2
                    rw [upd_same, gm_a rfl (fun e => hne2 (Int.ofNat_inj.1 e).symm), hrb]
                  · rw [upd_other _ _ hia2, gm_0 (fun e => hia2 (Int.ofNat_inj.1 e).symm) (fun e => hib2 (Int.ofNat_inj.1 e).symm), List.append_nil]
              replace hrb := Lib.hid hrb
              replace hra := Lib.hid hra
              replace hgl := Lib.hid hgl
              have hg0 : Hid (∀ i, (fun i => gms R (E.take j) i) i = gms R (E.take j) i) := fun _ => rfl
              generalize hg : (fun i => gms R (E.take j) i) = g at *
              clear hg
              have hg0g : ∀ i, gms R (E.take j) i = g i := fun i => (hg0.out i).symm
              simp only [hg0g] at hgl hgn
              clear hg0g hg0
              go_upto_region 15 with (go_at_call 19; refine (within _ _ _ _).mono ?_; rintro e w' ⟨rfl, rfl⟩)
              go_cut [] from 88 to 106 (fun wc => ∃ (A1 : Nat → Option Addr) (c1 : Nat → Nat), Hid (Fam w wc w.heap.size w.heap.size (w.heap.size + 1) k (upd g ia (g ia ++ [(rb, p)])) A1 c1) ∧ Hid (∀ q, q ≠ ia → A1 q = A q ∧ c1 q = c q) ∧ Hid (Keep3 BT bR bR w2 wc) ∧ w2.heap.size ≤ wc.heap.size)
              case first =>
                have s1 : BT < w2.heap.size := hT.out.lt
                have hGl := hFm2.out.lt
                have s3 : w.heap.size < w2.heap.size := by omega
                have s2 : bR < w2.heap.size := by omega
                have x1 := hFm2.out.cell ia hia
                have x2 := (hFm2.out.below.cell (p := ⟨bR, oR + ib, none⟩) hbR).trans q1
                have x3 := hFm2.out.fr ia
                have hoiH := Lib.hid (hFm2.out.own ia hia)
                have y1 := Lib.hid (hap.out ia hia)
                have y2 := Lib.hid (hap2.out ia hia bR (by omega))
                have y3 := Lib.hid (hap2.out ia hia w.heap.size (Nat.le_refl _))
                have hll := hgl.out ia
                have hFam := Lib.hid hFm2.out
                have hiI : (ia : Int) < (k : Int) := by omega
                obtain ⟨gq, hgq⟩ : ∃ q, g ia ++ [(rb, p)] = q := ⟨_, rfl⟩
                replace hgq := Lib.hid hgq
                skip
                clear hGl
                refine wp_region_last_l (S := fun W => W.cell? ⟨BT, 0, none⟩ = some (.int .i64 (ia : Int)) ∧ W.cell? ⟨BT, 1, none⟩ = some (.int .i64 (ib : Int)) ∧ W.cell? ⟨BT, 2, none⟩ = some (.int .i64 p) ∧ W.cell? ⟨bR, oR + ib, none⟩ = some (.int .i64 rb) ∧ W.cell? ⟨w.heap.size, ia, none⟩ = some (.slice (A ia) (g ia).length (c ia))) (by kernel_rfl) (by kernel_rfl) (s_five (Keep3.refl _ _ _ _) c0 c1 c2 x2 x1) (fun hHeld => ?_)
                dsimp only [List.dropLast, List.length]
                refine wpAnyH_take (i := 0) (v := ?_) rfl (by kernel_rfl) (by kernel_rfl) (by kernel_rfl) (fun _ _ _ h => h) (Or.inl ⟨by rfl, ?_⟩) hHeld ?_
                rotate_left
                · intro W9 hSw; (try dsimp only at hSw); go_simp; (try with_reducible rfl)
                simp only [Act.put, List.setIfInBounds_toArray, List.set_cons_zero, List.set_cons_succ]
                refine wpAnyH_take (i := 1) (v := ?_) rfl (by kernel_rfl) (by kernel_rfl) (by kernel_rfl) (fun _ _ _ h => h) (Or.inl ⟨by rfl, ?_⟩) hHeld ?_
                rotate_left
                · intro W9 hSw; (try dsimp only at hSw); go_simp; (try with_reducible rfl)
                simp only [Act.put, List.setIfInBounds_toArray, List.set_cons_zero, List.set_cons_succ]
                refine wpAnyH_take (i := 2) (v := ?_) rfl (by kernel_rfl) (by kernel_rfl) (by kernel_rfl) (fun _ _ _ h => h) (Or.inl ⟨by rfl, ?_⟩) hHeld ?_
                rotate_left
                · intro W9 hSw; (try dsimp only at hSw); go_simp; (try with_reducible rfl)
                simp only [Act.put, List.setIfInBounds_toArray, List.set_cons_zero, List.set_cons_succ]
                refine wpAnyH_take (i := 3) (v := ?_) rfl (by kernel_rfl) (by kernel_rfl) (by kernel_rfl) (fun _ _ _ h => h) (Or.inl ⟨by rfl, ?_⟩) hHeld ?_
                rotate_left
                · intro W9 hSw; (try dsimp only at hSw); go_simp; (try with_reducible rfl)
                simp only [Act.put, List.setIfInBounds_toArray, List.set_cons_zero, List.set_cons_succ]
                refine wpAnyH_take (i := 4) (v := ?_) rfl (by kernel_rfl) (by kernel_rfl) (by kernel_rfl) (fun _ _ _ h => h) (Or.inl ⟨by rfl, ?_⟩) hHeld ?_
                rotate_left
                · intro W9 hSw; (try dsimp only at hSw); go_simp; (try with_reducible rfl)
                simp only [Act.put, List.setIfInBounds_toArray, List.set_cons_zero, List.set_cons_succ]
                refine wpAnyH_take (i := 5) (v := ?_) rfl (by kernel_rfl) (by kernel_rfl) (by kernel_rfl) (fun _ _ _ h => h) (Or.inl ⟨by rfl, ?_⟩) hHeld ?_
                rotate_left
                · intro W9 hSw; (try dsimp only at hSw); go_simp; (try with_reducible rfl)
                simp only [Act.put, List.setIfInBounds_toArray, List.set_cons_zero, List.set_cons_succ]
                refine wpAnyH_take (i := 6) (v := ?_) rfl (by kernel_rfl) (by kernel_rfl) (by kernel_rfl) (fun _ _ _ h => h) (Or.inl ⟨by rfl, ?_⟩) hHeld ?_
                rotate_left
                · intro W9 hSw; (try dsimp only at hSw); go_simp; (try with_reducible rfl)
                simp only [Act.put, List.setIfInBounds_toArray, List.set_cons_zero, List.set_cons_succ]
                refine wpAnyH_take (i := 7) (v := ?_) rfl (by kernel_rfl) (by kernel_rfl) (by kernel_rfl) (fun _ _ _ h => h) (Or.inl ⟨by rfl, ?_⟩) hHeld ?_
                rotate_left
                · intro W9 hSw; (try dsimp only at hSw); go_simp; (try with_reducible rfl)
                simp only [Act.put, List.setIfInBounds_toArray, List.set_cons_zero, List.set_cons_succ]
                refine wpAnyH_take (i := 8) (v := ?_) rfl (by kernel_rfl) (by kernel_rfl) (by kernel_rfl) (fun _ _ _ h => h) (Or.inl ⟨by rfl, ?_⟩) hHeld ?_
                rotate_left
                · intro W9 hSw; (try dsimp only at hSw); go_simp; (try with_reducible rfl)
                simp only [Act.put, List.setIfInBounds_toArray, List.set_cons_zero, List.set_cons_succ]
                refine wpAnyH_take (i := 9) (v := ?_) rfl (by kernel_rfl) (by kernel_rfl) (by kernel_rfl) (fun _ _ _ h => h) (Or.inl ⟨by rfl, ?_⟩) hHeld ?_
                rotate_left
                · intro W9 hSw; (try dsimp only at hSw); go_simp; (try with_reducible rfl)
                simp only [Act.put, List.setIfInBounds_toArray, List.set_cons_zero, List.set_cons_succ]
                refine wpAnyH_take (i := 10) (v := ?_) rfl (by kernel_rfl) (by kernel_rfl) (by kernel_rfl) (fun _ _ _ h => h) (Or.inl ⟨by rfl, ?_⟩) hHeld ?_
                rotate_left
                · intro W9 hSw; (try dsimp only at hSw); go_simp; (try with_reducible rfl)
                simp only [Act.put, List.setIfInBounds_toArray, List.set_cons_zero, List.set_cons_succ]
                refine wpAnyH_take (i := 11) (v := ?_) rfl (by kernel_rfl) (by kernel_rfl) (by kernel_rfl) (fun _ _ _ h => h) (Or.inl ⟨by rfl, ?_⟩) hHeld ?_
                rotate_left
                · intro W9 hSw; (try dsimp only at hSw); go_simp; (try with_reducible rfl)
                simp only [Act.put, List.setIfInBounds_toArray, List.set_cons_zero, List.set_cons_succ]
                refine wpAnyH_take (i := 12) (v := ?_) rfl (by kernel_rfl) (by kernel_rfl) (by kernel_rfl) (fun _ _ _ h => h) (Or.inl ⟨by rfl, ?_⟩) hHeld ?_
                rotate_left
                · intro W9 hSw; (try dsimp only at hSw); go_simp; (try with_reducible rfl)
                simp only [Act.put, List.setIfInBounds_toArray, List.set_cons_zero, List.set_cons_succ]
                refine wpAnyH_take (i := 13) (v := ?_) rfl (by kernel_rfl) (by kernel_rfl) (by kernel_rfl) (fun _ _ _ h => h) (Or.inl ⟨by rfl, ?_⟩) hHeld ?_
                rotate_left
                · intro W9 hSw; (try dsimp only at hSw); go_simp; (try with_reducible rfl)
                simp only [Act.put, List.setIfInBounds_toArray, List.set_cons_zero, List.set_cons_succ]
                refine wpAnyH_take (i := 14) (v := ?_) rfl (by kernel_rfl) (by kernel_rfl) (by kernel_rfl) (fun _ _ _ h => h) (Or.inl ⟨by rfl, ?_⟩) hHeld ?_
                rotate_left
                · intro W9 hSw; (try dsimp only at hSw); go_simp; (try with_reducible rfl)
                simp only [Act.put, List.setIfInBounds_toArray, List.set_cons_zero, List.set_cons_succ]
                refine wpAnyH_take (i := 15) (v := ?_) rfl (by kernel_rfl) (by kernel_rfl) (by kernel_rfl) (fun _ _ _ h => h) (Or.inl ⟨by rfl, ?_⟩) hHeld ?_
                rotate_left
                · intro W9 hSw; (try dsimp only at hSw); go_simp; (try with_reducible rfl)
                simp only [Act.put, List.setIfInBounds_toArray, List.set_cons_zero, List.set_cons_succ]
                refine wpAnyH_ready (rs := [16]) (by kernel_rfl) (by simp) ?_
                refine AllReadyH.cons rfl (fun K hK => ?_) AllReadyH.nil
                go_simp
                refine hK.out _ _ (s_five ((Keep3.refl _ _ _ _).alloc s1 s2 s3 _) c0 c1 c2 x2 x1) (fun hHeld2 => ?_)
                clear hK K hHeld
                refine wpAnyH_ready (rs := [17]) (by kernel_rfl) (by simp) ?_
                refine AllReadyH.cons rfl (fun K hK => ?_) AllReadyH.nil
                refine step_append_recs ratedRow gEnc_len gEnc_one (by rfl) _ _ (by rfl) (w.heap.size + 1) (A ia) (c ia) (g ia) (by rfl) (by exact World.ownsRow.alloc hoiH.out _) _ 1 [(rb, p)] (by rfl) (by first | exact recs_g _ _ _ _ (by simp) | exact recs_gd (recs_g _ _ _ _ (by simp))) (by simp only [List.length_cons, List.length_nil]; omega) (by first | (simp; omega) | omega) ?_
                intro A5 c5 w5 hown5 hg5 hat5
                rw [hgq.out] at hown5 hat5 ⊢
                have hX5 := Lib.hid (Keep3.grown (by first | exact ((Keep3.refl BT bR w.heap.size w2).alloc s1 s2 s3 _) | exact Keep3.drew ((Keep3.refl BT bR w.heap.size w2).alloc s1 s2 s3 _)) (by simp; omega) (by simp; omega) (by simp; omega) hg5 y1.out y2.out y3.out)
                have x5 := (hX5.out.fr _).trans x3
                have x6 := (World.cell?_of_block (hX5.out w.heap.size (.inr (.inr rfl)))).trans x1
                have hF5 := Lib.hid (Fam.app (i := ia) (by first | exact hFam.out.alloc _ | exact (hFam.out.alloc _).drew) hia hown5 hg5 hat5)
                have hz5 : w2.heap.size ≤ w5.heap.size := Nat.le_trans (by simp) hg5.size
                clear hown5 hg5 hat5
                refine hK.out _ _ (s_five hX5.out c0 c1 c2 x2 x1) (fun hHeld3 => ?_)
                clear hK K hHeld2
                refine wpAnyH_ready (rs := [18]) (by kernel_rfl) (by simp) ?_
                refine AllReadyH.cons rfl (fun K hK => ?_) AllReadyH.nil
                go_simp
                refine hK.out _ _ hHeld3 (fun _ => ?_)
                clear hK K hHeld3
                refine wpAnyH_done (by kernel_rfl) ?_ _
                refine atLast_done ?_
                refine wpOp_step rfl (fun K' hK' => ?_)
                go_simp
                refine hK' _ _ ?_
                clear hK' K'
                all_goals (go_wp2_with fail; go_meet; exact ⟨_, _, (by rw [hgq.out]; exact hF5), fun q hq => ⟨upd_other _ _ hq, upd_other _ _ hq⟩, hX5.out.two (by omega) (by omega) _ _, by rw [nblk_set]; exact hz5⟩)
              case rest =>
                obtain ⟨A1, c1', hF1, hq1, hK1, hsz1⟩ := hcut
                clear c0 c1 c2 q1
                have hT3 := Lib.hid (hT.out.of_block (hK1.out BT (.inl rfl)) hsz1)
                have c0 := hT3.out.c0
                have c1 := hT3.out.c1
                have c2 := hT3.out.c2
                have hap3 : Hid ((Value.slice (A1 ib) (upd g ia (g ia ++ [(rb, p)]) ib).length (c1' ib)).ownBlock ≠ some BT) := by
                  have h1 := hq1.out ib (Ne.symm hne2)
                  show _ ≠ _
                  rw [h1.1, h1.2, upd_other _ _ (Ne.symm hne2)]
                  exact hap.out ib hib
                have hap4 : Hid (∀ b, b ≤ w.heap.size → (Value.slice (A1 ib) (upd g ia (g ia ++ [(rb, p)]) ib).length (c1' ib)).ownBlock ≠ some b) := fun b hb e => by have := (World.ownsRow.lt (hF1.out.own ib hib) _ e).1; omega
                have hgib : Hid (upd g ia (g ia ++ [(rb, p)]) ib = g ib) := upd_other _ _ (Ne.symm hne2)
                have hgn2 : Hid (∀ i, i < k → upd (upd g ia (g ia ++ [(rb, p)])) ib (upd g ia (g ia ++ [(rb, p)]) ib ++ [(ra, 2 - p)]) i = gms R (E.take (j + 1)) i) := fun i hi => by rw [hgib.out]; exact hgn.out i hi
                replace hgl := Lib.hid (show (upd g ia (g ia ++ [(rb, p)]) ib).length ≤ 600 by rw [hgib.out]; exact hgl.out ib)
                clear hgib hgn hap hap2 hK1 hq1 hT
                generalize upd g ia (g ia ++ [(rb, p)]) = g1 at *
                generalize wc = w3 at *
                go_upto_region 16 with (go_at_call 19; refine (within _ _ _ _).mono ?_; rintro e w' ⟨rfl, rfl⟩)
                have s1 : BT < w3.heap.size := hT3.out.lt
                have hGl := hF1.out.lt
                have s3 : w.heap.size < w3.heap.size := by omega
                have s2 : bR < w3.heap.size := by omega
                have x1 := hF1.out.cell ib hib
                have x2 := (hF1.out.below.cell (p := ⟨bR, oR + ia, none⟩) hbR).trans q2
                have x3 := hF1.out.fr ib
                have hoiH := Lib.hid (hF1.out.own ib hib)
                have y1 := Lib.hid (hap3.out)
                have y2 := Lib.hid (hap4.out bR (by omega))
                have y3 := Lib.hid (hap4.out w.heap.size (Nat.le_refl _))
                have hll := hgl.out
                have hFam := Lib.hid hF1.out
                have hiI : (ib : Int) < (k : Int) := by omega
                obtain ⟨gq, hgq⟩ : ∃ q, g1 ib ++ [(ra, 2 - p)] = q := ⟨_, rfl⟩
                replace hgq := Lib.hid hgq
                have hw2 : IntKind.i64.wrap (2 - p) = 2 - p := IntWalk.i64_in _ (by omega)
                clear hGl
                refine wp_region_last_l (S := fun W => W.cell? ⟨BT, 0, none⟩ = some (.int .i64 (ia : Int)) ∧ W.cell? ⟨BT, 1, none⟩ = some (.int .i64 (ib : Int)) ∧ W.cell? ⟨BT, 2, none⟩ = some (.int .i64 p) ∧ W.cell? ⟨bR, oR + ia, none⟩ = some (.int .i64 ra) ∧ W.cell? ⟨w.heap.size, ib, none⟩ = some (.slice (A1 ib) (g1 ib).length (c1' ib))) (by kernel_rfl) (by kernel_rfl) (s_five (Keep3.refl _ _ _ _) c0 c1 c2 x2 x1) (fun hHeld => ?_)
                dsimp only [List.dropLast, List.length]
                refine wpAnyH_take (i := 0) (v := ?_) rfl (by kernel_rfl) (by kernel_rfl) (by kernel_rfl) (fun _ _ _ h => h) (Or.inl ⟨by rfl, ?_⟩) hHeld ?_
                rotate_left
                · intro W9 hSw; (try dsimp only at hSw); go_simp; (try with_reducible rfl)
                simp only [Act.put, List.setIfInBounds_toArray, List.set_cons_zero, List.set_cons_succ]
                refine wpAnyH_take (i := 1) (v := ?_) rfl (by kernel_rfl) (by kernel_rfl) (by kernel_rfl) (fun _ _ _ h => h) (Or.inl ⟨by rfl, ?_⟩) hHeld ?_
                rotate_left
                · intro W9 hSw; (try dsimp only at hSw); go_simp; (try with_reducible rfl)
                simp only [Act.put, List.setIfInBounds_toArray, List.set_cons_zero, List.set_cons_succ]
                refine wpAnyH_take (i := 2) (v := ?_) rfl (by kernel_rfl) (by kernel_rfl) (by kernel_rfl) (fun _ _ _ h => h) (Or.inl ⟨by rfl, ?_⟩) hHeld ?_
                rotate_left
                · intro W9 hSw; (try dsimp only at hSw); go_simp; (try with_reducible rfl)
                simp only [Act.put, List.setIfInBounds_toArray, List.set_cons_zero, List.set_cons_succ]
                refine wpAnyH_take (i := 3) (v := ?_) rfl (by kernel_rfl) (by kernel_rfl) (by kernel_rfl) (fun _ _ _ h => h) (Or.inl ⟨by rfl, ?_⟩) hHeld ?_
                rotate_left
                · intro W9 hSw; (try dsimp only at hSw); go_simp; (try with_reducible rfl)
                simp only [Act.put, List.setIfInBounds_toArray, List.set_cons_zero, List.set_cons_succ]
                refine wpAnyH_take (i := 4) (v := ?_) rfl (by kernel_rfl) (by kernel_rfl) (by kernel_rfl) (fun _ _ _ h => h) (Or.inl ⟨by rfl, ?_⟩) hHeld ?_
                rotate_left
                · intro W9 hSw; (try dsimp only at hSw); go_simp; (try with_reducible rfl)
                simp only [Act.put, List.setIfInBounds_toArray, List.set_cons_zero, List.set_cons_succ]
                refine wpAnyH_take (i := 5) (v := ?_) rfl (by kernel_rfl) (by kernel_rfl) (by kernel_rfl) (fun _ _ _ h => h) (Or.inl ⟨by rfl, ?_⟩) hHeld ?_
                rotate_left
                · intro W9 hSw; (try dsimp only at hSw); go_simp; (try with_reducible rfl)
                simp only [Act.put, List.setIfInBounds_toArray, List.set_cons_zero, List.set_cons_succ]
                refine wpAnyH_take (i := 6) (v := ?_) rfl (by kernel_rfl) (by kernel_rfl) (by kernel_rfl) (fun _ _ _ h => h) (Or.inl ⟨by rfl, ?_⟩) hHeld ?_
                rotate_left
                · intro W9 hSw; (try dsimp only at hSw); go_simp; (try with_reducible rfl)
                simp only [Act.put, List.setIfInBounds_toArray, List.set_cons_zero, List.set_cons_succ]
                refine wpAnyH_take (i := 7) (v := ?_) rfl (by kernel_rfl) (by kernel_rfl) (by kernel_rfl) (fun _ _ _ h => h) (Or.inl ⟨by rfl, ?_⟩) hHeld ?_
                rotate_left
                · intro W9 hSw; (try dsimp only at hSw); go_simp; (try with_reducible rfl)
                simp only [Act.put, List.setIfInBounds_toArray, List.set_cons_zero, List.set_cons_succ]
                refine wpAnyH_take (i := 8) (v := ?_) rfl (by kernel_rfl) (by kernel_rfl) (by kernel_rfl) (fun _ _ _ h => h) (Or.inl ⟨by rfl, ?_⟩) hHeld ?_
                rotate_left
                · intro W9 hSw; (try dsimp only at hSw); go_simp; (try with_reducible rfl)
                simp only [Act.put, List.setIfInBounds_toArray, List.set_cons_zero, List.set_cons_succ]
                refine wpAnyH_take (i := 9) (v := ?_) rfl (by kernel_rfl) (by kernel_rfl) (by kernel_rfl) (fun _ _ _ h => h) (Or.inl ⟨by rfl, ?_⟩) hHeld ?_
                rotate_left
                · intro W9 hSw; (try dsimp only at hSw); go_simp; (try with_reducible rfl)
                simp only [Act.put, List.setIfInBounds_toArray, List.set_cons_zero, List.set_cons_succ]
                refine wpAnyH_take (i := 10) (v := ?_) rfl (by kernel_rfl) (by kernel_rfl) (by kernel_rfl) (fun _ _ _ h => h) (Or.inl ⟨by rfl, ?_⟩) hHeld ?_
                rotate_left
                · intro W9 hSw; (try dsimp only at hSw); go_simp; (try with_reducible rfl)
                simp only [Act.put, List.setIfInBounds_toArray, List.set_cons_zero, List.set_cons_succ]
                refine wpAnyH_take (i := 11) (v := ?_) rfl (by kernel_rfl) (by kernel_rfl) (by kernel_rfl) (fun _ _ _ h => h) (Or.inl ⟨by rfl, ?_⟩) hHeld ?_
                rotate_left
                · intro W9 hSw; (try dsimp only at hSw); go_simp; (try with_reducible rfl)
                simp only [Act.put, List.setIfInBounds_toArray, List.set_cons_zero, List.set_cons_succ]
                refine wpAnyH_take (i := 12) (v := ?_) rfl (by kernel_rfl) (by kernel_rfl) (by kernel_rfl) (fun _ _ _ h => h) (Or.inl ⟨by rfl, ?_⟩) hHeld ?_
                rotate_left
                · intro W9 hSw; (try dsimp only at hSw); go_simp; (try with_reducible rfl)
                simp only [Act.put, List.setIfInBounds_toArray, List.set_cons_zero, List.set_cons_succ]
                refine wpAnyH_take (i := 13) (v := ?_) rfl (by kernel_rfl) (by kernel_rfl) (by kernel_rfl) (fun _ _ _ h => h) (Or.inl ⟨by rfl, ?_⟩) hHeld ?_
                rotate_left
                · intro W9 hSw; (try dsimp only at hSw); go_simp; (try with_reducible rfl)
                simp only [Act.put, List.setIfInBounds_toArray, List.set_cons_zero, List.set_cons_succ]
                refine wpAnyH_take (i := 14) (v := ?_) rfl (by kernel_rfl) (by kernel_rfl) (by kernel_rfl) (fun _ _ _ h => h) (Or.inl ⟨by rfl, ?_⟩) hHeld ?_
                rotate_left
                · intro W9 hSw; (try dsimp only at hSw); go_simp; (try with_reducible rfl)
                simp only [Act.put, List.setIfInBounds_toArray, List.set_cons_zero, List.set_cons_succ]
                refine wpAnyH_take (i := 15) (v := ?_) rfl (by kernel_rfl) (by kernel_rfl) (by kernel_rfl) (fun _ _ _ h => h) (Or.inl ⟨by rfl, ?_⟩) hHeld ?_
                rotate_left
                · intro W9 hSw; (try dsimp only at hSw); go_simp; (try with_reducible rfl)
                simp only [Act.put, List.setIfInBounds_toArray, List.set_cons_zero, List.set_cons_succ]
                refine wpAnyH_take (i := 16) (v := ?_) rfl (by kernel_rfl) (by kernel_rfl) (by kernel_rfl) (fun _ _ _ h => h) (Or.inl ⟨by rfl, ?_⟩) hHeld ?_
                rotate_left
                · intro W9 hSw; (try dsimp only at hSw); go_simp; (try with_reducible rfl)
                simp only [Act.put, List.setIfInBounds_toArray, List.set_cons_zero, List.set_cons_succ]
                refine wpAnyH_ready (rs := [17]) (by kernel_rfl) (by simp) ?_
                refine AllReadyH.cons rfl (fun K hK => ?_) AllReadyH.nil
                go_simp
                refine hK.out _ _ (s_five ((Keep3.refl _ _ _ _).alloc s1 s2 s3 _) c0 c1 c2 x2 x1) (fun hHeld2 => ?_)
                clear hK K hHeld
                refine wpAnyH_ready (rs := [18]) (by kernel_rfl) (by simp) ?_
                refine AllReadyH.cons rfl (fun K hK => ?_) AllReadyH.nil
                refine step_append_recs ratedRow gEnc_len gEnc_one (by rfl) _ _ (by rfl) (w.heap.size + 1) (A1 ib) (c1' ib) (g1 ib) (by rfl) (by exact World.ownsRow.alloc hoiH.out _) _ 1 [(ra, 2 - p)] (by rfl) (by first | exact recs_g _ _ _ _ (by simp) | exact recs_gd (recs_g _ _ _ _ (by simp))) (by simp only [List.length_cons, List.length_nil]; omega) (by first | (simp; omega) | omega) ?_
                intro A5 c5 w5 hown5 hg5 hat5
                rw [hgq.out] at hown5 hat5 ⊢
                have hX5 := Lib.hid (Keep3.grown (by first | exact ((Keep3.refl BT bR w.heap.size w3).alloc s1 s2 s3 _) | exact Keep3.drew ((Keep3.refl BT bR w.heap.size w3).alloc s1 s2 s3 _)) (by simp; omega) (by simp; omega) (by simp; omega) hg5 y1.out y2.out y3.out)
                have x5 := (hX5.out.fr _).trans x3
                have x6 := (World.cell?_of_block (hX5.out w.heap.size (.inr (.inr rfl)))).trans x1
                have hF5 := Lib.hid (Fam.app (i := ib) (by first | exact hFam.out.alloc _ | exact (hFam.out.alloc _).drew) hib hown5 hg5 hat5)
                have hz5 : w3.heap.size ≤ w5.heap.size := Nat.le_trans (by simp) hg5.size
                clear hown5 hg5 hat5
                refine hK.out _ _ (s_five hX5.out c0 c1 c2 x2 x1) (fun hHeld3 => ?_)
                clear hK K hHeld2
                refine wpAnyH_ready (rs := [19]) (by kernel_rfl) (by simp) ?_
                refine AllReadyH.cons rfl (fun K hK => ?_) AllReadyH.nil
                go_simp
                refine hK.out _ _ hHeld3 (fun _ => ?_)
                clear hK K hHeld3
                refine wpAnyH_done (by kernel_rfl) ?_ _
                refine atLast_done ?_
                refine wpOp_step rfl (fun K' hK' => ?_)
                go_simp
                refine hK' _ _ ?_
                clear hK' K'
                all_goals
                  have hF3 := Lib.hid (hF5.out.congr (by rw [← hgq.out]; exact hgn2.out))
                  clear hF5 hX5 hgn2 hgl c0 c1 c2 hT3 hF1
                  go_wp2_with fail
                  go_roundw
                  case rel => exact ⟨j + 1, _, _, by omega, by go_num, hals, hF3⟩
                  case measure => simp [intOf]; omega
          · obtain rfl : j = E.length := by omega
            rw [List.take_length] at hal
            have hFm2 : Hid (Fam w wr w.heap.size w.heap.size (w.heap.size + 1) k (fun i => gms R E i) A c) := by
              have h := hFm.out
              rw [List.take_length] at h
              exact h
            have hall : Hid (allB R F E = true) := allB_in hlenH.out (by rw [hnH.out]; exact hrf.out) (by rw [hnH.out]; exact hal.out)
            clear hal hj hjn hFm
            generalize wr = w3 at *
            go_wp2_with fail
            go_loopw [13, 130] (fun s13 i wo => ∃ (q : Nat) (A9 : Option Addr) (c9 : Nat) (out : List Int), q ≤ k ∧ i = .int .i64 q ∧ s13 = .slice A9 out.length c9 ∧ out.length ≤ q ∧ Hid (outL R F E q = out) ∧ Hid (fulB R E q = false) ∧ Hid (O1 iEnc 1 w3.heap.size 3 w3 wo A9 c9 out)) (fun _ i _ => k - (intOf i).toNat)
            case atStart => exact ⟨0, none, 0, [], by omega, rfl, rfl, Nat.le_refl _, rfl, rfl, O1.nil (Below.refl _ _) (Nat.le_refl _)⟩
            case round =>
              obtain ⟨q, A9, c9, out, hq, rfl, rfl, hol, hou, hfu, hO⟩ := hrel
              have hFq := Lib.hid (hFm2.out.next hO.out.below)
              by_cases hqk : q < k
              · have x1 := hFq.out.cell q hqk
                obtain ⟨bR, oR, rfl, hbR, hcR⟩ := recs1 hRH.out (by have := hnH.out; omega)
                obtain ⟨bF, oF, rfl, hbF, hcF⟩ := recs1 hFH.out (by have := hnFH.out; omega)
                have m0 := (hFq.out.below.cell (p := ⟨bR, oR + q, none⟩) hbR).trans (hcR q (by have := hnH.out; omega))
                have m1 := (hFq.out.below.cell (p := ⟨bF, oF + q, none⟩) hbF).trans (hcF q (by have := hnFH.out; omega))
                obtain ⟨r0, r1, f0, f1⟩ := okRF_out (rfB_out hrf.out hqk)
                have hqI : (q : Int) < (k : Int) := by omega
                have hsu := Lib.hid (outL_succ R F E q)
                have hgq := Lib.hid (hFq.out.games hqk)
                have hlq := Lib.hid (hlH.out.below hlH.out.pos hFq.out.below)
                have hG3 := hFq.out.lt
                have hsz := hFq.out.below.size
                have hfy : Hid (200 < (gms R E q).length → fulB R E R.length = true) := fun h => fulB_yes (i := q) (by have := hnH.out; omega) h
                have hvy : Hid ((gms R E q).length ≤ 200 → vldG (gms R E q) = true) := fun h => gms_vld hall.out q h
                have hfn : Hid ((gms R E q).length ≤ 200 → fulB R E (q + 1) = false) := fun h => by
                  have h1 := hfu.out
                  unfold fulB at h1 ⊢
                  rw [List.range_succ, List.any_append, h1]
                  simp only [List.any_cons, List.any_nil, Bool.or_false, Bool.false_or, decide_eq_false_iff_not]
                  omega
                clear hcR hcF
                have hx1 : wr.cell? ⟨w.heap.size, q, none⟩ = some (.slice (A q) (gms R E q).length (c q)) := x1
                clear x1
                generalize atI R q = r at *
                generalize atI F q = f at *
                generalize gms R E q = gq at *
                generalize A q = Aq at *
                generalize c q = cq at *
                by_cases hbig : 200 < gq.length
                · have hbI : (200 : Int) < (gq.length : Int) := by omega
                  have hfull := Lib.hid (hfy.out hbig)
                  clear hfy hvy hfn
                  go_wp2_with fail
                  go_ret2
                  exact SeasP.full hall.out hfull.out rfl hFq.out.below
                · have hbI : ((200 : Int) < (gq.length : Int)) = False := by rw [eq_iff_iff, iff_false]; omega
                  have hv := Lib.hid (hvy.out (by omega))
                  have hfn2 := Lib.hid (hfn.out (by omega))
                  obtain ⟨out2, ho2⟩ : ∃ l, out ++ [nextV r f gq] = l := ⟨_, rfl⟩
                  have hnx : Hid (outL R F E (q + 1) = out2) := by show _ = _; rw [hsu.out, hou.out, ho2]
                  have ho2l : out2.length ≤ q + 1 := by rw [← ho2, List.length_append, List.length_cons, List.length_nil]; omega
                  replace ho2 := Lib.hid ho2
                  have hOd := Lib.hid hO.out.drew
                  have hn1 : Hid (∀ b, b ≤ w.heap.size → (Value.slice A9 out.length c9).ownBlock ≠ some b) := fun b hb e => by
                    have h1 := (World.ownsRow.lt hO.out.own b e).1
                    have h2 := hFm2.out.lt
                    omega
                  clear hfy hvy hfn hbig
                  have hbF1 : bF < wr.heap.size := by omega
                  have hG1 : w.heap.size < wr.heap.size := by omega
                  go_upto_region 24 with fail
                  go_region_held3 (fun W => W.cell? ⟨bF, oF + q, none⟩ = some (.int .i64 f) ∧ W.cell? ⟨w.heap.size, q, none⟩ = some (.slice Aq gq.length cq))
                    (first
                      | exact s_two (Keep3.refl _ _ _ _) m1 hx1
                      | exact s_two hK5.out m1 hx1
                      | exact s_two (hK5.out.alloc hF5 hG5 hG5 _) m1 hx1
                      | exact s_two hK6.out m1 hx1
                      | go_keep)
                    (first
                      | (go_at_call 24; refine (pnext _ _ _ gq _ (World.drew wr) hlq.out hgq.out r0 r1 f0 f1 hv.out).mono ?_; rintro e w5 ⟨rfl, hb5⟩; have hF5 : bF < w5.heap.size := Nat.lt_of_lt_of_le hbF1 hb5.size; have hG5 : w.heap.size < w5.heap.size := Nat.lt_of_lt_of_le hG1 hb5.size; have hK5 := Lib.hid (Keep3.below (Keep3.refl bF w.heap.size w.heap.size wr.drew) hbF1 hG1 hG1 hb5); have hO5 := Lib.hid (hOd.out.next hb5); clear hb5)
                      | (refine step_append_recs intRow iEnc_len iEnc_one (by rfl) _ _ (by rfl) w3.heap.size A9 c9 out (by rfl) (hO5.out.alloc _).own _ 1 [nextV r f gq] (by rfl) (by first | exact recs_i _ _ _ rfl | exact recs_gi (recs_i _ _ _ rfl)) (by simp only [List.length_cons, List.length_nil]; omega) (hO5.out.alloc _).size ?_; intro A6 c6 w6 hown6 hg6 hat6; rw [ho2.out] at hown6 ⊢; have hK6 := Lib.hid (Keep3.grown (hK5.out.alloc hF5 hG5 hG5 _) (by simp; omega) (by simp; omega) (by simp; omega) hg6 (hn1.out _ (by omega)) (hn1.out _ (by omega)) (hn1.out _ (by omega))); have hO6 := Lib.hid ((hO5.out.alloc _).app hown6 hg6); clear hown6 hg6 hat6))
                  all_goals
                    clear hK5 hK6 hO5 hOd hx1 m0 m1
                    go_wp2_with fail
                    go_roundw
                    case rel => exact ⟨q + 1, A6, c6, out2, by omega, by go_num, rfl, ho2l, hnx, hfn2, hO6⟩
                    case measure => simp [intOf]; omega
              · obtain rfl : q = k := by omega
                have hful : Hid (fulB R E R.length = false) := by show _ = _; rw [hnH.out]; exact hfu.out
                have hout : Hid (outL R F E R.length = out) := by show _ = _; rw [hnH.out]; exact hou.out
                have hOf : Hid (O1 iEnc 1 w.heap.size 3 w wr A9 c9 out) := hO.out.lower (by have := hFm2.out.lt; omega) hFm2.out.below
                clear hO hFq hfu hou
                go_wp2_with fail
                go_ret2
                exact SeasP.ok hall.out hful.out hout.out rfl hOf.out
  · have t2 : ((F.length : Int) != (R.length : Int)) = true := by rw [bne_iff_ne]; omega
    have hbad : Hid (allB R F E = false) := allB_1 hlen
    clear hl hR hF hE hlen
    go_enter Tryd.func18, Tryd.ntmps18
    go_wp2_with fail
    go_ret2
    exact SeasP.bad hbad.out rfl (Below.refl _ _)
end Go.Proofs.YtlmdmdjcokmgjaaDoor
