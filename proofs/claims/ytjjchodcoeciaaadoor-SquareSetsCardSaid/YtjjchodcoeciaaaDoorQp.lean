/- Layer 1: the reference's lists: All, Points. -/
import Derived.Test.YtjjchodcoeciaaaDoorQo
namespace Go.Proofs.YtjjchodcoeciaaaDoor
open Go.RowKit
set_option linter.unusedSimpArgs false
set_option linter.unusedVariables false

def iEnc (n : Int) : List Value := [.int .i64 n]
theorem iEnc_len (n : Int) : (iEnc n).length = 1 := rfl
theorem iEnc_one (n : Int) : ∀ u ∈ iEnc n, u.oneCell' = true := by
  intro u hu
  simp only [iEnc, List.mem_cons, List.not_mem_nil, or_false] at hu
  subst hu; rfl
theorem intRow : RowOf Tryd.prog 62 3 1 8 :=
  RowOf.mk' (z := .int .i64 0) Tryd.underlying62 (by kernel_rfl) (by decide) (by decide) rfl
theorem recs_int (w : World) (x : Int) (t : TypeId) : RecAt iEnc 1 (w.alloc (.cells #[.int .i64 x] t)) (w.alloc (.cells #[.int .i64 x] t)).heap.size (some ⟨w.heap.size, 0, none⟩) [x] := by
  intro _
  refine ⟨w.heap.size, 0, rfl, by simp, fun k y hk j u hu => ?_⟩
  have hk0 : k = 0 := by have := (List.getElem?_eq_some_iff.1 hk).1; simp at this; omega
  subst hk0
  obtain rfl : x = y := by simpa using hk
  match j, hu with
  | 0, hu => rw [show u = .int .i64 x from (Option.some.inj hu).symm]; simp
  | (j + 1), hu => simp [iEnc] at hu
def pEnc (g : Int × Int) : List Value := [.int .i64 g.1, .int .i64 g.2]
theorem pEnc_len (g : Int × Int) : (pEnc g).length = 2 := rfl
theorem pEnc_one (g : Int × Int) : ∀ u ∈ pEnc g, u.oneCell' = true := by
  intro u hu
  simp only [pEnc, List.mem_cons, List.not_mem_nil, or_false] at hu
  rcases hu with rfl | rfl <;> rfl
theorem pointRow : RowOf Tryd.prog 34 46 2 16 :=
  RowOf.mk' (z := .agg #[.int .i64 0, .int .i64 0]) Tryd.underlying34 (by kernel_rfl) (by decide) (by decide) rfl
theorem recs_point (w : World) (x y : Int) (t : TypeId) : RecAt pEnc 2 (w.alloc (.cells #[.int .i64 x, .int .i64 y] t)) (w.alloc (.cells #[.int .i64 x, .int .i64 y] t)).heap.size (some ⟨w.heap.size, 0, none⟩) [(x, y)] := by
  intro _
  refine ⟨w.heap.size, 0, rfl, by simp, fun k z hk j u hu => ?_⟩
  have hk0 : k = 0 := by have := (List.getElem?_eq_some_iff.1 hk).1; simp at this; omega
  subst hk0
  obtain rfl : (x, y) = z := by simpa using hk
  match j, hu with
  | 0, hu => rw [show u = .int .i64 x from (Option.some.inj hu).symm]; simp
  | 1, hu => rw [show u = .int .i64 y from (Option.some.inj hu).symm]; simp
  | (j + 2), hu => simp [pEnc] at hu
section
variable {α : Type} {f : α → List Value} {size : Nat}
/-- a row of one's own; below the base nothing has turned -/
structure O1 (f : α → List Value) (size : Nat) (base : Nat) (e : TypeId) (w0 w : World) (A : Option Addr) (c : Nat) (l : List α) : Prop where
  own : Own1 f size base e w A c l
  below : Below base w0 w
  size : base ≤ w.heap.size
variable {base : Nat} {e : TypeId} {w0 w w' : World} {A A' : Option Addr} {c c' : Nat} {l l' : List α}
theorem O1.alloc (h : O1 f size base e w0 w A c l) (o : Obj) : O1 f size base e w0 (w.alloc o) A c l :=
  ⟨World.ownsRow.alloc h.own o, h.below.alloc h.size o, Nat.le_trans h.size (by simp)⟩
theorem O1.app (h : O1 f size base e w0 w A c l) (hown : w'.ownsRow base e size (.slice A' l'.length c') l'.length (flatR f l')) (hg : w.grownBy w' (Value.slice A l.length c).ownBlock) : O1 f size base e w0 w' A' c' l' :=
  ⟨hown, h.below.grown hg h.size (fun k hk => (World.ownsRow.lt h.own k hk).1), Nat.le_trans h.size hg.size⟩
end
/-- the numbers below k -/
def iota (k : Nat) : List Int := (List.range k).map fun n : Nat => (n : Int)
theorem iota_len (k : Nat) : (iota k).length = k := by simp [iota]
theorem iota_succ (k : Nat) : iota k ++ [(k : Int)] = iota (k + 1) := by simp [iota, List.range_succ]
theorem iota_get (k j : Nat) (h : j < k) : (iota k)[j]? = some (j : Int) := by simp [iota, h]

set_option maxHeartbeats 1000000 in
theorem rall (f r : Int) (w : World) (hs : szB f r = true) : Calls Tryd.prog 18 #[.agg #[.int .i64 f, .int .i64 r]] w fun e w' => e = .returned (.int .u64 (allV f r : Nat)) ∧ Below w.heap.size w w' := by
  obtain ⟨f0, f1, r0, r1⟩ := szB_out hs
  obtain ⟨m0, m1⟩ := mul_bd f0 f1 r0 r1
  obtain ⟨n, hn⟩ : ∃ n : Nat, f * r = (n : Int) := ⟨(f * r).toNat, by omega⟩
  have hv : Hid (allV f r = 2 ^ n - 1) := by unfold allV Hid; rw [hn]; rfl
  have hK := Lib.hid (BK.first f r w 23)
  go_enter Tryd.func18, Tryd.ntmps18
  go_wp2
  generalize hw1 : w.alloc (.cells #[.int .i64 f, .int .i64 r] 23) = w1 at *
  have hlt := hK.out.lt
  go_loopw [3, 4] (fun s i wr => ∃ (k : Nat) (A : Option Addr) (c : Nat), k ≤ n ∧ i = .int .i64 k ∧ s = .slice A (iota k).length c ∧ Hid (O1 iEnc 1 (w.heap.size + 1) 3 w1 wr A c (iota k))) (fun _ i _ => n - (intOf i).toNat)
  case atStart => exact ⟨0, none, 0, by omega, rfl, rfl, ⟨owns_nil, Below.refl _ _, hlt⟩⟩
  case round =>
    obtain ⟨k, A, c, hk, rfl, rfl, hO⟩ := hrel
    have c0 := (hO.out.below.cell (p := ⟨w.heap.size, 0, none⟩) (Nat.lt_succ_self _)).trans hK.out.c0
    have c1 := (hO.out.below.cell (p := ⟨w.heap.size, 1, none⟩) (Nat.lt_succ_self _)).trans hK.out.c1
    have hl := Lib.hid (iota_len k)
    have hsu := Lib.hid (iota_succ k)
    by_cases hkn : k < n
    · go_wp2_with (at_builtin; refine wpList_append_recs intRow iEnc_len iEnc_one rfl _ _ rfl (w.heap.size + 1) A c (iota k) rfl (hO.out.alloc _).own _ 1 [(k : Int)] rfl (recs_int _ _ _) (by have := hl.out; simp; omega) (hO.out.alloc _).size ?_; intro A' c' w' hown hg _; rw [hsu.out] at hown ⊢; have hO' := Lib.hid ((hO.out.alloc _).app hown hg); clear hown hg)
      go_roundw
      case rel => exact ⟨k + 1, A', c', by omega, by go_num, rfl, hO'⟩
      case measure => simp [intOf]; omega
    · obtain rfl : k = n := by omega
      have hre := Lib.hid (RecAt.of_own iEnc_len rfl hO.out.own)
      obtain ⟨b, off, rfl, hb, hcc⟩ := hre.out (by rw [iota_len]; omega)
      have hcell : Hid (∀ j, j < k → wr.cell? ⟨b, off + j, none⟩ = some (.int .i64 (j : Int))) := fun j hj => by
        have := hcc j (j : Int) (iota_get k j hj) 0 (.int .i64 (j : Int)) rfl
        simpa using this
      clear hcc
      go_wp2_with (go_at_call 35; rw [hl.out]; refine (rof_all k b off c _ (by omega) hcell.out).mono ?_; rintro e w' ⟨rfl, rfl⟩)
      go_ret
      exact ⟨ri (by rw [hv.out]), hK.out.below.trans (hO.out.below.mono (by omega))⟩
end Go.Proofs.YtjjchodcoeciaaaDoor
