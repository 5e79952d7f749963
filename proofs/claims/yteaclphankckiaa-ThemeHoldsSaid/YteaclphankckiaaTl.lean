/- Layer 35: Find's inner function: what it holds; the second rank; squares of paths. -/
import Derived.Test.YteaclphankckiaaTk
import Derived.Test.YteaclphankckiaaTv
namespace Go.Proofs.Yteaclphankckiaa
open Go Go.RowKit
set_option linter.unusedSimpArgs false
set_option linter.unusedVariables false

/-- squares of a path lie on the board -/
theorem stk_mem : ∀ {r : List Nd} {m : Mv}, m ∈ stk r → ∃ y ∈ r, y.2 = m
  | [], m, h => by cases h
  | x :: r, m, h => by
    have h2 : m ∈ x.2 :: (stk r).drop ((stk r).length - (x.1 - 1).toNat) := h
    rcases List.mem_cons.1 h2 with rfl | h3
    · exact ⟨x, List.mem_cons_self, rfl⟩
    · obtain ⟨y, hy, e⟩ := stk_mem (List.mem_of_mem_drop h3)
      exact ⟨y, List.mem_cons_of_mem _ hy, e⟩
theorem foll_mem {a : Int} : ∀ {l : List Mv} {own : Bool} {sq : Int}, a ∈ foll own sq l → ∃ m ∈ l, m.1 = a
  | [], own, sq, h => by simp [foll] at h
  | m :: l, own, sq, h => by
    by_cases hs : m.2.1 = sq
    · cases own with
      | true =>
        rw [foll_own hs] at h
        rcases List.mem_cons.1 h with rfl | h
        · exact ⟨m, List.mem_cons_self, rfl⟩
        · obtain ⟨y, hy, e⟩ := foll_mem h
          exact ⟨y, List.mem_cons_of_mem _ hy, e⟩
      | false =>
        rw [foll_end hs] at h
        cases h
    · rw [foll_other hs] at h
      obtain ⟨y, hy, e⟩ := foll_mem h
      exact ⟨y, List.mem_cons_of_mem _ hy, e⟩
theorem back_mem {t : List Nd} {k : Nat} {y : Nd} (h : y ∈ back t k) : ∃ j, j < k ∧ t[j]? = some y := by
  unfold back at h
  rw [List.mem_reverse] at h
  obtain ⟨j, hj⟩ := List.getElem?_of_mem h
  rw [List.getElem?_take] at hj
  split at hj
  · exact ⟨j, by assumption, hj⟩
  · cases hj
theorem mv_sq {f q : Int} {m : Mv} (h : mvB f q m.1 m.2.1 m.2.2 = true) : (0 ≤ m.1 ∧ m.1 < 64) ∧ 0 ≤ m.2.1 ∧ m.2.1 < 64 := by
  obtain ⟨h1, h2, _⟩ := mvB_out h
  obtain ⟨z1, a0, a1⟩ := sqB_out h1
  obtain ⟨_, b0, b1⟩ := sqB_out h2
  obtain ⟨f0, f1, r0, r1⟩ := szB_out z1
  have := mul_bd f0 f1 r0 r1
  omega
theorem pth_bd {f q : Int} {t : List Nd} {n k : Nat} (hok : okK f q t n = true) (hk : k ≤ n) : ∀ a ∈ pth (back t k), 0 ≤ a ∧ a < 64 := by
  intro a ha
  have hall : ∀ m, m ∈ stk (back t k) → (0 ≤ m.1 ∧ m.1 < 64) ∧ 0 ≤ m.2.1 ∧ m.2.1 < 64 := fun m hm => by
    obtain ⟨y, hy, rfl⟩ := stk_mem hm
    obtain ⟨j, hj, hjy⟩ := back_mem hy
    exact mv_sq (nodeB_out (okK_at hok (by omega) hjy)).1
  unfold pth at ha
  rw [List.mem_reverse] at ha
  cases hs : stk (back t k) with
  | nil => rw [hs] at ha; cases ha
  | cons m l =>
    rw [hs] at ha hall
    have h2 : a ∈ m.2.1 :: m.1 :: foll false m.1 l := ha
    rcases List.mem_cons.1 h2 with rfl | h3
    · exact (hall m List.mem_cons_self).2
    · rcases List.mem_cons.1 h3 with rfl | h4
      · exact (hall m List.mem_cons_self).1
      · obtain ⟨y, hy, rfl⟩ := foll_mem h4
        exact (hall y (List.mem_cons_of_mem _ hy)).1
theorem psecond (f q : Int) (s : Bool) (w : World) (h0 : 0 ≤ q) (h1 : q ≤ 100) : Calls Try.prog 37 #[.agg #[.int .i64 f, .int .i64 q], .bool s] w fun e w' => e = .returned (.int .i64 (rk2 q s)) ∧ Below w.heap.size w w' := by
  have hS := Lib.hid (Sz2.new w f q 23)
  have hb1 : Hid (Below w.heap.size w (w.alloc (.cells #[.int .i64 f, .int .i64 q] 23))) := (Below.refl _ _).alloc (Nat.le_refl _) _
  go_enter Try.func37, Try.ntmps37
  go_upto_region 1 with fail
  generalize w.alloc (.cells #[.int .i64 f, .int .i64 q] 23) = w1 at *
  have c1 := hS.out.c1
  cases s with
  | true =>
    go_wp2_with fail
    go_ret
    exact ⟨rfl, hb1.out⟩
  | false =>
    go_wp2_with fail
    go_ret
    exact ⟨rfl, hb1.out⟩
theorem rrank (f q : Int) (s : Bool) (w : World) (h0 : 0 ≤ q) (h1 : q ≤ 100) : Calls Try.prog 52 #[.agg #[.int .i64 f, .int .i64 q], .bool s, .int .i64 2] w fun e w' => e = .returned (.int .i64 (rk2 q s)) ∧ Below w.heap.size w w' := by
  have hS := Lib.hid (Sz2.new w f q 23)
  have hb1 : Hid (Below w.heap.size w (w.alloc (.cells #[.int .i64 f, .int .i64 q] 23))) := (Below.refl _ _).alloc (Nat.le_refl _) _
  go_enter Try.func52, Try.ntmps52
  go_upto_region 1 with fail
  generalize w.alloc (.cells #[.int .i64 f, .int .i64 q] 23) = w1 at *
  have c1 := hS.out.c1
  cases s with
  | true =>
    go_wp2_with fail
    go_ret
    exact ⟨rfl, hb1.out⟩
  | false =>
    go_wp2_with fail
    go_ret
    exact ⟨rfl, hb1.out⟩
/-- what Find's inner function holds -/
structure CS (m0 n0 : Nat) (f q : Int) (bk : Bool) (At : Option Addr) (t : List Nd) (ct : Nat) (O0 : Nat → Prop) (W1 W : World) (A : Option Addr) (c : Nat) (acc : List Sh') (ps : List Int) (n : Nat) : Prop where
  fs : FS m0 n0 f q bk At t ct W A c acc ps n
  fr : GFr O0 W1 W
  rw : ∀ b, (Value.slice A acc.length c).ownBlock = some b → O0 b ∨ W1.heap.size ≤ b
  lo : ∀ b, m0 ≤ b → b < n0 + 6 → O0 b
def CX (m0 n0 : Nat) (f q : Int) (bk : Bool) (At : Option Addr) (t : List Nd) (ct : Nat) (O0 : Nat → Prop) (W1 W : World) (acc : List Sh') (ps : List Int) (n : Nat) : Prop := ∃ A c, CS m0 n0 f q bk At t ct O0 W1 W A c acc ps n
section
variable {m0 n0 : Nat} {f q : Int} {bk : Bool} {At : Option Addr} {t : List Nd} {ct : Nat} {O0 : Nat → Prop} {W1 W W' : World} {acc : List Sh'} {ps ps' : List Int} {n n' : Nat}
theorem CX.next (h : CX m0 n0 f q bk At t ct O0 W1 W acc ps n) (hb : Below W.heap.size W W') : CX m0 n0 f q bk At t ct O0 W1 W' acc ps n := by
  obtain ⟨A, c, h⟩ := h
  exact ⟨A, c, h.fs.next hb, h.fr.grown (grown_of_below hb) (fun b e => by cases e), h.rw, h.lo⟩
theorem CX.mono (h : CX m0 n0 f q bk At t ct O0 W1 W acc ps n) (hn : n ≤ n') : CX m0 n0 f q bk At t ct O0 W1 W acc ps n' := by
  obtain ⟨A, c, h⟩ := h
  exact ⟨A, c, ⟨h.fs.c0, h.fs.c1, h.fs.cb, h.fs.ctt, h.fs.co, h.fs.fo, h.fs.set.mono hn, h.fs.ck, h.fs.row, h.fs.recs, h.fs.size, h.fs.le⟩, h.fr, h.rw, h.lo⟩
theorem CX.kinds (h : CX m0 n0 f q bk At t ct O0 W1 W acc ps n) (hs : PSet W' (n0 + 4) n' ps') (hg : W.grownBy W' (some (n0 + 4))) : CX m0 n0 f q bk At t ct O0 W1 W' acc ps' n' := by
  obtain ⟨A, c, h⟩ := h
  exact ⟨A, c, h.fs.kinds hs hg, h.fr.grown hg (fun b e _ => h.lo b (by have := Option.some.inj e; have := h.fs.le; omega) (by have := Option.some.inj e; omega)), h.rw, h.lo⟩
theorem CX.old (h : CX m0 n0 f q bk At t ct O0 W1 W acc ps n) {B : Nat} (hB : B < W1.heap.size) (hn : ¬ O0 B) (i : Nat) : W.cell? ⟨B, i, none⟩ = W1.cell? ⟨B, i, none⟩ := by
  obtain ⟨A, c, h⟩ := h
  exact World.cell?_of_block (h.fr.block B hB hn)
theorem CX.size (h : CX m0 n0 f q bk At t ct O0 W1 W acc ps n) : W1.heap.size ≤ W.heap.size := by
  obtain ⟨A, c, h⟩ := h
  exact h.fr.size
theorem CX.set (h : CX m0 n0 f q bk At t ct O0 W1 W acc ps n) : PSet W (n0 + 4) n ps := by
  obtain ⟨A, c, h⟩ := h
  exact h.fs.set
theorem CX.cells (h : CX m0 n0 f q bk At t ct O0 W1 W acc ps n) : W.cell? ⟨m0, 0, none⟩ = some (.int .i64 f) ∧ W.cell? ⟨m0, 1, none⟩ = some (.int .i64 q) ∧ W.cell? ⟨m0 + 1, 0, none⟩ = some (.bool bk) ∧ W.cell? ⟨n0 + 5, 0, none⟩ = some (.map (some (n0 + 4))) := by
  obtain ⟨A, c, h⟩ := h
  exact ⟨h.fs.c0, h.fs.c1, h.fs.cb, h.fs.ck⟩
theorem CX.add (h : CX m0 n0 f q bk At t ct O0 W1 W acc ps n) {Bi : Nat} (hB : Bi < W1.heap.size) (hn : ¬ O0 Bi) (th i : Int) (b : Bool) (hi : W1.cell? ⟨Bi, 0, none⟩ = some (.int .i64 i)) (hl : acc.length ≤ 100000) :
    Calls Try.prog 35 #[.int .i64 th, .bool b, .pointer (some ⟨n0 + 3, 0, none⟩), .pointer (some ⟨Bi, 0, none⟩)] W fun e W' => e = .returned (.tuple #[]) ∧ CX m0 n0 f q bk At t ct O0 W1 W' (acc ++ addL b th i) ps n := by
  have ho := h.old hB hn 0
  obtain ⟨A, c, h⟩ := h
  refine (padd2 m0 n0 f q bk At t ct W A c acc ps n th i b Bi h.fs (ho.trans hi) hl).mono ?_
  rintro e W' ⟨rfl, A', c', hF, hg, hr⟩
  refine ⟨rfl, A', c', hF, h.fr.trans hg (fun b hb hlt => ?_), fun b hb => ?_, h.lo⟩
  · rcases hb with rfl | hb
    · exact h.lo _ (by have := h.fs.le; omega) (by omega)
    · rcases h.rw b hb with e | e
      · exact e
      · omega
  · rcases hr b hb with e | e
    · exact h.rw b e
    · have := h.fr.size
      exact .inr (by omega)
end
/-- what Find holds after k moves -/
def FI (m0 n0 : Nat) (f q : Int) (bk : Bool) (At : Option Addr) (t : List Nd) (ct : Nat) (k : Nat) (O : Nat → Prop) (W : World) : Prop :=
  ∃ A c n, n ≤ k ∧ FS m0 n0 f q bk At t ct W A c (fnd f q bk t k) (kin t k) n ∧ ∀ b, O b ↔ (m0 ≤ b ∧ b < n0 + 6) ∨ (Value.slice A (fnd f q bk t k).length c).ownBlock = some b
theorem FI.stays (m0 n0 : Nat) (f q : Int) (bk : Bool) (At : Option Addr) (t : List Nd) (ct : Nat) : Stays m0 (FI m0 n0 f q bk At t ct) := by
  intro k O W W' r hI hO hb hg hr
  obtain ⟨A, c, n, hn, hF, hOb⟩ := hI
  refine ⟨A, c, n, hn, hF.grown hg (fun b hb => ⟨?_, fun e => (hr b hb).1 ((hOb b).2 (.inr e))⟩), hOb⟩
  have h1 := hr b hb
  have h2 : ¬ (m0 ≤ b ∧ b < n0 + 6) := fun e => h1.1 ((hOb b).2 (.inl e))
  omega
end Go.Proofs.Yteaclphankckiaa
