/- Layer 43: the best pairing of the list of all, walked. -/
import Derived.Test.YtjjjdoealagpcaaDoorHk
import Derived.BigQuiet
import Derived.BigRegion
import Derived.Deep.Cut
namespace Go.Proofs.YtjjjdoealagpcaaDoor
open Go Go.RowKit
set_option linter.unusedSimpArgs false
set_option linter.unusedVariables false
attribute [local go_sem ↓] Go.wp_at_zero Go.wp_at_succ
/-- the best one so far, in memory -/
def OutOk (wr : World) (l : List Ent) (a b : Value) : Option (List Int) → Prop
  | none => a = .slice none 0 0 ∧ b = .slice none 0 0
  | some o => ∃ bo co Bw : Nat, a = .slice (some ⟨bo, 0, none⟩) l.length co ∧ b = .slice (some ⟨Bw, 0, none⟩) l.length l.length ∧ TRow wr bo o ∧ BRow wr Bw 4 (rWL l o)
theorem OutOk.next {wr w' : World} {l : List Ent} {a b : Value} : ∀ {st : Option (List Int)}, OutOk wr l a b st → Below wr.heap.size wr w' → OutOk w' l a b st
  | none, h, _ => h
  | some o, ⟨bo, co, Bw, h1, h2, h3, h4⟩, hb => ⟨bo, co, Bw, h1, h2, h3.next hb, h4.next hb⟩
theorem OutOk.shape {wr : World} {l : List Ent} {a b : Value} : ∀ {st : Option (List Int)}, OutOk wr l a b st → ∃ (A : Option Addr) (n c : Nat) (B : Option Addr) (m d : Nat), a = .slice A n c ∧ b = .slice B m d
  | none, ⟨h1, h2⟩ => ⟨_, _, _, _, _, _, h1, h2⟩
  | some o, ⟨bo, co, Bw, h1, h2, _, _⟩ => ⟨_, _, _, _, _, _, h1, h2⟩
theorem TRow.far {w : World} {b Bu : Nat} {l : List Int} {cs : Array Value} (h : TRow w b l) (hu : w.heap[Bu]? = some (.cells cs 30)) : b ≠ Bu := fun e => by
  subst e
  obtain ⟨arr, h1, _⟩ := h.row
  rw [hu] at h1
  simp at h1
theorem BRow.far {w : World} {b Bu : Nat} {l : List Bool} {cs : Array Value} (h : BRow w b 4 l) (hu : w.heap[Bu]? = some (.cells cs 30)) : b ≠ Bu := fun e => by
  subst e
  have h1 := h.row
  rw [hu] at h1
  simp at h1
/-- memory in the loop over all pairings -/
structure BA (w W0 wr : World) (l : List Ent) (R : Option Addr) (ys : List Wy) (st : Option (List Int)) : Prop where
  wy : WR wr R l.length ys (allL l)
  b0 : Below w.heap.size w W0
  lt0 : w.heap.size < W0.heap.size
  below : Below W0.heap.size W0 wr
  box : ∃ a b, wr.heap[W0.heap.size]? = some (.cells #[a, b] 30) ∧ OutOk wr l a b st
  res : wr.heap[w.heap.size]? = some (.cells #[.slice none 0 0, .slice none 0 0] 30)
theorem WR.next {w w' : World} {R : Option Addr} {n : Nat} {ys : List Wy} {ws : List (List Int)} (h : WR w R n ys ws) (hb : Below w.heap.size w w') : WR w' R n ys ws := ⟨recs_next h.row hb, fun y hy => (h.rows y hy).next hb, h.ls⟩
section
variable {w W0 wr w' : World} {l : List Ent} {R : Option Addr} {ys : List Wy} {st : Option (List Int)}
theorem BA.next (h : BA w W0 wr l R ys st) (hb : Below wr.heap.size wr w') : BA w W0 w' l R ys st := by
  obtain ⟨a, b, h1, h2⟩ := h.box
  exact ⟨h.wy.next hb, h.b0, h.lt0, h.below.trans (hb.mono h.below.size), ⟨a, b, (hb.block _ (Array.getElem?_eq_some_iff.1 h1).1).trans h1, h2.next hb⟩, (hb.block _ (Array.getElem?_eq_some_iff.1 h.res).1).trans h.res⟩
theorem BA.all (h : BA w W0 wr l R ys st) : Below w.heap.size w wr := h.b0.trans (h.below.mono h.b0.size)
theorem BA.put (h : BA w W0 wr l R ys st) (hW : WR W0 R l.length ys (allL l)) {o : List Int} {bo co Bw : Nat} (ho : TRow wr bo o) (hv : BRow wr Bw 4 (rWL l o)) :
    BA w W0 ((wr.setCell ⟨W0.heap.size, 0, none⟩ (.slice (some ⟨bo, 0, none⟩) l.length co)).setCell ⟨W0.heap.size, 1, none⟩ (.slice (some ⟨Bw, 0, none⟩) l.length l.length)) l R ys (some o) := by
  obtain ⟨a, b, h1, h2⟩ := h.box
  have hne1 := ho.far h1
  have hne2 := hv.far h1
  have hb : Below W0.heap.size W0 ((wr.setCell ⟨W0.heap.size, 0, none⟩ (.slice (some ⟨bo, 0, none⟩) l.length co)).setCell ⟨W0.heap.size, 1, none⟩ (.slice (some ⟨Bw, 0, none⟩) l.length l.length)) := (h.below.setCell (p := ⟨W0.heap.size, 0, none⟩) (Nat.le_refl _) _).setCell (p := ⟨W0.heap.size, 1, none⟩) (Nat.le_refl _) _
  have hold : ∀ k, k ≠ W0.heap.size → ((wr.setCell ⟨W0.heap.size, 0, none⟩ (.slice (some ⟨bo, 0, none⟩) l.length co)).setCell ⟨W0.heap.size, 1, none⟩ (.slice (some ⟨Bw, 0, none⟩) l.length l.length)).heap[k]? = wr.heap[k]? := fun k hk => (heap_setCell_other _ ⟨W0.heap.size, 1, none⟩ k _ hk).trans (heap_setCell_other wr ⟨W0.heap.size, 0, none⟩ k _ hk)
  refine ⟨hW.next hb, h.b0, h.lt0, hb, ⟨_, _, ?_, ⟨bo, co, Bw, rfl, rfl, ho.of_block (hold _ hne1), hv.of_block (hold _ hne2)⟩⟩, (hold _ (by have := h.lt0; omega)).trans h.res⟩
  rw [heap_setCell_same _ W0.heap.size 1 _ _ _ (heap_setCell_same wr W0.heap.size 0 _ _ _ h1)]
  rfl
end
theorem bestO_zero (l : List Ent) : bestO l 0 = none := rfl
theorem bestO_succ {l : List Ent} {k : Nat} {o : List Int} (h : (allL l)[k]? = some o) : bestO l (k + 1) = stepV (valW l) (bestO l k) o := by
  unfold bestO
  show ((allL l).take (k + 1)).foldl _ none = _
  rw [List.take_add_one, h, List.foldl_append]
  rfl
theorem bestO_end {l : List Ent} {k : Nat} (h : (allL l).length ≤ k) : bestO l k = (allL l).foldl (stepV (valW l)) none := by
  unfold bestO
  show ((allL l).take k).foldl _ none = _
  rw [List.take_of_length_le h]
/-- what comes back -/
structure BestP (l : List Ent) (e : Ending) (w w' : World) : Prop where
  no : bst l (fullS l) = -1 → e = .returned (.tuple #[.agg #[.slice none 0 0, .slice none 0 0], .int .i64 (-1)])
  yes : bst l (fullS l) ≠ -1 → ∃ bo co Bw : Nat, e = .returned (.tuple #[.agg #[.slice (some ⟨bo, 0, none⟩) l.length co, .slice (some ⟨Bw, 0, none⟩) l.length l.length], .int .i64 (bst l (fullS l))]) ∧ TRow w' bo (resO l) ∧ BRow w' Bw 4 (resW l)
  below : Below w.heap.size w w'
theorem BestP.of {l : List Ent} {w W0 wr : World} {R : Option Addr} {ys : List Wy} {a b : Value} {w' : World} (h7 : l.length ≤ 7) (hok : ∀ x ∈ l, numOk x) (hO : OutOk w' l a b (bestO l ys.length)) (hlen : (allL l).length = ys.length) (hb : Below w.heap.size w w') :
    BestP l (.returned (.tuple #[.agg #[a, b], .int .i64 (costO (valW l) (bestO l ys.length))])) w w' := by
  rw [bestO_end (by omega)] at hO ⊢
  rcases best_is h7 hok with ⟨h1, h2⟩ | ⟨h1, h2, h3, h4, _⟩
  · rw [h2] at hO ⊢
    obtain ⟨rfl, rfl⟩ := hO
    exact ⟨fun _ => rfl, fun h => absurd h1 h, hb⟩
  · rw [h2] at hO ⊢
    obtain ⟨bo, co, Bw, rfl, rfl, q1, q2⟩ := hO
    rw [h4] at q2
    refine ⟨fun h => by omega, fun _ => ⟨bo, co, Bw, ?_, q1, q2⟩, hb⟩
    show Ending.returned (.tuple #[_, .int .i64 (valW l (resO l))]) = _
    rw [h3]
theorem IRow.trow {w : World} {B : Nat} {L : List Int} (h : IRow w B 3 L) : TRow w B L := ⟨_, h.row, fun k x hx => by simp [hx]⟩
theorem IRow.reps (w : World) (n : Nat) : IRow (w.alloc (.cells (Array.replicate n (.int .i64 0)) 3)) w.heap.size 3 (List.replicate n 0) := ⟨by rw [heap_alloc_new]; simp⟩
set_option maxRecDepth 100000 in
set_option maxHeartbeats 4000000 in
theorem lBest (A : Option Addr) (l : List Ent) (c : Nat) (w : World) (hF : FH w A l c) (hv : okF l) (h7 : l.length ≤ 7) :
    Calls Tryd.prog 14 #[.slice A l.length c] w fun e w' => BestP l e w w' := by
  have h2 := hv.1
  have hb0 : Hid (Below w.heap.size w (w.alloc (.cells #[.slice none 0 0, .slice none 0 0] 30))) := (Below.refl _ _).alloc (Nat.le_refl _) _
  have hr0 : Hid ((w.alloc (.cells #[.slice none 0 0, .slice none 0 0] 30)).heap[w.heap.size]? = some (.cells #[.slice none 0 0, .slice none 0 0] 30)) := heap_alloc_new w _
  have hFH := Lib.hid hF
  have hvH := Lib.hid hv
  obtain ⟨n, hn⟩ : ∃ n, l.length = n := ⟨_, rfl⟩
  have hnH := Lib.hid hn
  rw [hn] at h2 h7 ⊢
  clear hF hv hn
  go_enter Tryd.func14, Tryd.ntmps14
  go_upto_region 1 with fail
  generalize w.alloc (.cells #[.slice none 0 0, .slice none 0 0] 30) = w0 at *
  have hmk := run_make_i w0 n (by omega)
  have hI1 := Lib.hid (IRow.reps w0 n)
  have hb1 : Hid (Below w.heap.size w (w0.alloc (.cells (Array.replicate n (.int .i64 0)) 3))) := hb0.out.alloc hb0.out.size _
  have hr1 : Hid ((w0.alloc (.cells (Array.replicate n (.int .i64 0)) 3)).heap[w.heap.size]? = some (.cells #[.slice none 0 0, .slice none 0 0] 30)) := (((Below.refl w0.heap.size w0).alloc (Nat.le_refl _) _).block _ (Array.getElem?_eq_some_iff.1 hr0.out).1).trans hr0.out
  have hltn : Hid (w.heap.size < w0.heap.size) := (Array.getElem?_eq_some_iff.1 hr0.out).1
  go_upto_region 2 with fail
  clear hmk hr0 hb0
  generalize w0.alloc (.cells (Array.replicate n (.int .i64 0)) 3) = w1 at *
  generalize w0.heap.size = Bn at hI1 hltn ⊢
  clear w0
  go_wp2_with fail
  go_loopw [5] (fun i wr => ∃ (k : Nat) (L : List Int), k ≤ n ∧ i = .int .i64 k ∧ Hid (IRow wr Bn 3 L) ∧ Hid (L.length = n ∧ ∀ j, j < k → L[j]? = some (-2)) ∧ Hid (Below w.heap.size w wr) ∧ Hid (wr.heap[w.heap.size]? = some (.cells #[.slice none 0 0, .slice none 0 0] 30))) (fun i _ => n - (intOf i).toNat)
  case atStart => exact ⟨0, _, by omega, rfl, hI1, ⟨by simp, fun j hj => absurd hj (Nat.not_lt_zero _)⟩, hb1, hr1⟩
  case round =>
    clear hI1 hb1 hr1
    obtain ⟨k, L, hk, rfl, hI, hL, hb, hr⟩ := hrel
    have hk0 : (0 : Int) ≤ (k : Int) := Int.natCast_nonneg _
    by_cases hkn : k < n
    · have hkI : (k : Int) < (n : Int) := by omega
      obtain ⟨x, hx⟩ : ∃ x, L[k]? = some x := ⟨_, List.getElem?_eq_getElem (by have := hL.out.1; omega)⟩
      have e0 := hI.out.cell hx
      have e1 := hI.out.fr k
      have hI2 := Lib.hid (hI.out.set k (-2))
      have hL2 : Hid ((L.set k (-2)).length = n ∧ ∀ j, j < k + 1 → (L.set k (-2))[j]? = some (-2)) := by
        refine ⟨by rw [List.length_set]; exact hL.out.1, fun j hj => ?_⟩
        by_cases e : k = j
        · subst e; exact List.getElem?_set_self (by have := hL.out.1; omega)
        · rw [List.getElem?_set_ne e]; exact hL.out.2 j (by omega)
      have hb2 : Hid (Below w.heap.size w (wr.setCell ⟨Bn, k, none⟩ (.int .i64 (-2)))) := hb.out.setCell (p := ⟨Bn, k, none⟩) (Nat.le_of_lt hltn.out) _
      have hr2 : Hid ((wr.setCell ⟨Bn, k, none⟩ (.int .i64 (-2))).heap[w.heap.size]? = some (.cells #[.slice none 0 0, .slice none 0 0] 30)) := (heap_setCell_other wr ⟨Bn, k, none⟩ _ _ (by have := hltn.out; show w.heap.size ≠ Bn; omega)).trans hr.out
      clear hx
      go_wp2_with fail
      go_roundw
      case rel => exact ⟨k + 1, _, by omega, by go_num, hI2, hL2, hb2, hr2⟩
      case measure => simp [intOf]; omega
    obtain rfl : k = n := by omega
    have hS : Hid (L = start2 l.length) := by
      show L = _
      apply List.ext_getElem?
      intro j
      have h1 := hL.out.1
      have h2 := hnH.out
      by_cases hj : j < k
      · rw [hL.out.2 j hj]
        exact (rep_get _ (by omega)).symm
      · rw [List.getElem?_eq_none (by omega), List.getElem?_eq_none (by rw [start2_len]; omega)]
    have hT : Hid (TRow wr Bn (start2 l.length)) := by
      have := hI.out.trow
      rwa [hS.out] at this
    have g1 := tmod_two k
    obtain ⟨r, hr2⟩ : ∃ r, k % 2 = r := ⟨_, rfl⟩
    rw [hr2] at g1
    have hrlt : r < 2 := by omega
    obtain ⟨free, hfr⟩ : ∃ free, ((r : Int) == 1) = free := ⟨_, rfl⟩
    have hfe : Hid (free = decide (l.length % 2 = 1)) := by
      show free = _
      rw [← hfr, hnH.out, hr2]
      match r, hrlt with
      | 0, _ => rfl
      | 1, _ => rfl
    have hAll : Hid (Calls Tryd.prog 36 #[.slice (some ⟨Bn, 0, none⟩) k k, .bool free] wr fun e w' => AllP k (allL l) e wr w') := by
      have h1 := pall l.length (start2 l.length) free Bn k k wr (by have := hnH.out; omega) (by omega) (by rw [start2_len]; exact hnH.out) (by
        have := List.count_le_length (a := (-2 : Int)) (l := start2 l.length)
        rw [start2_len] at this
        exact this) hT.out
      rw [hfe.out] at h1 ⊢
      exact h1
    have hg : IntKind.i64.wrap (r : Int) = (r : Int) := i64_nat (by omega)
    clear hI hL hT hS hr2
    go_wp2_with fail
    go_at_call 36
    refine hAll.out.mono ?_
    rintro e W0 hap
    obtain ⟨⟨R, cR, ys, rfl, hWR⟩, hb4⟩ := hap
    have hbW : Hid (Below w.heap.size w W0) := hb.out.trans (hb4.mono hb.out.size)
    have hlt0 : Hid (w.heap.size < W0.heap.size) := Nat.lt_of_lt_of_le (Array.getElem?_eq_some_iff.1 hr.out).1 hb4.size
    have hrW : Hid (W0.heap[w.heap.size]? = some (.cells #[.slice none 0 0, .slice none 0 0] 30)) := (hb4.block _ (Array.getElem?_eq_some_iff.1 hr.out).1).trans hr.out
    replace hWR := Lib.hid hWR
    have hal : Hid (Below W0.heap.size W0 (W0.alloc (.cells #[.slice none 0 0, .slice none 0 0] 30))) := (Below.refl _ _).alloc (Nat.le_refl _) _
    have hBA0 : Hid (BA w W0 (W0.alloc (.cells #[.slice none 0 0, .slice none 0 0] 30)) l R ys none) :=
      ⟨by have := hWR.out.next hal.out; rwa [hnH.out], hbW.out, hlt0.out, hal.out, ⟨_, _, heap_alloc_new W0 _, rfl, rfl⟩, (hal.out.block _ hlt0.out).trans hrW.out⟩
    clear hAll hb hb4 hr hfr hfe hg hrW hbW hlt0 hal g1 hrlt
    go_upto_region 8 with fail
    obtain ⟨Bu, hBu⟩ : ∃ Bu, W0.heap.size = Bu := ⟨_, rfl⟩
    have hBuH : Hid (W0.heap.size = Bu) := hBu
    rw [hBu]
    clear hBu
    generalize W0.alloc (.cells #[.slice none 0 0, .slice none 0 0] 30) = W1 at *
    have hlenY : Hid ((allL l).length = ys.length) := by
      have := congrArg List.length hWR.out.ls
      rw [List.length_map] at this
      exact this.symm
    have hYb : ys.length ≤ 823543 := by
      rw [← hlenY.out]
      have h1 := allW_le l.length (start2 l.length) (decide (l.length % 2 = 1)) (by rw [start2_len, hnH.out]; exact h7)
      have h2 : 7 ^ l.length ≤ 7 ^ 7 := Nat.pow_le_pow_right (by decide) (by rw [hnH.out]; exact h7)
      have h3 : 7 ^ 7 = 823543 := by decide
      have h4 : (allL l).length ≤ 7 ^ l.length := h1
      omega
    clear hltn
    clear wr
    go_wp2_with fail
    go_loopw [7, 9] (fun b i wr => ∃ m : Nat, m ≤ ys.length ∧ i = .int .i64 m ∧ b = .int .i64 (costO (valW l) (bestO l m)) ∧ Hid (BA w W0 wr l R ys (bestO l m))) (fun _ i _ => ys.length - (intOf i).toNat)
    case atStart => exact ⟨0, by omega, rfl, rfl, hBA0⟩
    case round =>
      clear hBA0
      obtain ⟨m, hm, rfl, rfl, hB⟩ := hrel
      have hm0 : (0 : Int) ≤ (m : Int) := Int.natCast_nonneg _
      have hbx := hB.out.box
      rw [hBuH.out] at hbx
      obtain ⟨a, b, hbx, hOut⟩ := hbx
      by_cases hmn : m < ys.length
      rotate_left
      · obtain ⟨A1, n1, c1, A2, n2, c2, rfl, rfl⟩ := hOut.shape
        obtain rfl : m = ys.length := by omega
        have x0 : wr.cell? ⟨Bu, 0, none⟩ = some (.slice A1 n1 c1) := by rw [cell_of_row _ _ _ _ _ _ hbx]; rfl
        have x1 : wr.cell? ⟨Bu, 1, none⟩ = some (.slice A2 n2 c2) := by rw [cell_of_row _ _ _ _ _ _ hbx]; rfl
        have y0 : wr.cell? ⟨w.heap.size, 0, none⟩ = some (.slice none 0 0) := by rw [cell_of_row _ _ _ _ _ _ hB.out.res]; rfl
        have y1 : wr.cell? ⟨w.heap.size, 1, none⟩ = some (.slice none 0 0) := by rw [cell_of_row _ _ _ _ _ _ hB.out.res]; rfl
        have f0 : wr.frozen? ⟨w.heap.size, 0, none⟩ = false := frozen_of_row _ _ _ _ _ hB.out.res
        have f1 : wr.frozen? ⟨w.heap.size, 1, none⟩ = false := frozen_of_row _ _ _ _ _ hB.out.res
        have hres := hB.out.res
        have hall := Lib.hid hB.out.all
        have hltB : w.heap.size < Bu := by rw [← hBuH.out]; exact hB.out.lt0
        have hOutE : Hid (OutOk ((wr.setCell ⟨w.heap.size, 0, none⟩ (.slice A1 n1 c1)).setCell ⟨w.heap.size, 1, none⟩ (.slice A2 n2 c2)) l (.slice A1 n1 c1) (.slice A2 n2 c2) (bestO l ys.length)) := by
          have hold : ∀ k, k ≠ w.heap.size → ((wr.setCell ⟨w.heap.size, 0, none⟩ (.slice A1 n1 c1)).setCell ⟨w.heap.size, 1, none⟩ (.slice A2 n2 c2)).heap[k]? = wr.heap[k]? := fun k hk => (heap_setCell_other _ ⟨w.heap.size, 1, none⟩ k _ hk).trans (heap_setCell_other wr ⟨w.heap.size, 0, none⟩ k _ hk)
          revert hOut
          cases bestO l ys.length with
          | none => exact fun h => h
          | some o =>
            rintro ⟨bo, co, Bw, h1, h2, h3, h4⟩
            exact ⟨bo, co, Bw, h1, h2, h3.of_block (hold _ (h3.far hres)), h4.of_block (hold _ (h4.far hres))⟩
        have hfinal : Hid (BestP l (.returned (.tuple #[.agg #[.slice A1 n1 c1, .slice A2 n2 c2], .int .i64 (costO (valW l) (bestO l ys.length))])) w ((wr.setCell ⟨w.heap.size, 0, none⟩ (.slice A1 n1 c1)).setCell ⟨w.heap.size, 1, none⟩ (.slice A2 n2 c2))) :=
          BestP.of (W0 := W0) (wr := wr) (R := R) (by rw [hnH.out]; exact h7) hvH.out.num hOutE.out hlenY.out ((hall.out.setCell (p := ⟨w.heap.size, 0, none⟩) (Nat.le_refl _) _).setCell (p := ⟨w.heap.size, 1, none⟩) (Nat.le_refl _) _)
        generalize costO (valW l) (bestO l ys.length) = K at *
        clear hres hOut hOutE hlenY
        go_wp2_with fail
        (try simp only [Exit.inBlock, Exit.then])
        refine bodyPost_ret (v := .tuple #[.agg #[.slice A1 n1 c1, .slice A2 n2 c2], .int .i64 K]) ?hres rfl ?hfin
        case hfin => exact hfinal.out
        case hres => simp [results, Tryd.results14, go_sem, y0, y1]
      obtain ⟨y, hy⟩ : ∃ y, ys[m]? = some y := ⟨_, List.getElem?_eq_getElem hmn⟩
      have hmI : (m : Int) < (ys.length : Int) := by omega
      have hyl : Hid ((allL l)[m]? = some y.l) := by
        have := hB.out.wy.ls
        show _ = _
        rw [← this, List.getElem?_map, hy]; rfl
      obtain ⟨bR, oR, rfl, hltR, hcR⟩ := hB.out.wy.row (by omega)
      have e0 : wr.cell? ⟨bR, oR + m, none⟩ = some (.slice (some ⟨y.b, 0, none⟩) l.length y.c) := by
        have := hcR m y hy 0 _ rfl
        rwa [Nat.mul_one] at this
      rw [hnH.out] at e0
      have hTy : Hid (TRow wr y.b y.l) := hB.out.wy.rows y (List.mem_of_getElem? hy)
      have hyo : Hid (oOk l.length y.l) := allL_ok (by rw [hnH.out]; exact h7) (List.mem_of_getElem? hyl.out)
      have hRd : Hid (Calls Tryd.prog 24 #[.slice A k c, .slice (some ⟨y.b, 0, none⟩) k y.c] wr fun e w' => RdR l y.l (some ⟨y.b, 0, none⟩) y.c e wr w') := by
        have h1 := lround A (some ⟨y.b, 0, none⟩) l y.l c y.c wr (hFH.out.next hB.out.all) hvH.out hTy.out.recs hyo.out
        rw [hyo.out.1, hnH.out] at h1
        exact h1
      obtain ⟨K, hK⟩ : ∃ K, costO (valW l) (bestO l m) = K := ⟨_, rfl⟩
      rw [hK]
      have hKH := Lib.hid hK
      clear hcR hy hbx hOut hK
      go_wp2_with fail
      go_at_call 24
      refine hRd.out.mono ?_
      rintro e w2 hrd
      obtain ⟨⟨Bw, rfl, hBw⟩, hbn⟩ := hrd
      have hB2 := Lib.hid (hB.out.next hbn)
      have hT2 := Lib.hid (hTy.out.next hbn)
      replace hBw := Lib.hid hBw
      clear hB hTy hRd hbn e0 hltR
      rw [hnH.out]
      have hbB : Hid (Below w2.heap.size w2 (w2.alloc (.cells #[.slice (some ⟨y.b, 0, none⟩) k y.c, .slice (some ⟨Bw, 0, none⟩) k k] 30))) := (Below.refl _ _).alloc (Nat.le_refl _) _
      have hX := Lib.hid (RB.new w2 (.slice (some ⟨y.b, 0, none⟩) k y.c) (.slice (some ⟨Bw, 0, none⟩) k k))
      have hB3 := Lib.hid (hB2.out.next hbB.out)
      have hT3 := Lib.hid (hT2.out.next hbB.out)
      have hW3 := Lib.hid (hBw.out.next hbB.out)
      have hB2lt : Hid (Bu < w2.heap.size) := by
        obtain ⟨a, b, h1, _⟩ := hB2.out.box
        have := (Array.getElem?_eq_some_iff.1 h1).1
        show Bu < _
        rw [← hBuH.out]; exact this
      clear hB2 hT2 hBw hbB
      have hne3 : w2.heap.size ≠ Bu := by
        have := hB2lt.out
        omega
      clear hB2lt
      go_upto_region 12 with fail
      generalize w2.heap.size = Br at hX hne3 ⊢
      generalize w2.alloc (.cells #[.slice (some ⟨y.b, 0, none⟩) k y.c, .slice (some ⟨Bw, 0, none⟩) k k] 30) = w3 at *
      clear w2
      have hVl : Hid (Calls Tryd.prog 23 #[.slice A k c, .agg #[.slice (some ⟨y.b, 0, none⟩) k y.c, .slice (some ⟨Bw, 0, none⟩) k k]] w3 fun e w' => e = .returned (.int .i64 (valW l y.l)) ∧ Below w3.heap.size w3 w') := by
        have h1 := lvalue A (some ⟨y.b, 0, none⟩) (some ⟨Bw, 0, none⟩) l y.l (rWL l y.l) c y.c k w3 (hFH.out.next hB3.out.all) hvH.out ⟨hT3.out.recs, hW3.out.recs⟩ (by rw [hyo.out.1, hnH.out]; omega) (by rw [rWL_len, hnH.out]; omega)
        rw [hyo.out.1, rWL_len, hnH.out] at h1
        exact h1
      have x0 := hX.out.c0
      have x1 := hX.out.c1
      have hVb : valW l y.l = -1 ∨ 0 ≤ valW l y.l := valR_bd hvH.out.num
      have hsu : Hid (bestO l (m + 1) = stepV (valW l) (bestO l m) y.l) := bestO_succ hyl.out
      obtain ⟨V, hV⟩ : ∃ V, valW l y.l = V := ⟨_, rfl⟩
      rw [hV] at hVl hVb
      have hVH := Lib.hid hV
      clear hV hyo hyl
      go_wp2_with fail
      go_at_call 23
      refine hVl.out.mono ?_
      rintro e w4 ⟨rfl, hb4⟩
      clear x0 x1
      have hB4 := Lib.hid (hB3.out.next hb4)
      have hT4 := Lib.hid (hT3.out.next hb4)
      have hW4 := Lib.hid (hW3.out.next hb4)
      have hX4 := Lib.hid (hX.out.next hb4)
      have hneH : Hid (Br ≠ Bu) := hne3
      clear hb4 hB3 hT3 hW3 hX hVl hne3
      clear w3
      go_upto_region 13 with fail
      by_cases t1 : 0 ≤ V
      rotate_left
      · have hno : Hid (bestO l m = bestO l (m + 1)) := by
          show _ = _
          rw [hsu.out]
          exact (if_neg (fun h => t1 (by have := h.1; rw [hVH.out] at this; exact this))).symm
        rw [hno.out] at hB4 hKH
        clear hsu hno hVb
        go_wp2_with fail
        go_roundw
        case rel => exact ⟨m + 1, by omega, by go_num, by rw [hKH.out], hB4⟩
        case measure => simp [intOf]; omega
      by_cases t2 : K < 0
      · have hyes : Hid (bestO l (m + 1) = some y.l) := by
          show _ = _
          rw [hsu.out]
          exact if_pos ⟨by rw [hVH.out]; exact t1, Or.inl (by rw [hKH.out]; exact t2)⟩
        obtain ⟨a, b, hbx, _⟩ := hB4.out.box
        have x0 := hX4.out.c0
        have x1 := hX4.out.c1
        have hput := Lib.hid (hB4.out.put (by have := hWR.out; rwa [← hnH.out] at this) (co := y.c) hT4.out hW4.out)
        rw [hBuH.out] at hbx hput
        rw [hnH.out, ← hyes.out] at hput
        have z0 : w4.cell? ⟨Bu, 0, none⟩ = some a := by rw [cell_of_row _ _ _ _ _ _ hbx]; rfl
        have z1 : w4.cell? ⟨Bu, 1, none⟩ = some b := by rw [cell_of_row _ _ _ _ _ _ hbx]; rfl
        have f0 : w4.frozen? ⟨Bu, 0, none⟩ = false := frozen_of_row _ _ _ _ _ hbx
        have f1 : w4.frozen? ⟨Bu, 1, none⟩ = false := frozen_of_row _ _ _ _ _ hbx
        have hne : Br ≠ Bu := hneH.out
        have hcst : Hid (costO (valW l) (bestO l (m + 1)) = V) := by show _ = _; rw [hyes.out]; exact hVH.out
        clear hbx hsu hyes hVb
        go_upto_region 14 with fail
        go_region
        all_goals
          (try go_wp2_with fail)
          go_roundw
          case rel => exact ⟨m + 1, by omega, by go_num, by rw [hcst.out], by first | exact hput | exact Lib.hid (hput.out.next (below_drewN (Below.refl _ _) _))⟩
          case measure => simp [intOf]; omega
      by_cases t3 : V < K
      · have hyes : Hid (bestO l (m + 1) = some y.l) := by
          show _ = _
          rw [hsu.out]
          exact if_pos ⟨by rw [hVH.out]; exact t1, Or.inr (by rw [hKH.out, hVH.out]; exact t3)⟩
        obtain ⟨a, b, hbx, _⟩ := hB4.out.box
        have x0 := hX4.out.c0
        have x1 := hX4.out.c1
        have hput := Lib.hid (hB4.out.put (by have := hWR.out; rwa [← hnH.out] at this) (co := y.c) hT4.out hW4.out)
        rw [hBuH.out] at hbx hput
        rw [hnH.out, ← hyes.out] at hput
        have z0 : w4.cell? ⟨Bu, 0, none⟩ = some a := by rw [cell_of_row _ _ _ _ _ _ hbx]; rfl
        have z1 : w4.cell? ⟨Bu, 1, none⟩ = some b := by rw [cell_of_row _ _ _ _ _ _ hbx]; rfl
        have f0 : w4.frozen? ⟨Bu, 0, none⟩ = false := frozen_of_row _ _ _ _ _ hbx
        have f1 : w4.frozen? ⟨Bu, 1, none⟩ = false := frozen_of_row _ _ _ _ _ hbx
        have hne : Br ≠ Bu := hneH.out
        have hcst : Hid (costO (valW l) (bestO l (m + 1)) = V) := by show _ = _; rw [hyes.out]; exact hVH.out
        clear hbx hsu hyes hVb
        go_upto_region 14 with fail
        go_region
        all_goals
          (try go_wp2_with fail)
          go_roundw
          case rel => exact ⟨m + 1, by omega, by go_num, by rw [hcst.out], by first | exact hput | exact Lib.hid (hput.out.next (below_drewN (Below.refl _ _) _))⟩
          case measure => simp [intOf]; omega
      · have hno : Hid (bestO l m = bestO l (m + 1)) := by
          show _ = _
          rw [hsu.out]
          exact (if_neg (fun h => h.2.elim (fun h => t2 (by rw [hKH.out] at h; exact h)) (fun h => t3 (by rw [hKH.out, hVH.out] at h; exact h)))).symm
        rw [hno.out] at hB4 hKH
        clear hsu hno hVb
        go_wp2_with fail
        go_roundw
        case rel => exact ⟨m + 1, by omega, by go_num, by rw [hKH.out], hB4⟩
        case measure => simp [intOf]; omega
end Go.Proofs.YtjjjdoealagpcaaDoor
