/- Layer 27: Parse of the program. -/
import Derived.Test.YtbcdimklblpdnaaDoorZk
import Derived.Deep.CutRange
namespace Go.Proofs.YtbcdimklblpdnaaDoor
open Go Go.RowKit
set_option linter.unusedSimpArgs false
set_option linter.unusedVariables false
/-- the box of an atom that is written -/
structure K6 (w : World) (B : Nat) (k s l x m y : Int) : Prop where
  c0 : w.cell? ⟨B, 0, none⟩ = some (.int .i64 k)
  c1 : w.cell? ⟨B, 1, none⟩ = some (.int .i64 s)
  c2 : w.cell? ⟨B, 2, none⟩ = some (.int .i64 l)
  c3 : w.cell? ⟨B, 3, none⟩ = some (.int .i64 x)
  c4 : w.cell? ⟨B, 4, none⟩ = some (.int .i64 m)
  c5 : w.cell? ⟨B, 5, none⟩ = some (.int .i64 y)
  fz : ∀ i, w.frozen? ⟨B, i, none⟩ = false
  lt : B < w.heap.size
theorem K6.new (w : World) (k s l x m y : Int) : K6 (w.alloc (.cells #[.int .i64 k, .int .i64 s, .int .i64 l, .int .i64 x, .int .i64 m, .int .i64 y] 40)) w.heap.size k s l x m y :=
  ⟨by rw [cell_of_row _ _ _ _ _ _ (heap_alloc_new w _)]; rfl, by rw [cell_of_row _ _ _ _ _ _ (heap_alloc_new w _)]; rfl, by rw [cell_of_row _ _ _ _ _ _ (heap_alloc_new w _)]; rfl, by rw [cell_of_row _ _ _ _ _ _ (heap_alloc_new w _)]; rfl, by rw [cell_of_row _ _ _ _ _ _ (heap_alloc_new w _)]; rfl, by rw [cell_of_row _ _ _ _ _ _ (heap_alloc_new w _)]; rfl, fun i => by simp only [World.frozen?]; rw [heap_alloc_new w _]; rfl, by simp⟩
section
variable {w w' : World} {B : Nat} {k s l x m y : Int}
theorem K6.of_block (h : K6 w B k s l x m y) (hb : w'.heap[B]? = w.heap[B]?) (hs : w.heap.size ≤ w'.heap.size) : K6 w' B k s l x m y :=
  ⟨(World.cell?_of_block hb).trans h.c0, (World.cell?_of_block hb).trans h.c1, (World.cell?_of_block hb).trans h.c2, (World.cell?_of_block hb).trans h.c3, (World.cell?_of_block hb).trans h.c4, (World.cell?_of_block hb).trans h.c5, fun i => by have := h.fz i; simp only [World.frozen?] at this ⊢; rw [hb]; exact this, Nat.lt_of_lt_of_le h.lt hs⟩
theorem K6.next (h : K6 w B k s l x m y) (hb : Below w.heap.size w w') : K6 w' B k s l x m y := h.of_block (hb.block B h.lt) hb.size
theorem K6.chg {S : List Nat} (h : K6 w B k s l x m y) (hc : Chg S w w') (hn : B ∉ S) : K6 w' B k s l x m y := h.of_block (hc.block B h.lt hn) hc.size
theorem K6.set1 (h : K6 w B k s l x m y) (v : Int) : K6 (w.setCell ⟨B, 1, none⟩ (.int .i64 v)) B k v l x m y :=
  ⟨(World.cell?_setCell_other w ⟨B, 1, none⟩ ⟨B, 0, none⟩ _ (by simp)).trans h.c0, World.cell?_setCell_same' _ _ _ (by rw [h.c1]; rfl), (World.cell?_setCell_other w ⟨B, 1, none⟩ ⟨B, 2, none⟩ _ (by simp)).trans h.c2, (World.cell?_setCell_other w ⟨B, 1, none⟩ ⟨B, 3, none⟩ _ (by simp)).trans h.c3, (World.cell?_setCell_other w ⟨B, 1, none⟩ ⟨B, 4, none⟩ _ (by simp)).trans h.c4, (World.cell?_setCell_other w ⟨B, 1, none⟩ ⟨B, 5, none⟩ _ (by simp)).trans h.c5, fun i => by rw [World.frozen?_setCell]; exact h.fz i, by rw [nblk_set]; exact h.lt⟩
theorem K6.set2 (h : K6 w B k s l x m y) (v : Int) : K6 (w.setCell ⟨B, 2, none⟩ (.int .i64 v)) B k s v x m y :=
  ⟨(World.cell?_setCell_other w ⟨B, 2, none⟩ ⟨B, 0, none⟩ _ (by simp)).trans h.c0, (World.cell?_setCell_other w ⟨B, 2, none⟩ ⟨B, 1, none⟩ _ (by simp)).trans h.c1, World.cell?_setCell_same' _ _ _ (by rw [h.c2]; rfl), (World.cell?_setCell_other w ⟨B, 2, none⟩ ⟨B, 3, none⟩ _ (by simp)).trans h.c3, (World.cell?_setCell_other w ⟨B, 2, none⟩ ⟨B, 4, none⟩ _ (by simp)).trans h.c4, (World.cell?_setCell_other w ⟨B, 2, none⟩ ⟨B, 5, none⟩ _ (by simp)).trans h.c5, fun i => by rw [World.frozen?_setCell]; exact h.fz i, by rw [nblk_set]; exact h.lt⟩
theorem K6.set3 (h : K6 w B k s l x m y) (v : Int) : K6 (w.setCell ⟨B, 3, none⟩ (.int .i64 v)) B k s l v m y :=
  ⟨(World.cell?_setCell_other w ⟨B, 3, none⟩ ⟨B, 0, none⟩ _ (by simp)).trans h.c0, (World.cell?_setCell_other w ⟨B, 3, none⟩ ⟨B, 1, none⟩ _ (by simp)).trans h.c1, (World.cell?_setCell_other w ⟨B, 3, none⟩ ⟨B, 2, none⟩ _ (by simp)).trans h.c2, World.cell?_setCell_same' _ _ _ (by rw [h.c3]; rfl), (World.cell?_setCell_other w ⟨B, 3, none⟩ ⟨B, 4, none⟩ _ (by simp)).trans h.c4, (World.cell?_setCell_other w ⟨B, 3, none⟩ ⟨B, 5, none⟩ _ (by simp)).trans h.c5, fun i => by rw [World.frozen?_setCell]; exact h.fz i, by rw [nblk_set]; exact h.lt⟩
theorem K6.other (h : K6 w B k s l x m y) {B' : Nat} (hn : B ≠ B') (v : Value) : K6 (w.setCell ⟨B', 0, none⟩ v) B k s l x m y :=
  h.chg (S := [B']) ((Chg.refl _ _).setCell (by simp) 0 v) (by simpa using hn)
end
theorem C1.other {w : World} {B B' : Nat} {v : Value} (h : C1 w B v) (hn : B ≠ B') (i : Nat) (u : Value) : C1 (w.setCell ⟨B', i, none⟩ u) B v :=
  h.chg (S := [B']) ((Chg.refl _ _).setCell (by simp) i u) (by simpa using hn)
theorem C1.set {w : World} {B : Nat} {v : Value} (h : C1 w B v) (u : Value) : C1 (w.setCell ⟨B, 0, none⟩ u) B u :=
  ⟨World.cell?_setCell_same' _ _ _ (by rw [h.c]; rfl), by rw [World.frozen?_setCell]; exact h.fz, by rw [nblk_set]; exact h.lt⟩
theorem idx_bd (o : List UInt8) (w : List UInt8) (ho : o.length ≤ 100) : 0 ≤ (idxB o w).1 ∧ (idxB o w).1 ≤ 100 := by
  cases w with
  | nil => exact ⟨Int.le_refl _, by show (0 : Int) ≤ 100; decide⟩
  | cons c t =>
    by_cases h : 0 < o.idxOf c ∧ o.idxOf c < o.length
    · rw [show idxB o (c :: t) = (((o.idxOf c : Nat) : Int), t) from if_pos h]
      exact ⟨Int.natCast_nonneg _, by show ((o.idxOf c : Nat) : Int) ≤ 100; omega⟩
    · rw [show idxB o (c :: t) = (0, c :: t) from if_neg h]
      exact ⟨Int.le_refl _, by show (0 : Int) ≤ 100; decide⟩
theorem idx_len (o : List UInt8) (w : List UInt8) : (idxB o w).2.length ≤ w.length := by
  cases w with
  | nil => exact Nat.le_refl _
  | cons c t =>
    by_cases h : 0 < o.idxOf c ∧ o.idxOf c < o.length
    · rw [show idxB o (c :: t) = (((o.idxOf c : Nat) : Int), t) from if_pos h]
      simp
    · rw [show idxB o (c :: t) = (0, c :: t) from if_neg h]
      exact Nat.le_refl _
theorem prA_eq {w w1 w2 w3 w4 w5 w6 : List UInt8} {m y k s L X : Int} (h1 : idxB mdL w = (m, w1)) (h2 : idxB wyL w1 = (y, w2)) (h3 : idxB ltL w2 = (k, w3)) (h4 : idxB dgL w3 = (s, w4)) (h5 : (if s = 0 then (cutB 48 w4).getD w4 else w4) = w5) (h6 : idxB dgL w5 = (L, w6))
    (h7 : (match cutB 120 w6 with | some t => (idxB dgL t).1 | none => 0) = X) : prA w = ⟨k, s, L, X, m, y⟩ := by
  unfold prA
  simp only [h1, h2, h3, h4, h5, h6]
  subst h7
  rfl
/-- is a byte taken off? -/
theorem cutB_cases (b : UInt8) (w : List UInt8) : (w = [] ∧ cutB b w = none) ∨ (∃ t, w = b :: t ∧ cutB b w = some t) ∨ (∃ c t, w = c :: t ∧ c ≠ b ∧ cutB b w = none) := by
  cases w with
  | nil => exact .inl ⟨rfl, rfl⟩
  | cons c t =>
    by_cases h : c = b
    · subst h
      exact .inr (.inl ⟨t, rfl, if_pos rfl⟩)
    · exact .inr (.inr ⟨c, t, rfl, h, if_neg h⟩)
theorem wfA_pr (w : List UInt8) : wfA (prA w) := by
  obtain ⟨⟨m, w1⟩, e1⟩ : ∃ z, idxB mdL w = z := ⟨_, rfl⟩
  obtain ⟨⟨y, w2⟩, e2⟩ : ∃ z, idxB wyL w1 = z := ⟨_, rfl⟩
  obtain ⟨⟨kd, w3⟩, e3⟩ : ∃ z, idxB ltL w2 = z := ⟨_, rfl⟩
  obtain ⟨⟨sh, w4⟩, e4⟩ : ∃ z, idxB dgL w3 = z := ⟨_, rfl⟩
  obtain ⟨w5, e5⟩ : ∃ z, (if sh = 0 then (cutB 48 w4).getD w4 else w4) = z := ⟨_, rfl⟩
  obtain ⟨⟨lg, w6⟩, e6⟩ : ∃ z, idxB dgL w5 = z := ⟨_, rfl⟩
  obtain ⟨X, e7⟩ : ∃ z, (match cutB 120 w6 with | some t => (idxB dgL t).1 | none => 0) = z := ⟨_, rfl⟩
  rw [prA_eq e1 e2 e3 e4 e5 e6 e7]
  have h1 := idx_bd mdL w (by decide)
  have h2 := idx_bd wyL w1 (by decide)
  have h3 := idx_bd ltL w2 (by decide)
  have h4 := idx_bd dgL w3 (by decide)
  have h5 := idx_bd dgL w5 (by decide)
  rw [e1] at h1
  rw [e2] at h2
  rw [e3] at h3
  rw [e4] at h4
  rw [e6] at h5
  have h6 : 0 ≤ X ∧ X ≤ 100 := by
    rcases cutB_cases 120 w6 with ⟨_, g⟩ | ⟨t, _, g⟩ | ⟨c, t, _, _, g⟩
    · rw [g] at e7
      obtain rfl : (0 : Int) = X := e7
      exact ⟨Int.le_refl _, by decide⟩
    · rw [g] at e7
      obtain rfl : (idxB dgL t).1 = X := e7
      exact idx_bd dgL t (by decide)
    · rw [g] at e7
      obtain rfl : (0 : Int) = X := e7
      exact ⟨Int.le_refl _, by decide⟩
  dsimp only at h1 h2 h3 h4 h5
  exact ⟨wf_small (n := kd) (by omega) (by omega), wf_small (n := sh) (by omega) (by omega), wf_small (n := lg) (by omega) (by omega), wf_small (n := X) (by omega) (by omega), wf_small (n := m) (by omega) (by omega), wf_small (n := y) (by omega) (by omega)⟩
theorem cut_len (s : List UInt8) : (nmP s).length ≤ s.length ∧ (rsP s).length ≤ s.length := by
  unfold nmP rsP Lib.cut
  split
  · exact ⟨by simp only [List.length_take]; omega, by simp only [List.length_drop]; omega⟩
  · exact ⟨Nat.le_refl _, Nat.zero_le _⟩
theorem pt_len (s : List UInt8) : (ptP s).length ≤ s.length + 1 ∧ ∀ x ∈ ptP s, x.length ≤ s.length := by
  have h : ptP s = splL 43 (rsP s) := spl_uniq (split_spl 43 _) (splL_spl 43 _)
  have h2 := splL_len 43 (rsP s)
  have h3 := (cut_len s).2
  rw [h]
  exact ⟨by omega, fun x hx => Nat.le_trans (h2.2 x hx) h3⟩
theorem pcutW (s : List UInt8) (W : World) (m0 : Int) (hs : s.length ≤ 100000) (hM : MX W m0) : Calls Tryd.prog 18 #[.string (bsB s), .string ⟨#[32]⟩] W fun e w' => e = .returned (.tuple #[.string (bsB (nmP s)), .string (bsB (rsP s)), .bool (Lib.cut s [32]).2.2]) ∧ Below W.heap.size W w' := by
  refine (sh_strings_Cut (bsB s) ⟨#[32]⟩ m0 W (by rw [bs_size]; omega) hM.c).mono ?_
  rintro e w' ⟨rfl, n, rfl⟩
  exact ⟨rfl, below_drewN (Below.refl _ _) n⟩
theorem psplitW (s : List UInt8) (W : World) (m0 : Int) (hs : s.length ≤ 100000) (hM : MX W m0) : Calls Tryd.prog 19 #[.string (bsB (rsP s)), .string ⟨#[43]⟩] W fun e w' => e = .returned (.slice (some ⟨W.heap.size, 0, none⟩) (ptP s).length (ptP s).length) ∧ Below W.heap.size W w' ∧ W.heap.size < w'.heap.size ∧ ∀ (k : Nat) (x : List UInt8), (ptP s)[k]? = some x → w'.cell? ⟨W.heap.size, k, none⟩ = some (.string (bsB x)) := by
  have hl := (cut_len s).2
  have hmap : (Lib.splitB ⟨#[43]⟩ 0 (Lib.countB (bsB (rsP s)) ⟨#[43]⟩) (bsB (rsP s))).map (·.data.toList) = ptP s := Lib.splitB_data ⟨#[43]⟩ 0 _ _
  have hlen : (ptP s).length = Lib.countB (bsB (rsP s)) ⟨#[43]⟩ + 1 := by
    rw [← hmap, List.length_map]
    exact Lib.splitB_all ⟨#[43]⟩ (by decide) 0 _ _ rfl
  refine (sh_strings_Split (bsB (rsP s)) ⟨#[43]⟩ m0 W (by rw [bs_size]; omega) hM.c (by decide)).mono ?_
  rintro e w' ⟨rfl, rfl⟩
  rw [hlen]
  refine ⟨rfl, (Below.refl _ _).alloc (Nat.le_refl _) _, by rw [World.size_alloc]; omega, fun k x hx => ?_⟩
  rw [cell_of_row _ _ _ _ _ _ (heap_alloc_new W _)]
  rw [← hmap, List.getElem?_map] at hx
  cases hy : (Lib.splitB ⟨#[43]⟩ 0 (Lib.countB (bsB (rsP s)) ⟨#[43]⟩) (bsB (rsP s)))[k]? with
  | none => rw [hy] at hx; cases hx
  | some y =>
    rw [hy] at hx
    obtain rfl : y.data.toList = x := Option.some.inj hx
    simp [hy, bs_of]
theorem pidx (of_ t t2 : List UInt8) (i : Int) (B N0 : Nat) (wr W : World) (hof : of_.length ≤ 100) (ht : t.length ≤ 100000) (he : idxB of_ t = (i, t2)) (hC : C1 W B (.string (bsB t))) (hb : Below N0 wr W) (hN : N0 ≤ B) (hN2 : N0 ≤ wr.heap.size) :
    Calls Tryd.prog 20 #[.pointer (some ⟨B, 0, none⟩), .string (bsB of_)] W fun e w' => e = .returned (.int .i64 i) ∧ C1 w' B (.string (bsB t2)) ∧ Below N0 wr w' ∧ Chg [B] W w' := by
  refine (pindex of_ t B W hof ht hC).mono ?_
  rintro e w' ⟨h1, h2, h3⟩
  rw [he] at h1 h2
  have := hb.size
  refine ⟨h1, h2, hb.trans (h3.below (by omega) ?_), h3⟩
  intro b hbm
  simp only [List.mem_cons, List.not_mem_nil, or_false] at hbm
  omega
/-- what may be behind the first byte -/
theorem emptyB (w : List UInt8) : ((bsB w).toList == (ByteArray.mk #[]).toList) = w.isEmpty := by
  rw [ByteArray.toList_eq, ByteArray.toList_eq]
  cases w <;> rfl
theorem emptyE (w : List UInt8) : (bsB w).toList.isEmpty = w.isEmpty := by
  rw [ByteArray.toList_eq]
  cases w <;> rfl
theorem tailB (c : UInt8) (t : List UInt8) : (bsB (c :: t)).extract 1 ((bsB (c :: t)).size) = bsB t := by
  apply ByteArray.ext
  rw [ByteArray.data_extract, bs_size]
  simp [bsB, List.extract_toArray, List.extract_eq_take_drop]
set_option maxRecDepth 100000 in
set_option maxHeartbeats 2000000 in
theorem pparse0 (s : List UInt8) (w : World) (m0 : Int) (hs : s.length ≤ 10000) (hM : MX w m0) : Calls Tryd.prog 5 #[.string (bsB s)] w fun e w' => PaR (parP s) e w w' := by
  have hRV : Hid (∀ ats, ats = atsP s → (okFy (bsB (nmP s)) ats ∧ txL (nmP s) ats = s → parP s = some (nmP s, ats)) ∧ (¬ (okFy (bsB (nmP s)) ats ∧ txL (nmP s) ats = s) → parP s = none)) := fun ats h => by
    subst h
    exact ⟨fun hh => if_pos hh, fun hh => if_neg hh⟩
  obtain ⟨hnl, hrl⟩ := cut_len s
  obtain ⟨hpl, hpm⟩ := pt_len s
  have hcut := Lib.hid (fun W hM => pcutW s W m0 (by omega) hM)
  have hspl := Lib.hid (fun W hM => psplitW s W m0 (by omega) hM)
  have hAt : Hid (atsP s = (ptP s).map prA) := rfl
  obtain ⟨fb, hfb⟩ : ∃ fb, (Lib.cut s [32]).2.2 = fb := ⟨_, rfl⟩
  rw [hfb] at hcut
  clear hfb
  generalize atsP s = AT at hAt hRV
  obtain ⟨R, hR⟩ : ∃ R, parP s = R := ⟨_, rfl⟩
  obtain ⟨nm, hnm⟩ : ∃ nm, nmP s = nm := ⟨_, rfl⟩
  obtain ⟨rest, hrest⟩ : ∃ rest, rsP s = rest := ⟨_, rfl⟩
  obtain ⟨L, hL⟩ : ∃ L, ptP s = L := ⟨_, rfl⟩
  rw [hR] at hRV ⊢
  rw [hnm] at hRV hnl hcut
  rw [hrest] at hrl hcut hspl
  rw [hL] at hpl hpm hspl hAt
  clear hR hnm hrest hL
  have hpmH := Lib.hid hpm
  clear hpm
  go_enter Tryd.func5, Tryd.ntmps5
  go_upto_region 1 with fail
  have hR0 := Lib.hid (B2.new w (.string ⟨#[]⟩) (.slice none 0 0) 25)
  have hb0 : Hid (Below w.heap.size w (w.alloc (.cells #[.string ⟨#[]⟩, .slice none 0 0] 25))) := (Below.refl _ _).alloc (Nat.le_refl _) _
  have hM0 := Lib.hid (hM.next hb0.out)
  obtain ⟨BR, hBR⟩ : ∃ BR, w.heap.size = BR := ⟨_, rfl⟩
  rw [hBR] at hR0
  simp only [hBR]
  have hBRH : Hid (w.heap.size = BR) := hBR
  clear hBR hM
  generalize w.alloc (.cells #[.string ⟨#[]⟩, .slice none 0 0] 25) = u at *
  go_wp2_with fail
  go_at_call 18
  refine (hcut.out _ hM0.out).mono ?_
  rintro e w2 ⟨rfl, hb2⟩
  replace hb2 := Lib.hid hb2
  replace hR0 := Lib.hid (hR0.out.next hb2.out)
  have hbw2 : Hid (Below w.heap.size w w2) := hb0.out.trans (hb2.out.mono hb0.out.size)
  have hM2 := Lib.hid (hM0.out.next hb2.out)
  clear hM0 hb2 hb0 hcut
  go_upto_region 3 with fail
  have hbA : Hid (Below w2.heap.size w2 (w2.alloc (.cells #[.string (bsB nm), .slice none 0 0] 25))) := (Below.refl _ _).alloc (Nat.le_refl _) _
  have hF0 := Lib.hid (B2.new w2 (.string (bsB nm)) (.slice none 0 0) 25)
  have hBRlt : Hid (BR < w2.heap.size) := hR0.out.lt
  replace hR0 := Lib.hid (hR0.out.next hbA.out)
  have hbw3 : Hid (Below w.heap.size w (w2.alloc (.cells #[.string (bsB nm), .slice none 0 0] 25))) := hbw2.out.trans (hbA.out.mono hbw2.out.size)
  have hM3 := Lib.hid (hM2.out.next hbA.out)
  obtain ⟨BF, hBF⟩ : ∃ BF, w2.heap.size = BF := ⟨_, rfl⟩
  rw [hBF] at hF0 hBRlt
  simp only [hBF]
  have hBF0 : Hid (1 ≠ BF) := by have := hM2.out.lt; show _ ≠ _; omega
  clear hbA hBF hbw2 hM2
  generalize w2.alloc (.cells #[.string (bsB nm), .slice none 0 0] 25) = w3 at *
  go_wp2_with fail
  go_at_call 19
  refine (hspl.out _ hM3.out).mono ?_
  rintro e v ⟨rfl, hb4, hg4, hrow⟩
  replace hb4 := Lib.hid hb4
  have hMv := Lib.hid (hM3.out.next hb4.out)
  have hbwv : Hid (Below w.heap.size w v) := hbw3.out.trans (hb4.out.mono hbw3.out.size)
  replace hR0 := Lib.hid (hR0.out.next hb4.out)
  have hF4 := Lib.hid (hF0.out.next hb4.out)
  obtain ⟨g, hgg⟩ : ∃ g, w3.heap.size = g := ⟨_, rfl⟩
  have hLrow : Hid (∀ (k : Nat) (x : List UInt8), L[k]? = some x → ∀ W, Chg [BF] v W → W.cell? ⟨g, k, none⟩ = some (.string (bsB x))) := fun k x hx W hW => by
    have h1 := hF0.out.lt
    have h2 := hrow k x hx
    rw [hgg] at h1 h2 hg4
    exact (hW.cell (p := ⟨g, k, none⟩) hg4 (by simp only [List.mem_cons, List.not_mem_nil, or_false]; omega)).trans h2
  have hP0 : Hid (PS v v BF nm none 0 []) := ⟨hF4.out, owns_nil, Chg.refl _ _, hF4.out.lt⟩
  have hRF : Hid (BR ≠ BF) := by have := hBRlt.out; show BR ≠ BF; omega
  have hfree : Hid (∀ W, Chg [BF] v W → B2 W BR (.string ⟨#[]⟩) (.slice none 0 0) ∧ Below w.heap.size w W ∧ MX W m0) := fun W hW => by
    have h1 := hbwv.out.size
    have h2 := hBRH.out
    have h3 := hBRlt.out
    have h4 := hM3.out.lt
    have hm : MX W m0 := by
      refine ⟨(hW.cell (p := ⟨1, 0, none⟩) hMv.out.lt ?_).trans hMv.out.c, Nat.lt_of_lt_of_le hMv.out.lt hW.size⟩
      simp only [List.mem_cons, List.not_mem_nil, or_false]
      exact hBF0.out
    exact ⟨hR0.out.chg hW (by simp only [List.mem_cons, List.not_mem_nil, or_false]; exact hRF.out), hbwv.out.trans (hW.below h1 (by intro b hb; simp only [List.mem_cons, List.not_mem_nil, or_false] at hb; omega)), hm⟩
  rw [hgg]
  clear hF0 hF4 hR0 hbw3 hb4 hrow hgg hg4 hM3 hMv hspl
  go_wp2_with fail
  go_loopw [24] (fun s24 wr => ∃ (k : Nat) (ats : List At) (A : Option Addr) (c : Nat), k ≤ L.length ∧ s24 = .int .i64 (k : Int) ∧ Hid (ats = (L.take k).map prA) ∧ Hid (PS v wr BF nm A c ats)) (fun s24 _ => L.length - (intOf s24).toNat)
  case atStart => exact ⟨0, [], none, 0, by omega, rfl, rfl, hP0⟩
  case round =>
    clear hP0
    obtain ⟨k, ats, A, c, hkL, rfl, hats, hPS⟩ := hrel
    have hk0 : (0 : Int) ≤ (k : Int) := Int.natCast_nonneg _
    have hal : ats.length = k := by rw [hats.out, List.length_map, List.length_take]; omega
    have halH := Lib.hid hal
    have hal1 : ats.length ≤ 10001 := by omega
    clear hal
    by_cases hkl : k < L.length
    rotate_left
    · obtain rfl : k = L.length := by omega
      have hfe : Hid (ats = AT) := by show _ = _; rw [hats.out, hAt.out, List.take_length]
      have hRV2 := Lib.hid (hRV.out ats hfe.out)
      have hwfH : Hid (∀ x ∈ ats, wfA x) := fun x hx => by
        rw [hats.out] at hx
        obtain ⟨y, _, rfl⟩ := List.mem_map.1 hx
        exact wfA_pr y
      have hrec := RecAt.of_own aEnc_len rfl hPS.out.own
      obtain ⟨p0, p1, pf0, pf1, _⟩ := hPS.out.box
      obtain ⟨_, _, hMr⟩ := hfree.out wr hPS.out.chg
      by_cases hok : okFy (bsB nm) ats
      rotate_left
      · have hT := Lib.hid (ptext_no (bsB nm) A ats c wr hrec hwfH.out (by omega) (by rw [bs_size]; unfold maxLen; omega) hok)
        have hRn : Hid (R = none) := hRV2.out.2 (fun h => hok h.1)
        clear hok hrec hMr
        go_upto_region 18 with (go_at_call 17; refine hT.out.mono ?_; rintro e w8 ⟨rfl, hb8⟩; replace hb8 := Lib.hid hb8)
        have hPS8 := Lib.hid (hPS.out.next hb8.out)
        have hRb : Hid (B2 w8 BR (.string ⟨#[]⟩) (.slice none 0 0)) := (hfree.out w8 hPS8.out.chg).1
        have hbb : Hid (Below w.heap.size w w8) := (hfree.out w8 hPS8.out.chg).2.1
        clear hT hPS hb8 p0 p1 pf0 pf1
        have hset : Hid (B2 ((w8.setCell ⟨BR, 0, none⟩ (.string ⟨#[]⟩)).setCell ⟨BR, 1, none⟩ (.slice none 0 0)) BR (.string ⟨#[]⟩) (.slice none 0 0)) := (hRb.out.set0 _).set1 _
        have hbz : Hid (Below w.heap.size w ((w8.setCell ⟨BR, 0, none⟩ (.string ⟨#[]⟩)).setCell ⟨BR, 1, none⟩ (.slice none 0 0))) := (hbb.out.setCell (p := ⟨BR, 0, none⟩) (by show w.heap.size ≤ BR; have := hBRH.out; omega) _).setCell (p := ⟨BR, 1, none⟩) (by show w.heap.size ≤ BR; have := hBRH.out; omega) _
        obtain ⟨r0, r1, rf0, rf1, _⟩ := hRb.out
        go_wp2_with fail
        refine bodyPost_ret (v := .tuple #[.agg #[.string ⟨#[]⟩, .slice none 0 0], .int .i64 6]) ?hres rfl ?hfin
        case hfin => exact ⟨fun _ => rfl, (fun nm l h => by rw [hRn.out] at h; cases h), hbz.out⟩
        case hres =>
          have k0 := hset.out.c0
          have k1 := hset.out.c1
          generalize ((w8.setCell ⟨BR, 0, none⟩ (.string ⟨#[]⟩)).setCell ⟨BR, 1, none⟩ (.slice none 0 0)) = wz at *
          simp [results, Tryd.results5, go_sem, k0, k1]
      have hT := Lib.hid (ptext_yes nm A ats c wr m0 hrec hok hMr)
      by_cases htx : txL nm ats = s
      rotate_left
      · have hRn : Hid (R = none) := hRV2.out.2 (fun h => htx h.2)
        have heq : ((bsB (txL nm ats)).toList == (bsB s).toList) = false := by rw [eqb_bs, decide_eq_false htx]
        generalize txL nm ats = tx at *
        clear hok hrec hMr htx
        go_upto_region 18 with (go_at_call 17; refine hT.out.mono ?_; rintro e w8 ⟨rfl, hb8⟩; replace hb8 := Lib.hid hb8)
        have hPS8 := Lib.hid (hPS.out.next hb8.out)
        have hRb : Hid (B2 w8 BR (.string ⟨#[]⟩) (.slice none 0 0)) := (hfree.out w8 hPS8.out.chg).1
        have hbb : Hid (Below w.heap.size w w8) := (hfree.out w8 hPS8.out.chg).2.1
        clear hT hPS hb8 p0 p1 pf0 pf1
        have hset : Hid (B2 ((w8.setCell ⟨BR, 0, none⟩ (.string ⟨#[]⟩)).setCell ⟨BR, 1, none⟩ (.slice none 0 0)) BR (.string ⟨#[]⟩) (.slice none 0 0)) := (hRb.out.set0 _).set1 _
        have hbz : Hid (Below w.heap.size w ((w8.setCell ⟨BR, 0, none⟩ (.string ⟨#[]⟩)).setCell ⟨BR, 1, none⟩ (.slice none 0 0))) := (hbb.out.setCell (p := ⟨BR, 0, none⟩) (by show w.heap.size ≤ BR; have := hBRH.out; omega) _).setCell (p := ⟨BR, 1, none⟩) (by show w.heap.size ≤ BR; have := hBRH.out; omega) _
        obtain ⟨r0, r1, rf0, rf1, _⟩ := hRb.out
        go_wp2_with fail
        refine bodyPost_ret (v := .tuple #[.agg #[.string ⟨#[]⟩, .slice none 0 0], .int .i64 6]) ?hres rfl ?hfin
        case hfin => exact ⟨fun _ => rfl, (fun nm l h => by rw [hRn.out] at h; cases h), hbz.out⟩
        case hres =>
          have k0 := hset.out.c0
          have k1 := hset.out.c1
          generalize ((w8.setCell ⟨BR, 0, none⟩ (.string ⟨#[]⟩)).setCell ⟨BR, 1, none⟩ (.slice none 0 0)) = wz at *
          simp [results, Tryd.results5, go_sem, k0, k1]
      have hRy : Hid (R = some (nm, ats)) := hRV2.out.1 ⟨hok, htx⟩
      have heq : ((bsB (txL nm ats)).toList == (bsB s).toList) = true := by rw [eqb_bs, decide_eq_true htx]
      generalize txL nm ats = tx at *
      clear hok hrec hMr htx
      go_upto_region 19 with (go_at_call 17; refine hT.out.mono ?_; rintro e w8 ⟨rfl, hb8⟩; replace hb8 := Lib.hid hb8)
      have hPS8 := Lib.hid (hPS.out.next hb8.out)
      have hRb : Hid (B2 w8 BR (.string ⟨#[]⟩) (.slice none 0 0)) := (hfree.out w8 hPS8.out.chg).1
      have hbb : Hid (Below w.heap.size w w8) := (hfree.out w8 hPS8.out.chg).2.1
      clear hT hPS hb8 p0 p1 pf0 pf1
      obtain ⟨p0, p1, pf0, pf1, _⟩ := hPS8.out.box
      have hset : Hid (B2 ((w8.setCell ⟨BR, 0, none⟩ (.string (bsB nm))).setCell ⟨BR, 1, none⟩ (.slice A ats.length c)) BR (.string (bsB nm)) (.slice A ats.length c)) := (hRb.out.set0 _).set1 _
      have hbz : Hid (Below w.heap.size w ((w8.setCell ⟨BR, 0, none⟩ (.string (bsB nm))).setCell ⟨BR, 1, none⟩ (.slice A ats.length c))) := (hbb.out.setCell (p := ⟨BR, 0, none⟩) (by show w.heap.size ≤ BR; have := hBRH.out; omega) _).setCell (p := ⟨BR, 1, none⟩) (by show w.heap.size ≤ BR; have := hBRH.out; omega) _
      have hrc : Hid (RecAt aEnc 6 ((w8.setCell ⟨BR, 0, none⟩ (.string (bsB nm))).setCell ⟨BR, 1, none⟩ (.slice A ats.length c)) ((w8.setCell ⟨BR, 0, none⟩ (.string (bsB nm))).setCell ⟨BR, 1, none⟩ (.slice A ats.length c)).heap.size A ats) := by
        have hne : ∀ x, (Value.slice A ats.length c).ownBlock ≠ some (⟨BR, x, none⟩ : Addr).block := fun x e => by
          have h1 := (World.ownsRow.lt hPS8.out.own BR e).1
          have h2 := hBRlt.out
          have h3 := hPS8.out.lt
          omega
        exact RecAt.of_own aEnc_len rfl (ownsRow_setCell_other (ownsRow_setCell_other hPS8.out.own (hne 0) _) (hne 1) _)
      obtain ⟨r0, r1, rf0, rf1, _⟩ := hRb.out
      go_wp2_with fail
      refine bodyPost_ret (v := .tuple #[.agg #[.string (bsB nm), .slice A ats.length c], .int .i64 0]) ?hres rfl ?hfin
      case hfin => exact ⟨(fun h => by rw [hRy.out] at h; cases h), (fun nm2 l2 h => by rw [hRy.out] at h; cases h; exact ⟨A, c, rfl, hrc.out⟩), hbz.out⟩
      case hres =>
        have k0 := hset.out.c0
        have k1 := hset.out.c1
        generalize ((w8.setCell ⟨BR, 0, none⟩ (.string (bsB nm))).setCell ⟨BR, 1, none⟩ (.slice A ats.length c)) = wz at *
        simp [results, Tryd.results5, go_sem, k0, k1]
    have hkI : (k : Int) < (L.length : Int) := by omega
    obtain ⟨wd, hx⟩ : ∃ wd, L[k]? = some wd := ⟨_, List.getElem?_eq_getElem hkl⟩
    have hwl : wd.length ≤ 10000 := by have := hpmH.out wd (List.mem_of_getElem? hx); omega
    have hcw := hLrow.out k wd hx wr hPS.out.chg
    obtain ⟨⟨m, w1⟩, e1⟩ : ∃ z, idxB mdL wd = z := ⟨_, rfl⟩
    obtain ⟨⟨y, w2'⟩, e2⟩ : ∃ z, idxB wyL w1 = z := ⟨_, rfl⟩
    obtain ⟨⟨kd, w3'⟩, e3⟩ : ∃ z, idxB ltL w2' = z := ⟨_, rfl⟩
    obtain ⟨⟨sh, w4'⟩, e4⟩ : ∃ z, idxB dgL w3' = z := ⟨_, rfl⟩
    obtain ⟨w5', e5⟩ : ∃ z, (if sh = 0 then (cutB 48 w4').getD w4' else w4') = z := ⟨_, rfl⟩
    obtain ⟨⟨lg, w6'⟩, e6⟩ : ∃ z, idxB dgL w5' = z := ⟨_, rfl⟩
    obtain ⟨X, e7⟩ : ∃ z, (match cutB 120 w6' with | some t => (idxB dgL t).1 | none => 0) = z := ⟨_, rfl⟩
    have hpr : Hid (prA wd = ⟨kd, sh, lg, X, m, y⟩) := prA_eq e1 e2 e3 e4 e5 e6 e7
    have hl1 : w1.length ≤ wd.length := by have := idx_len mdL wd; rw [e1] at this; exact this
    have hl2 : w2'.length ≤ w1.length := by have := idx_len wyL w1; rw [e2] at this; exact this
    have hl3 : w3'.length ≤ w2'.length := by have := idx_len ltL w2'; rw [e3] at this; exact this
    have hl4 : w4'.length ≤ w3'.length := by have := idx_len dgL w3'; rw [e4] at this; exact this
    have hl5 : w5'.length ≤ w4'.length := by
      rw [← e5]
      split
      · rcases cutB_cases 48 w4' with ⟨h1, h2⟩ | ⟨t, h1, h2⟩ | ⟨c, t, h1, _, h2⟩
        · rw [h2]; exact Nat.le_refl _
        · rw [h2, h1]; simp
        · rw [h2]; exact Nat.le_refl _
      · exact Nat.le_refl _
    have hl6 : w6'.length ≤ w5'.length := by have := idx_len dgL w5'; rw [e6] at this; exact this
    have hpr2 : Hid (ats ++ [(⟨kd, sh, lg, X, m, y⟩ : At)] = (L.take (k + 1)).map prA) := by
      show _ = _
      rw [take_step hx, List.map_append, ← hats.out, ← hpr.out]; rfl
    replace e1 := Lib.hid e1
    replace e2 := Lib.hid e2
    replace e3 := Lib.hid e3
    replace e4 := Lib.hid e4
    replace e5 := Lib.hid e5
    replace e6 := Lib.hid e6
    replace e7 := Lib.hid e7
    have hwl1 : Hid (w1.length ≤ 100000 ∧ w2'.length ≤ 100000 ∧ w3'.length ≤ 100000 ∧ w4'.length ≤ 100000 ∧ w5'.length ≤ 100000 ∧ w6'.length ≤ 100000 ∧ wd.length ≤ 100000) := by
      show _ ∧ _
      omega
    clear hx hl1 hl2 hl3 hl4 hl5 hl6 hpr hats
    have hC0 := Lib.hid (C1.new wr (.string (bsB wd)) 9)
    have hB0 : Hid (Below wr.heap.size wr (wr.alloc (.cells #[.string (bsB wd)] 9))) := (Below.refl _ _).alloc (Nat.le_refl _) _
    go_upto_region 6 with fail
    obtain ⟨B9, hB9⟩ : ∃ B9, wr.heap.size = B9 := ⟨_, rfl⟩
    rw [hB9] at hC0
    simp only [hB9]
    have hN : Hid (wr.heap.size = B9) := hB9
    clear hB9 hcw
    generalize wr.alloc (.cells #[.string (bsB wd)] 9) = wq at *
    go_wp2_with fail
    go_at_call 20
    refine (pidx [32, 109, 99] wd w1 m B9 wr.heap.size wr _ (by decide) hwl1.out.2.2.2.2.2.2 e1.out hC0.out hB0.out (by rw [hN.out]; omega) (Nat.le_refl _)).mono ?_
    rintro e wA ⟨rfl, hCA, hBA, _⟩
    replace hCA := Lib.hid hCA
    replace hBA := Lib.hid hBA
    clear hC0 hB0
    go_wp2_with fail
    go_at_call 20
    refine (pidx [32, 102, 98] w1 w2' y B9 wr.heap.size wr _ (by decide) hwl1.out.1 e2.out hCA.out hBA.out (by rw [hN.out]; omega) (Nat.le_refl _)).mono ?_
    rintro e wB ⟨rfl, hCB, hBB, _⟩
    replace hCB := Lib.hid hCB
    replace hBB := Lib.hid hBB
    clear hCA hBA
    go_wp2_with fail
    go_at_call 20
    refine (pidx [32, 76, 82, 72, 74, 88] w2' w3' kd B9 wr.heap.size wr _ (by decide) hwl1.out.2.1 e3.out hCB.out hBB.out (by rw [hN.out]; omega) (Nat.le_refl _)).mono ?_
    rintro e wC ⟨rfl, hCC, hBC, _⟩
    replace hCC := Lib.hid hCC
    replace hBC := Lib.hid hBC
    clear hCB hBB
    have hK0 := Lib.hid (K6.new wC kd 0 0 0 m y)
    have hbC : Below wC.heap.size wC (wC.alloc (.cells #[.int .i64 kd, .int .i64 0, .int .i64 0, .int .i64 0, .int .i64 m, .int .i64 y] 40)) := (Below.refl _ _).alloc (Nat.le_refl _) _
    have hC1 := Lib.hid (hCC.out.next hbC)
    have hB1 : Hid (Below wr.heap.size wr (wC.alloc (.cells #[.int .i64 kd, .int .i64 0, .int .i64 0, .int .i64 0, .int .i64 m, .int .i64 y] 40))) := hBC.out.trans (hbC.mono hBC.out.size)
    have hN10 : Hid (B9 < wC.heap.size) := hCC.out.lt
    clear hbC hCC hBC
    go_upto_region 7 with fail
    obtain ⟨B10, hB10⟩ : ∃ B10, wC.heap.size = B10 := ⟨_, rfl⟩
    rw [hB10] at hK0 hN10
    simp only [hB10]
    clear hB10
    generalize wC.alloc (.cells #[.int .i64 kd, .int .i64 0, .int .i64 0, .int .i64 0, .int .i64 m, .int .i64 y] 40) = wE at *
    have hn910 : Hid (B9 ≠ B10) := by have := hN10.out; show B9 ≠ B10; omega
    have hn109 : Hid (B10 ∉ [B9]) := by have := hN10.out; show B10 ∉ [B9]; simp only [List.mem_cons, List.not_mem_nil, or_false]; omega
    go_wp2_with fail
    go_at_call 20
    refine (pidx [32, 49, 50, 51, 52, 53, 54, 55] w3' w4' sh B9 wr.heap.size wr _ (by decide) hwl1.out.2.2.1 e4.out hC1.out hB1.out (by rw [hN.out]; omega) (Nat.le_refl _)).mono ?_
    rintro e wF ⟨rfl, hCF, hBF2, hch⟩
    have hKF := Lib.hid (hK0.out.chg hch hn109.out)
    replace hCF := Lib.hid hCF
    replace hBF2 := Lib.hid hBF2
    clear hC1 hB1 hK0 hch
    have hKG := Lib.hid ((hKF.out.set1 sh).set2 0)
    have hCG := Lib.hid ((hCF.out.other hn910.out 1 (.int .i64 sh)).other hn910.out 2 (.int .i64 0))
    have hBG : Hid (Below wr.heap.size wr ((wF.setCell ⟨B10, 1, none⟩ (.int .i64 sh)).setCell ⟨B10, 2, none⟩ (.int .i64 0))) := (hBF2.out.setCell (p := ⟨B10, 1, none⟩) (by show wr.heap.size ≤ B10; have := hN.out; have := hN10.out; omega) _).setCell (p := ⟨B10, 2, none⟩) (by show wr.heap.size ≤ B10; have := hN.out; have := hN10.out; omega) _
    obtain ⟨k0, k1, k2, k3, k4, k5, kf, _⟩ := hKF.out
    have kf1 := kf 1
    have kf2 := kf 2
    clear kf
    go_upto_region 8 with fail
    clear k0 k1 k2 k3 k4 k5 kf1 kf2 hKF hCF hBF2
    generalize ((wF.setCell ⟨B10, 1, none⟩ (.int .i64 sh)).setCell ⟨B10, 2, none⟩ (.int .i64 0)) = wG at *
    have hT5 : Hid (∃ T : Bool, (T = true ∧ sh = 0 ∧ w4' = 48 :: w5') ∨ (T = false ∧ w5' = w4' ∧ (sh ≠ 0 ∨ sh = 0 ∧ w4' = [] ∨ sh = 0 ∧ ∃ c t, w4' = c :: t ∧ c ≠ 48))) := by
      show ∃ T : Bool, _
      have e5' := e5.out
      by_cases h0 : sh = 0
      · rw [if_pos h0] at e5'
        rcases cutB_cases 48 w4' with ⟨h1, h2⟩ | ⟨t, h1, h2⟩ | ⟨c, t, h1, h3, h2⟩
        · rw [h2] at e5'
          exact ⟨false, .inr ⟨rfl, e5'.symm, .inr (.inl ⟨h0, h1⟩)⟩⟩
        · rw [h2] at e5'
          obtain rfl : t = w5' := e5'
          exact ⟨true, .inl ⟨rfl, h0, h1⟩⟩
        · rw [h2] at e5'
          exact ⟨false, .inr ⟨rfl, e5'.symm, .inr (.inr ⟨h0, c, t, h1, h3⟩)⟩⟩
      · rw [if_neg h0] at e5'
        exact ⟨false, .inr ⟨rfl, e5'.symm, .inl h0⟩⟩
    obtain ⟨T5, hT5⟩ := hT5.out
    replace hT5 := Lib.hid hT5
    obtain ⟨cG, fG, _⟩ := hCG.out
    obtain ⟨k0, k1, k2, k3, k4, k5, kf, _⟩ := hKG.out
    clear kf
    go_cut [46] from 25 to 68 (fun s46 wc => s46 = .bool T5 ∧ wc = wG)
    case first =>
      rcases hT5.out with ⟨rfl, h1, h2⟩ | ⟨rfl, _, h1⟩
      · have q1 : (sh == 0) = true := by rw [beq_iff_eq]; exact h1
        subst h2
        have q2 : ((bsB (48 :: w5')).toList == (ByteArray.mk #[]).toList) = false := emptyB _
        have q3 : (bsB (48 :: w5')).toList.isEmpty = false := emptyE _
        have hi0 : ∀ (h : 0 < (bsB (48 :: w5')).size), (bsB (48 :: w5'))[0]'h = 48 := fun h => rfl
        have hsz := bs_size (48 :: w5')
        have e48 : (((48 : UInt8).toNat : Nat) : Int) = 48 := rfl
        clear h1
        go_wp2_with fail
        go_meet
        exact ⟨rfl, rfl⟩
      rcases h1 with h1 | ⟨h1, h2⟩ | ⟨h1, c', t', h2, h3⟩
      · have q1 : (sh == 0) = false := by rw [beq_eq_false_iff_ne]; exact h1
        clear h1
        go_wp2_with fail
        go_meet
        exact ⟨rfl, rfl⟩
      · have q1 : (sh == 0) = true := by rw [beq_iff_eq]; exact h1
        subst h2
        have q2 : ((bsB []).toList == (ByteArray.mk #[]).toList) = true := emptyB _
        have q3 : (bsB []).toList.isEmpty = true := emptyE _
        clear h1
        go_wp2_with fail
        go_meet
        exact ⟨rfl, rfl⟩
      · have q1 : (sh == 0) = true := by rw [beq_iff_eq]; exact h1
        subst h2
        have q2 : ((bsB (c' :: t')).toList == (ByteArray.mk #[]).toList) = false := emptyB _
        have q3 : (bsB (c' :: t')).toList.isEmpty = false := emptyE _
        have hi0 : ∀ (h : 0 < (bsB (c' :: t')).size), (bsB (c' :: t'))[0]'h = c' := fun h => rfl
        have hsz := bs_size (c' :: t')
        have q4 : ((c'.toNat : Int) == 48) = false := by
          rw [beq_eq_false_iff_ne]
          intro h
          exact h3 (UInt8.toNat_inj.1 (by show c'.toNat = 48; omega))
        clear h1 h3
        go_wp2_with fail
        go_meet
        exact ⟨rfl, rfl⟩
    case rest =>
    obtain ⟨rfl, rfl⟩ := hcut
    go_upto_if 46 with fail
    go_cut [] from 25 to 68 (fun wc => Hid (C1 wc B9 (.string (bsB w5'))) ∧ Hid (K6 wc B10 kd sh 0 0 m y) ∧ Hid (Below wr.heap.size wr wc))
    case first =>
      rcases hT5.out with ⟨rfl, h1, h2⟩ | ⟨rfl, h2, h1⟩
      · subst h2
        have hext := tailB 48 w5'
        have hsz := bs_size (48 :: w5')
        have hext2 : (bsB (48 :: w5')).extract 1 (w5'.length + 1) = bsB w5' := by rw [hsz] at hext; exact hext
        have r1 := Lib.hid (hCG.out.set (.string (bsB w5')))
        have r2 := Lib.hid (hKG.out.other hn910.out.symm (.string (bsB w5')))
        have r3 : Hid (Below wr.heap.size wr (wc.setCell ⟨B9, 0, none⟩ (.string (bsB w5')))) := hBG.out.setCell (p := ⟨B9, 0, none⟩) (by show wr.heap.size ≤ B9; have := hN.out; omega) _
        clear h1 hext
        go_wp2_with fail
        go_meet
        exact ⟨r1, r2, r3⟩
      · have r1 : Hid (C1 wc B9 (.string (bsB w5'))) := by show C1 wc B9 _; rw [h2]; exact hCG.out
        clear h1 h2
        go_wp2_with fail
        go_meet
        exact ⟨r1, hKG, hBG⟩
    case rest =>
    clear hCG hKG hBG cG fG k0 k1 k2 k3 k4 k5 hT5
    obtain ⟨hCH, hKH, hBH⟩ := hcut
    go_wp2_with fail
    go_at_call 20
    refine (pidx [32, 49, 50, 51, 52, 53, 54, 55] w5' w6' lg B9 wr.heap.size wr _ (by decide) hwl1.out.2.2.2.2.1 e6.out hCH.out hBH.out (by rw [hN.out]; omega) (Nat.le_refl _)).mono ?_
    rintro e wI ⟨rfl, hCI, hBI, hch⟩
    have hKI := Lib.hid (hKH.out.chg hch hn109.out)
    replace hCI := Lib.hid hCI
    replace hBI := Lib.hid hBI
    clear hCH hKH hBH hch
    have hKJ := Lib.hid (hKI.out.set2 lg)
    have hCJ := Lib.hid (hCI.out.other hn910.out 2 (.int .i64 lg))
    have hBJ : Hid (Below wr.heap.size wr (wI.setCell ⟨B10, 2, none⟩ (.int .i64 lg))) := hBI.out.setCell (p := ⟨B10, 2, none⟩) (by show wr.heap.size ≤ B10; have := hN.out; have := hN10.out; omega) _
    obtain ⟨k0, k1, k2, k3, k4, k5, kf, _⟩ := hKI.out
    have kf2 := kf 2
    clear kf
    go_upto_region 11 with fail
    clear k0 k1 k2 k3 k4 k5 kf2 hKI hCI hBI
    generalize wI.setCell ⟨B10, 2, none⟩ (.int .i64 lg) = wJ at *
    have hT7 : Hid (∃ T : Bool, (T = true ∧ ∃ t, w6' = 120 :: t ∧ (idxB dgL t).1 = X) ∨ (T = false ∧ X = 0 ∧ (w6' = [] ∨ ∃ c t, w6' = c :: t ∧ c ≠ 120))) := by
      show ∃ T : Bool, _
      have e7' := e7.out
      rcases cutB_cases 120 w6' with ⟨h1, h2⟩ | ⟨t, h1, h2⟩ | ⟨c, t, h1, h3, h2⟩
      · rw [h2] at e7'
        exact ⟨false, .inr ⟨rfl, e7'.symm, .inl h1⟩⟩
      · rw [h2] at e7'
        exact ⟨true, .inl ⟨rfl, t, h1, e7'⟩⟩
      · rw [h2] at e7'
        exact ⟨false, .inr ⟨rfl, e7'.symm, .inr ⟨c, t, h1, h3⟩⟩⟩
    obtain ⟨T7, hT7⟩ := hT7.out
    replace hT7 := Lib.hid hT7
    obtain ⟨cG, fG, _⟩ := hCJ.out
    go_cut [57] from 25 to 68 (fun s57 wc => s57 = .bool T7 ∧ wc = wJ)
    case first =>
      rcases hT7.out with ⟨rfl, t7, h1, _⟩ | ⟨rfl, _, h1⟩
      · subst h1
        have q2 : ((bsB (120 :: t7)).toList == (ByteArray.mk #[]).toList) = false := emptyB _
        have q3 : (bsB (120 :: t7)).toList.isEmpty = false := emptyE _
        have hi0 : ∀ (h : 0 < (bsB (120 :: t7)).size), (bsB (120 :: t7))[0]'h = 120 := fun h => rfl
        have hsz := bs_size (120 :: t7)
        have e120 : (((120 : UInt8).toNat : Nat) : Int) = 120 := rfl
        go_wp2_with fail
        go_meet
        exact ⟨rfl, rfl⟩
      rcases h1 with h1 | ⟨c', t', h2, h3⟩
      · subst h1
        have q2 : ((bsB []).toList == (ByteArray.mk #[]).toList) = true := emptyB _
        have q3 : (bsB []).toList.isEmpty = true := emptyE _
        go_wp2_with fail
        go_meet
        exact ⟨rfl, rfl⟩
      · subst h2
        have q2 : ((bsB (c' :: t')).toList == (ByteArray.mk #[]).toList) = false := emptyB _
        have q3 : (bsB (c' :: t')).toList.isEmpty = false := emptyE _
        have hi0 : ∀ (h : 0 < (bsB (c' :: t')).size), (bsB (c' :: t'))[0]'h = c' := fun h => rfl
        have hsz := bs_size (c' :: t')
        have q4 : ((c'.toNat : Int) == 120) = false := by
          rw [beq_eq_false_iff_ne]
          intro h
          exact h3 (UInt8.toNat_inj.1 (by show c'.toNat = 120; omega))
        clear h3
        go_wp2_with fail
        go_meet
        exact ⟨rfl, rfl⟩
    case rest =>
    obtain ⟨rfl, rfl⟩ := hcut
    go_upto_if 57 with fail
    go_cut [] from 25 to 68 (fun wc => Hid (K6 wc B10 kd sh lg X m y) ∧ Hid (Below wr.heap.size wr wc))
    case first =>
      rcases hT7.out with ⟨rfl, t7, h1, h2⟩ | ⟨rfl, h2, _⟩
      · subst h1
        obtain ⟨⟨X', t8⟩, e8⟩ : ∃ z, idxB dgL t7 = z := ⟨_, rfl⟩
        obtain rfl : X' = X := by rw [e8] at h2; exact h2
        replace e8 := Lib.hid e8
        have hext := tailB 120 t7
        have hsz := bs_size (120 :: t7)
        have hext2 : (bsB (120 :: t7)).extract 1 (t7.length + 1) = bsB t7 := by rw [hsz] at hext; exact hext
        have ht7 : Hid (t7.length ≤ 100000) := by have := hwl1.out.2.2.2.2.2.1; show t7.length ≤ 100000; simp only [List.length_cons] at this; omega
        have r1 := Lib.hid (hCJ.out.set (.string (bsB t7)))
        have r2 := Lib.hid (hKJ.out.other hn910.out.symm (.string (bsB t7)))
        have r3 : Hid (Below wr.heap.size wr (wc.setCell ⟨B9, 0, none⟩ (.string (bsB t7)))) := hBJ.out.setCell (p := ⟨B9, 0, none⟩) (by show wr.heap.size ≤ B9; have := hN.out; omega) _
        clear h2 hext
        go_upto_region 13 with fail
        clear hCJ hKJ hBJ cG fG hT7
        generalize wc.setCell ⟨B9, 0, none⟩ (.string (bsB t7)) = wK at *
        go_wp2_with fail
        go_at_call 20
        refine (pidx [32, 49, 50, 51, 52, 53, 54, 55] t7 t8 X' B9 wr.heap.size wr _ (by decide) ht7.out e8.out r1.out r3.out (by rw [hN.out]; omega) (Nat.le_refl _)).mono ?_
        rintro e wL ⟨rfl, _, hBL, hch⟩
        have hKL := Lib.hid (r2.out.chg hch hn109.out)
        replace hBL := Lib.hid hBL
        have s1 := Lib.hid (hKL.out.set3 X')
        have s2 : Hid (Below wr.heap.size wr (wL.setCell ⟨B10, 3, none⟩ (.int .i64 X'))) := hBL.out.setCell (p := ⟨B10, 3, none⟩) (by show wr.heap.size ≤ B10; have := hN.out; have := hN10.out; omega) _
        obtain ⟨k0, k1, k2, k3, k4, k5, kf, _⟩ := hKL.out
        have kf3 := kf 3
        clear kf hch r1 r2 r3
        go_wp2_with fail
        go_meet
        exact ⟨s1, s2⟩
      · subst h2
        go_wp2_with fail
        go_meet
        exact ⟨hKJ, hBJ⟩
    case rest =>
    obtain ⟨hKL, hBL⟩ := hcut
    clear hCJ hKJ hBJ cG fG hT7 e1 e2 e3 e4 e5 e6 e7 hwl1
    have hPL := Lib.hid (hPS.out.next hBL.out)
    have hPLa : Hid (PS v (wc.alloc (.cells #[.int .i64 kd, .int .i64 sh, .int .i64 lg, .int .i64 X, .int .i64 m, .int .i64 y] 40)) BF nm A c ats) := hPL.out.next ((Below.refl _ _).alloc (Nat.le_refl _) _)
    obtain ⟨EN, hEN⟩ : ∃ EN, ats ++ [(⟨kd, sh, lg, X, m, y⟩ : At)] = EN := ⟨_, rfl⟩
    have hENH := Lib.hid hEN
    have hENp : Hid (EN = (L.take (k + 1)).map prA) := hEN ▸ hpr2.out
    clear hEN hpr2
    obtain ⟨k0, k1, k2, k3, k4, k5, _⟩ := hKL.out
    obtain ⟨p0, p1, pf0, pf1, _⟩ := hPL.out.box
    go_wp2_with (at_builtin; refine wpList_append_recs atomRow aEnc_len aEnc_one rfl _ _ rfl v.heap.size A c ats rfl hPLa.out.own _ 1 [⟨kd, sh, lg, X, m, y⟩] rfl (recs_at wc ⟨kd, sh, lg, X, m, y⟩ _) (by simp; omega) hPLa.out.chg.size ?_; intro A5 c5 w6 hown hg _; rw [hENH.out] at hown ⊢; obtain ⟨hbx6, hch6, hps6⟩ := hPLa.out.done hown hg; replace hps6 := Lib.hid hps6; obtain ⟨z0, z1, zf0, zf1, _⟩ := hbx6; clear hown hg hch6)
    go_roundw
    case rel => exact ⟨k + 1, EN, A5, c5, by omega, by go_num, hENp, hps6⟩
    case measure => simp [intOf]; omega
theorem pparse (s : List UInt8) (w : World) (m0 : Int) (hs : s.length ≤ 10000) (hM : MX w m0) : Calls Tryd.prog 5 #[.string (bsB s)] w fun e w' => PaR (parR s) e w w' := parP_parR s ▸ pparse0 s w m0 hs hM
end Go.Proofs.YtbcdimklblpdnaaDoor
