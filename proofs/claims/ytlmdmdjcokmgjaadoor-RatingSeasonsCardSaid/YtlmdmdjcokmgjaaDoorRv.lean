/- Layer 45: lists of numbers and of encounters; a list of lists of games in memory. -/
import Derived.Test.YtlmdmdjcokmgjaaDoorO1
import Derived.Test.YtlmdmdjcokmgjaaDoorRn
namespace Go.Proofs.YtlmdmdjcokmgjaaDoor
open Go.RowKit
set_option linter.unusedSimpArgs false
set_option linter.unusedVariables false

def iEnc (x : Int) : List Value := [.int .i64 x]
theorem iEnc_len (x : Int) : (iEnc x).length = 1 := rfl
theorem iEnc_one (x : Int) : ∀ u ∈ iEnc x, u.oneCell' = true := by
  intro u hu
  simp only [iEnc, List.mem_cons, List.not_mem_nil, or_false] at hu
  subst hu; rfl
theorem intRow : RowOf Tryd.prog 40 3 1 8 :=
  RowOf.mk' (z := .int .i64 0) Tryd.underlying40 (by kernel_rfl) (by decide) (by decide) rfl
abbrev En := Int × Int × Int
def eEnc (g : En) : List Value := [.int .i64 g.1, .int .i64 g.2.1, .int .i64 g.2.2]
theorem eEnc_len (g : En) : (eEnc g).length = 3 := rfl
theorem eEnc_one (g : En) : ∀ u ∈ eEnc g, u.oneCell' = true := by
  intro u hu
  simp only [eEnc, List.mem_cons, List.not_mem_nil, or_false] at hu
  rcases hu with rfl | rfl | rfl <;> rfl
theorem encRow : RowOf Tryd.prog 41 43 3 24 :=
  RowOf.mk' (z := .agg #[.int .i64 0, .int .i64 0, .int .i64 0]) Tryd.underlying41 (by kernel_rfl) (by decide) (by decide) rfl
/-- the number at an index -/
def atI (R : List Int) (a : Int) : Int := R.getD a.toNat 0
theorem atI_get {R : List Int} {k : Nat} (h : k < R.length) : R[k]? = some (atI R k) := by
  unfold atI
  rw [Int.toNat_natCast, List.getD_eq_getElem?_getD, List.getElem?_eq_getElem h]; rfl
/-- the games that an encounter gives to a player -/
def gm (R : List Int) (i : Nat) (x : En) : List (Int × Int) := (if x.1 = i then [(atI R x.2.1, x.2.2)] else []) ++ (if x.2.1 = i then [(atI R x.1, 2 - x.2.2)] else [])
def gms (R : List Int) (E : List En) (i : Nat) : List (Int × Int) := E.flatMap (gm R i)
def okX (n : Nat) (x : En) : Bool := decide (0 ≤ x.1 ∧ x.1 < n ∧ 0 ≤ x.2.1 ∧ x.2.1 < n ∧ x.1 ≠ x.2.1 ∧ 0 ≤ x.2.2 ∧ x.2.2 ≤ 2)
def okRF (r f : Int) : Bool := decide (0 ≤ r ∧ r ≤ 4000 ∧ 1 ≤ f ∧ f ≤ 60)
def rfB (R F : List Int) (k : Nat) : Bool := (List.range k).all fun (i : Nat) => okRF (atI R i) (atI F i)
def allB (R F : List Int) (E : List En) : Bool := decide (R.length = F.length) && (rfB R F R.length && E.all (okX R.length))
def fulB (R : List Int) (E : List En) (k : Nat) : Bool := (List.range k).any fun i => decide (200 < (gms R E i).length)
def outL (R F : List Int) (E : List En) (k : Nat) : List Int := (List.range k).map fun (i : Nat) => nextV (atI R i) (atI F i) (gms R E i)
theorem rfB_succ (R F : List Int) (k : Nat) : rfB R F (k + 1) = (rfB R F k && okRF (atI R k) (atI F k)) := by unfold rfB; rw [List.range_succ, List.all_append]; simp
theorem rfB_out {R F : List Int} {k i : Nat} (h : rfB R F k = true) (hi : i < k) : okRF (atI R i) (atI F i) = true := List.all_eq_true.1 h i (List.mem_range.2 hi)
theorem rfB_no {R F : List Int} {k i : Nat} (hi : i < k) (h : okRF (atI R i) (atI F i) = false) : rfB R F k = false := by
  cases hb : rfB R F k with
  | false => rfl
  | true => rw [rfB_out hb hi] at h; cases h
theorem fulB_no {R : List Int} {E : List En} {k i : Nat} (h : fulB R E k = false) (hi : i < k) : (gms R E i).length ≤ 200 := by
  have h2 := List.any_eq_false.1 h i (List.mem_range.2 hi)
  simp only [decide_eq_true_eq] at h2
  omega
theorem fulB_yes {R : List Int} {E : List En} {k i : Nat} (hi : i < k) (h : 200 < (gms R E i).length) : fulB R E k = true :=
  List.any_eq_true.2 ⟨i, List.mem_range.2 hi, decide_eq_true h⟩
theorem outL_succ (R F : List Int) (E : List En) (k : Nat) : outL R F E (k + 1) = outL R F E k ++ [nextV (atI R k) (atI F k) (gms R E k)] := by unfold outL; rw [List.range_succ, List.map_append]; rfl
theorem outL_length (R F : List Int) (E : List En) (k : Nat) : (outL R F E k).length = k := by simp [outL]
theorem gms_succ {R : List Int} {E : List En} {k : Nat} {x : En} (h : E[k]? = some x) (i : Nat) : gms R (E.take (k + 1)) i = gms R (E.take k) i ++ gm R i x := by
  unfold gms
  rw [List.take_add_one, h, List.flatMap_append]
  simp
theorem gm_a {R : List Int} {x : En} {a : Nat} (h1 : x.1 = (a : Int)) (h2 : x.2.1 ≠ (a : Int)) : gm R a x = [(atI R x.2.1, x.2.2)] := by unfold gm; rw [if_pos h1, if_neg h2]; rfl
theorem gm_b {R : List Int} {x : En} {a : Nat} (h1 : x.1 ≠ (a : Int)) (h2 : x.2.1 = (a : Int)) : gm R a x = [(atI R x.1, 2 - x.2.2)] := by unfold gm; rw [if_neg h1, if_pos h2]; rfl
theorem gm_0 {R : List Int} {x : En} {a : Nat} (h1 : x.1 ≠ (a : Int)) (h2 : x.2.1 ≠ (a : Int)) : gm R a x = [] := by unfold gm; rw [if_neg h1, if_neg h2]; rfl
theorem gm_len (R : List Int) (i : Nat) (x : En) : (gm R i x).length ≤ 2 := by
  unfold gm
  rw [List.length_append]
  have h1 : (if x.1 = (i : Int) then [(atI R x.2.1, x.2.2)] else []).length ≤ 1 := by split <;> simp
  have h2 : (if x.2.1 = (i : Int) then [(atI R x.1, 2 - x.2.2)] else []).length ≤ 1 := by split <;> simp
  omega
theorem gms_len (R : List Int) (i : Nat) : ∀ E : List En, (gms R E i).length ≤ 2 * E.length
  | [] => by simp [gms]
  | x :: E => by
    have h1 := gm_len R i x
    have h2 := gms_len R i E
    have h3 : gms R (x :: E) i = gm R i x ++ gms R E i := by simp [gms]
    rw [h3, List.length_append, List.length_cons]
    omega
theorem allB_out {R F : List Int} {E : List En} (h : allB R F E = true) : R.length = F.length ∧ rfB R F R.length = true ∧ E.all (okX R.length) = true := by
  unfold allB at h
  rw [Bool.and_eq_true, Bool.and_eq_true] at h
  exact ⟨of_decide_eq_true h.1, h.2.1, h.2.2⟩
theorem allB_in {R F : List Int} {E : List En} (h1 : R.length = F.length) (h2 : rfB R F R.length = true) (h3 : E.all (okX R.length) = true) : allB R F E = true := by
  unfold allB
  rw [h2, h3, decide_eq_true h1]; rfl
theorem allB_1 {R F : List Int} {E : List En} (h : R.length ≠ F.length) : allB R F E = false := by unfold allB; rw [decide_eq_false h]; rfl
theorem allB_2 {R F : List Int} {E : List En} (h : rfB R F R.length = false) : allB R F E = false := by unfold allB; rw [h]; simp
theorem allB_3 {R F : List Int} {E : List En} {x : En} (hx : x ∈ E) (h : okX R.length x = false) : allB R F E = false := by
  have : E.all (okX R.length) = false := by
    rw [List.all_eq_false]
    exact ⟨x, hx, by rw [h]; exact Bool.false_ne_true⟩
  unfold allB; rw [this]; simp
theorem okRF_out {r f : Int} (h : okRF r f = true) : 0 ≤ r ∧ r ≤ 4000 ∧ 1 ≤ f ∧ f ≤ 60 := of_decide_eq_true h
theorem okX_out {n : Nat} {x : En} (h : okX n x = true) : 0 ≤ x.1 ∧ x.1 < n ∧ 0 ≤ x.2.1 ∧ x.2.1 < n ∧ x.1 ≠ x.2.1 ∧ 0 ≤ x.2.2 ∧ x.2.2 ≤ 2 := of_decide_eq_true h
/-- the games of valid encounters are valid -/
theorem gms_ok {R F : List Int} {E : List En} (h : allB R F E = true) (i : Nat) : ∀ g ∈ gms R E i, okG g := by
  obtain ⟨h1, h2, h3⟩ := allB_out h
  intro g hg
  unfold gms at hg
  obtain ⟨x, hx, hg⟩ := List.mem_flatMap.1 hg
  obtain ⟨x0, x1, y0, y1, hne, p0, p1⟩ := okX_out (List.all_eq_true.1 h3 x hx)
  have hat : ∀ a : Int, 0 ≤ a → a < R.length → 0 ≤ atI R a ∧ atI R a ≤ 4000 := fun a a0 a1 => by
    obtain ⟨k, rfl⟩ := Int.eq_ofNat_of_zero_le a0
    have := okRF_out (rfB_out (i := k) h2 (by omega))
    exact ⟨this.1, this.2.1⟩
  unfold gm at hg
  rcases List.mem_append.1 hg with hg | hg
  · split at hg
    · obtain rfl := List.mem_singleton.1 hg
      have := hat _ y0 y1
      exact ⟨this.1, this.2, p0, p1⟩
    · simp at hg
  · split at hg
    · obtain rfl := List.mem_singleton.1 hg
      have := hat _ x0 x1
      exact ⟨this.1, this.2, by show 0 ≤ 2 - _; omega, by show 2 - _ ≤ 2; omega⟩
    · simp at hg
theorem gms_vld {R F : List Int} {E : List En} (h : allB R F E = true) (i : Nat) (hl : (gms R E i).length ≤ 200) : vldG (gms R E i) = true := by
  rw [vldG_all fun k hk => gms_ok h i _ (by
    have := gameAt_get hk
    exact List.mem_of_getElem? this)]
  exact decide_eq_true hl
/-- a function changed at one place -/
def upd {α : Type} (f : Nat → α) (i : Nat) (x : α) : Nat → α := fun j => if j = i then x else f j
theorem upd_same {α : Type} (f : Nat → α) (i : Nat) (x : α) : upd f i x i = x := if_pos rfl
theorem upd_other {α : Type} (f : Nat → α) {i j : Nat} (x : α) (h : j ≠ i) : upd f i x j = f j := if_neg h
/-- a list of lists: block G holds the rows, each one of the call's own, all apart -/
structure Fam (w0 w : World) (b0 G base n : Nat) (gs : Nat → List (Int × Int)) (A : Nat → Option Addr) (c : Nat → Nat) : Prop where
  cell : ∀ i, i < n → w.cell? ⟨G, i, none⟩ = some (.slice (A i) (gs i).length (c i))
  fr : ∀ i : Nat, w.frozen? ⟨G, i, none⟩ = false
  own : ∀ i, i < n → Own1 gEnc 2 base 31 w (A i) (c i) (gs i)
  apart : ∀ i j, i < n → j < n → i ≠ j → ApartA (A i) (A j)
  lt : b0 ≤ G ∧ G < base ∧ base ≤ w.heap.size
  below : Below b0 w0 w
section
variable {w0 w w' : World} {b0 G base n : Nat} {gs gs' : Nat → List (Int × Int)} {A : Nat → Option Addr} {c : Nat → Nat} {i : Nat} {A' : Option Addr} {c' : Nat} {l' : List (Int × Int)}
theorem Fam.next (h : Fam w0 w b0 G base n gs A c) (hb : Below w.heap.size w w') : Fam w0 w' b0 G base n gs A c := by
  obtain ⟨l1, l2, l3⟩ := h.lt
  exact ⟨fun i hi => (hb.cell (p := ⟨G, i, none⟩) (by show G < _; omega)).trans (h.cell i hi), fun i => (hb.frozen (p := ⟨G, i, none⟩) (by show G < _; omega)).trans (h.fr i),
    fun i hi => World.ownsRow.kept (h.own i hi) (grown_of_below hb) (by cases hv : (Value.slice (A i) (gs i).length (c i)).ownBlock <;> simp), h.apart, ⟨l1, l2, Nat.le_trans l3 hb.size⟩, h.below.trans (hb.mono (by omega))⟩
theorem Fam.alloc (h : Fam w0 w b0 G base n gs A c) (o : Obj) : Fam w0 (w.alloc o) b0 G base n gs A c := h.next ((Below.refl _ _).alloc (Nat.le_refl _) o)
theorem Fam.drew (h : Fam w0 w b0 G base n gs A c) : Fam w0 w.drew b0 G base n gs A c := ⟨h.cell, h.fr, h.own, h.apart, h.lt, h.below.drew⟩
theorem Fam.congr (h : Fam w0 w b0 G base n gs A c) (e : ∀ i, i < n → gs i = gs' i) : Fam w0 w b0 G base n gs' A c :=
  ⟨fun i hi => by rw [← e i hi]; exact h.cell i hi, h.fr, fun i hi => by rw [← e i hi]; exact h.own i hi, h.apart, h.lt, h.below⟩
theorem Fam.app (h : Fam w0 w b0 G base n gs A c) (hi : i < n) (hown : w'.ownsRow base 31 2 (.slice A' l'.length c') l'.length (flatR gEnc l')) (hg : w.grownBy w' (Value.slice (A i) (gs i).length (c i)).ownBlock)
    (hat : (Value.slice A' l'.length c').ownBlock = (Value.slice (A i) (gs i).length (c i)).ownBlock ∨ (Value.slice A' l'.length c').ownBlock = some w.heap.size) :
    Fam w0 (w'.setCell ⟨G, i, none⟩ (.slice A' l'.length c')) b0 G base n (upd gs i l') (upd A i A') (upd c i c') := by
  obtain ⟨l1, l2, l3⟩ := h.lt
  have hk : w'.heap[G]? = w.heap[G]? := hg.block G (by omega) (fun e => by have := (World.ownsRow.lt (h.own i hi) G e.symm).1; omega)
  have hcell : ∀ j, w'.cell? ⟨G, j, none⟩ = w.cell? ⟨G, j, none⟩ := fun j => World.cell?_of_block hk
  have hfr : ∀ j : Nat, w'.frozen? ⟨G, j, none⟩ = w.frozen? ⟨G, j, none⟩ := fun j => by simp only [World.frozen?]; rw [hk]
  have hne : ∀ {v : Value} {m : Nat} {xs : List Value}, w'.ownsRow base 31 2 v m xs → v.ownBlock ≠ some G := fun h2 e => by have := (World.ownsRow.lt h2 G e).1; omega
  refine ⟨fun j hj => ?_, fun j => by rw [World.frozen?_setCell, hfr]; exact h.fr j, fun j hj => ?_, fun j k hj hk2 hjk => ?_, ⟨l1, l2, by rw [nblk_set]; exact Nat.le_trans l3 hg.size⟩, ?_⟩
  · by_cases hji : j = i
    · subst hji
      rw [upd_same, upd_same, upd_same]
      exact World.cell?_setCell_same' _ _ _ (by rw [hcell, h.cell j hj]; rfl)
    · rw [upd_other _ _ hji, upd_other _ _ hji, upd_other _ _ hji, cell_off _ _ _ _ _ (Ne.symm hji), hcell]
      exact h.cell j hj
  · by_cases hji : j = i
    · subst hji
      unfold Own1
      rw [upd_same, upd_same, upd_same]
      exact ownsRow_setCell_other hown (hne hown) _
    · unfold Own1
      rw [upd_other _ _ hji, upd_other _ _ hji, upd_other _ _ hji]
      have h2 := (h.own j hj).grown hg (h.apart j i hj hi hji)
      exact ownsRow_setCell_other h2 (hne h2) _
  · by_cases hji : j = i
    · subst hji
      rw [upd_same, upd_other _ _ (Ne.symm hjk)]
      exact (h.apart j k hj hk2 hjk).next (h.own k hk2) hat
    · rw [upd_other _ _ hji]
      by_cases hki : k = i
      · subst hki
        rw [upd_same]
        exact ((h.apart j k hj hk2 hjk).symm.next (h.own j hj) hat).symm
      · rw [upd_other _ _ hki]
        exact h.apart j k hj hk2 hjk
  · exact (h.below.grown hg (by omega) (fun k hk => by have := (World.ownsRow.lt (h.own i hi) k hk).1; omega)).setCell (p := ⟨G, i, none⟩) l1 _
theorem Fam.games (h : Fam w0 w b0 G base n gs A c) (hi : i < n) : GamesAt w w.heap.size (A i) (gs i) := games_own (h.own i hi)
end
theorem fam_made (w0 w : World) (b0 n : Nat) (t : TypeId) (hb : Below b0 w0 w) (h0 : b0 ≤ w.heap.size) :
    Fam w0 (w.alloc (.cells (madeCells #[.slice none 0 0] n) t)) b0 w.heap.size (w.heap.size + 1) n (fun _ => []) (fun _ => none) (fun _ => 0) := by
  have h2 := heap_alloc_new w (.cells (madeCells #[.slice none 0 0] n) t)
  refine ⟨fun i hi => ?_, fun i => ?_, fun i hi => owns_nil, fun i j _ _ _ a a' h => (by cases h), ⟨h0, by omega, by simp⟩, hb.alloc h0 _⟩
  · rw [cell_of_row _ _ _ _ _ _ h2]
    simp [madeCells, hi, Nat.mod_one]
  · simp only [World.frozen?]
    rw [h2]
    rfl
theorem run_make_fam (W : World) (n : Nat) (hn : n ≤ 1000) : (Instr.makeSlice 52 (.int .i64 (n : Int)) (.int .i64 (n : Int))).run Tryd.prog W = .ok (.slice (some ⟨W.heap.size, 0, none⟩) n n) (W.alloc (.cells (madeCells #[.slice none 0 0] n) 29)) := by
  obtain ⟨ht, h0, hb, i, z, hi, hz, hsz, hby, hzs⟩ := (RowOf.mk' (z := .slice none 0 0) Tryd.underlying52 (by kernel_rfl) (by decide) (by decide) rfl : RowOf Tryd.prog 52 29 1 24)
  have hzv : z = .slice none 0 0 := by
    have h2 : (Tryd.prog.info? 29).map (·.zero) = some (some (.slice none 0 0)) := by kernel_rfl
    rw [hi, Option.map_some, hz] at h2
    simpa using h2
  have h := run_make (P := Tryd.prog) W 52 29 i z ht hi hz .i64 .i64 (n : Int) (n : Int) (by omega) (Int.le_refl _) (by rw [hby]; omega) (by omega)
  rw [hsz, hzv, show (Value.slice none 0 0).cells = #[.slice none 0 0] from rfl] at h
  simpa using h
end Go.Proofs.YtlmdmdjcokmgjaaDoor
