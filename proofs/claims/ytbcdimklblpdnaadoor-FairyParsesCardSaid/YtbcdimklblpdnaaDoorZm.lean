/- Layer 27: the usual pieces of program and reference; piece of the statements. -/
import Derived.Test.YtbcdimklblpdnaaDoorZl
namespace Go.Proofs.YtbcdimklblpdnaaDoor
open Go Go.RowKit
set_option linter.unusedSimpArgs false
set_option linter.unusedVariables false
theorem okFy_of {nm : List UInt8} {l : List At} (h1 : ∀ x ∈ l, okA x) (h2 : l.Nodup) (h3 : 1 ≤ l.length ∧ l.length ≤ 8) (h4 : PC.givV (bsB nm) = true) : okFy (bsB nm) l := by
  refine ⟨⟨fun i x hi hx => ⟨h1 x (List.mem_of_getElem? hx), fun j y hj hy e => ?_⟩, h3⟩, h4⟩
  subst e
  obtain ⟨hj2, ej⟩ := List.getElem?_eq_some_iff.1 hy
  obtain ⟨hi2, ei⟩ := List.getElem?_eq_some_iff.1 hx
  exact List.pairwise_iff_getElem.1 h2 j i hj2 hi2 hj (ej.trans ei.symm)
theorem par_of {s nm : List UInt8} {l : List At} (h1 : ∀ x ∈ l, okA x) (h2 : l.Nodup) (h3 : 1 ≤ l.length ∧ l.length ≤ 8) (h4 : PC.givV (bsB nm) = true) (h5 : txL nm l = s) : parR s = some (nm, l) := (parR_iff s nm l).2 ⟨okFy_of h1 h2 h3 h4, h5⟩
/-- a block without numbers -/
def NoI (w : World) (B : Nat) : Prop := ∀ (i : Nat) (k : IntKind) (n : Int), w.cell? ⟨B, i, none⟩ ≠ some (.int k n)
theorem NoI.new (w : World) (x : ByteArray) (P : Option Addr) (n c : Nat) (T : TypeId) : NoI (w.alloc (.cells #[.string x, .slice P n c] T)) w.heap.size := fun i k z => by
  rw [cell_of_row _ _ _ _ _ _ (heap_alloc_new w _)]
  match i with
  | 0 => simp
  | 1 => simp
  | i + 2 => simp
theorem NoI.next {w w' : World} {B : Nat} (h : NoI w B) (hB : B < w.heap.size) (hb : Below w.heap.size w w') : NoI w' B := fun i k n => by
  rw [hb.cell (p := ⟨B, i, none⟩) hB]
  exact h i k n
theorem NoI.keep {w : World} {B N : Nat} {A : Option Addr} {l : List At} (h : NoI w B) (hR : RecAt aEnc 6 w N A l) (i : Nat) (v : Value) : RecAt aEnc 6 (w.setCell ⟨B, i, none⟩ v) N A l := fun h0 => by
  obtain ⟨b, off, e, hlt, hc⟩ := hR h0
  refine ⟨b, off, e, hlt, fun k x hx j u hu => ?_⟩
  have hne : b ≠ B := by
    intro e2
    obtain ⟨x0, hx0⟩ : ∃ x0, l[0]? = some x0 := ⟨_, List.getElem?_eq_getElem h0⟩
    have := hc 0 x0 hx0 0 _ rfl
    rw [e2] at this
    exact h _ _ _ this
  rw [World.cell?_setCell_other w ⟨B, i, none⟩ ⟨b, off + k * 6 + j, none⟩ _ (by simp only [ne_eq, Addr.mk.injEq, not_and]; intro e2; exact absurd e2.symm (by first | exact hne | exact hne.symm))]
  exact hc k x hx j u hu
theorem NoI.set {w : World} {B : Nat} (h : NoI w B) (i : Nat) {v : Value} (hz : (w.cell? ⟨B, i, none⟩).isSome = true) (hv : ∀ k n, v ≠ .int k n) : NoI (w.setCell ⟨B, i, none⟩ v) B := fun j k n => by
  by_cases e : j = i
  · subst e
    intro h2
    rw [World.cell?_setCell_same' _ _ _ hz] at h2
    exact hv k n (Option.some.inj h2)
  · rw [World.cell?_setCell_other w ⟨B, i, none⟩ ⟨B, j, none⟩ _ (by simp only [ne_eq, Addr.mk.injEq, not_and]; intro _ e2; exact absurd e2.symm e)]
    exact h j k n
theorem rparse_is {s nm : List UInt8} {l : List At} (w : World) (hs : s.length ≤ 10000) (hp : parR s = some (nm, l)) : Calls Tryd.prog 6 #[.string (bsB s)] w fun e w' => ∃ A c, e = .returned (.tuple #[.agg #[.string (bsB nm), .slice A l.length c], .int .i64 0]) ∧ RecAt aEnc 6 w' w'.heap.size A l ∧ Below w.heap.size w w' := by
  refine (rparse s w hs).mono ?_
  rintro e w' h
  obtain ⟨A, c, he, hR⟩ := h.yes nm l hp
  exact ⟨A, c, he, hR, h.below⟩
theorem pparse_is {s nm : List UInt8} {l : List At} (w : World) (m0 : Int) (hM : MX w m0) (hs : s.length ≤ 10000) (hp : parR s = some (nm, l)) : Calls Tryd.prog 5 #[.string (bsB s)] w fun e w' => ∃ A c, e = .returned (.tuple #[.agg #[.string (bsB nm), .slice A l.length c], .int .i64 0]) ∧ RecAt aEnc 6 w' w'.heap.size A l ∧ Below w.heap.size w w' := by
  refine (pparse s w m0 hs hM).mono ?_
  rintro e w' h
  obtain ⟨A, c, he, hR⟩ := h.yes nm l hp
  exact ⟨A, c, he, hR, h.below⟩
theorem NoI.both {w : World} {B N : Nat} {A : Option Addr} {l : List At} {u1 u2 : Value} (h : NoI w B) (hb : B2 w B u1 u2) (hR : RecAt aEnc 6 w N A l) (x : ByteArray) (v : Value) : RecAt aEnc 6 ((w.setCell ⟨B, 0, none⟩ (.string x)).setCell ⟨B, 1, none⟩ v) N A l :=
  (h.set 0 (by rw [hb.c0]; rfl) (fun _ _ => by simp)).keep (h.keep hR 0 _) 1 v
/-- a fairy piece comes back -/
structure FyR (nm : List UInt8) (l : List At) (e : Ending) (w w' : World) : Prop where
  out : ∃ (A : Option Addr) (c : Nat), e = .returned (.agg #[.string (bsB nm), .slice A l.length c]) ∧ RecAt aEnc 6 w' w'.heap.size A l
  below : Below w.heap.size w w'
set_option maxRecDepth 100000 in
set_option maxHeartbeats 1000000 in
theorem rpiece (at_ : List UInt8) (nm : List UInt8) (l : List At) (w : World) (ha : at_.length ≤ 100) (hp : parR (120 :: 32 :: at_) = some (nm, l)) : Calls Tryd.prog 9 #[.string (bsB at_)] w fun e w' => FyR nm l e w w' := by
  have hR0 := Lib.hid (B2.new w (.string ⟨#[]⟩) (.slice none 0 0) 25)
  have hI0 := Lib.hid (NoI.new w ⟨#[]⟩ none 0 0 25)
  have hb0 : Hid (Below w.heap.size w (w.alloc (.cells #[.string ⟨#[]⟩, .slice none 0 0] 25))) := (Below.refl _ _).alloc (Nat.le_refl _) _
  have hpc := Lib.hid (fun W => rparse_is (s := 120 :: 32 :: at_) W (by simp; omega) hp)
  have h120 : (ByteArray.mk #[120, 32]) = bsB [120, 32] := rfl
  have happ := bs_app
  have hbsz := bs_size
  have z0 : (9223372036854775807 < at_.length + 1 + 1) = False := eq_false (by omega)
  have z1 : (9223372036854775807 < 2 + at_.length) = False := eq_false (by omega)
  clear hp
  go_enter Tryd.func9, Tryd.ntmps9
  go_upto_region 1 with fail
  obtain ⟨BR, hBR⟩ : ∃ BR, w.heap.size = BR := ⟨_, rfl⟩
  rw [hBR] at hR0 hI0
  simp only [hBR]
  have hBRH : Hid (w.heap.size = BR) := hBR
  clear hBR
  generalize w.alloc (.cells #[.string ⟨#[]⟩, .slice none 0 0] 25) = u at *
  go_wp2_with fail
  go_at_call 6
  refine (hpc.out _).mono ?_
  rintro e w2 ⟨A, c, rfl, hRc, hb2⟩
  replace hRc := Lib.hid hRc
  have hR2 := Lib.hid (hR0.out.next hb2)
  have hI2 := Lib.hid (hI0.out.next hR0.out.lt hb2)
  have hbw2 : Hid (Below w.heap.size w w2) := hb0.out.trans (hb2.mono hb0.out.size)
  have hba : Below w2.heap.size w2 (w2.alloc (.cells #[.string (bsB nm), .slice A l.length c] 25)) := (Below.refl _ _).alloc (Nat.le_refl _) _
  have hR3 := Lib.hid (hR2.out.next hba)
  have hI3 := Lib.hid (hI2.out.next hR2.out.lt hba)
  have hRc3 := Lib.hid (recs_next hRc.out hba)
  have hF3 := Lib.hid (B2.new w2 (.string (bsB nm)) (.slice A l.length c) 25)
  have hbw3 : Hid (Below w.heap.size w (w2.alloc (.cells #[.string (bsB nm), .slice A l.length c] 25))) := hbw2.out.trans (hba.mono hbw2.out.size)
  clear hb2 hR0 hI0 hRc hR2 hI2 hba hbw2 hpc h120 happ hbsz z0 z1
  go_upto_region 2 with fail
  obtain ⟨B3, hB3⟩ : ∃ B3, w2.heap.size = B3 := ⟨_, rfl⟩
  rw [hB3] at hF3
  simp only [hB3]
  clear hB3
  generalize w2.alloc (.cells #[.string (bsB nm), .slice A l.length c] 25) = w3 at *
  have hset : Hid (B2 ((w3.setCell ⟨BR, 0, none⟩ (.string (bsB nm))).setCell ⟨BR, 1, none⟩ (.slice A l.length c)) BR (.string (bsB nm)) (.slice A l.length c)) := (hR3.out.set0 _).set1 _
  have hbz : Hid (Below w.heap.size w ((w3.setCell ⟨BR, 0, none⟩ (.string (bsB nm))).setCell ⟨BR, 1, none⟩ (.slice A l.length c))) := (hbw3.out.setCell (p := ⟨BR, 0, none⟩) (by show w.heap.size ≤ BR; have := hBRH.out; omega) _).setCell (p := ⟨BR, 1, none⟩) (by show w.heap.size ≤ BR; have := hBRH.out; omega) _
  have hrc : Hid (RecAt aEnc 6 ((w3.setCell ⟨BR, 0, none⟩ (.string (bsB nm))).setCell ⟨BR, 1, none⟩ (.slice A l.length c)) ((w3.setCell ⟨BR, 0, none⟩ (.string (bsB nm))).setCell ⟨BR, 1, none⟩ (.slice A l.length c)).heap.size A l) := by
    have := hI3.out.both hR3.out hRc3.out (bsB nm) (.slice A l.length c)
    rw [nblk_set, nblk_set]
    exact this
  obtain ⟨p0, p1, _, _, _⟩ := hF3.out
  obtain ⟨r0, r1, rf0, rf1, _⟩ := hR3.out
  go_wp2_with fail
  refine bodyPost_ret (v := .agg #[.string (bsB nm), .slice A l.length c]) ?hres rfl ?hfin
  case hfin => exact ⟨⟨A, c, rfl, hrc.out⟩, hbz.out⟩
  case hres =>
    have k0 := hset.out.c0
    have k1 := hset.out.c1
    generalize ((w3.setCell ⟨BR, 0, none⟩ (.string (bsB nm))).setCell ⟨BR, 1, none⟩ (.slice A l.length c)) = wz at *
    simp [results, Tryd.results9, go_sem, k0, k1]
end Go.Proofs.YtbcdimklblpdnaaDoor
