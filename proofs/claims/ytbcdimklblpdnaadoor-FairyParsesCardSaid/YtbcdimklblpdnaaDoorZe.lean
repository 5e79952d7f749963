/- Layer 27: split of the reference. -/
import Derived.Test.YtbcdimklblpdnaaDoorZb
namespace Go.Proofs.YtbcdimklblpdnaaDoor
open Go Go.RowKit
set_option linter.unusedSimpArgs false
set_option linter.unusedVariables false
/-- rows of texts -/
def wEnc (x : List UInt8) : List Value := [.string (bsB x)]
theorem wEnc_len (x : List UInt8) : (wEnc x).length = 1 := rfl
theorem wEnc_one (x : List UInt8) : ∀ u ∈ wEnc x, u.oneCell' = true := by
  intro u hu
  simp only [wEnc, List.mem_cons, List.not_mem_nil, or_false] at hu
  subst hu; rfl
theorem wordRow : RowOf Tryd.prog 61 9 1 16 :=
  RowOf.mk' (z := .string ⟨#[]⟩) Tryd.underlying61 (by kernel_rfl) (by decide) (by decide) rfl
/-- the parts of the first bytes: the full ones and the last one -/
def splK (by_ : UInt8) (s : List UInt8) : Nat → List (List UInt8) × List UInt8
  | 0 => ([], [])
  | k + 1 => if s.getD k 0 = by_ then ((splK by_ s k).1 ++ [(splK by_ s k).2], []) else ((splK by_ s k).1, (splK by_ s k).2 ++ [s.getD k 0])
def splL (by_ : UInt8) (s : List UInt8) : List (List UInt8) := (splK by_ s s.length).1 ++ [(splK by_ s s.length).2]
theorem splK_len (by_ : UInt8) (s : List UInt8) : ∀ k, (splK by_ s k).1.length ≤ k ∧ (splK by_ s k).2.length ≤ k
  | 0 => ⟨Nat.le_refl _, Nat.le_refl _⟩
  | k + 1 => by
    obtain ⟨h1, h2⟩ := splK_len by_ s k
    unfold splK
    split
    · exact ⟨by rw [List.length_append]; simp; omega, by simp⟩
    · exact ⟨by simp only []; omega, by simp only [List.length_append, List.length_cons, List.length_nil]; omega⟩
theorem recs_w (w : World) (x : List UInt8) (t : TypeId) : RecAt wEnc 1 (w.alloc (.cells #[.string (bsB x)] t)) (w.alloc (.cells #[.string (bsB x)] t)).heap.size (some ⟨w.heap.size, 0, none⟩) [x] := by
  intro _
  refine ⟨w.heap.size, 0, rfl, by simp, fun k y hk j u hu => ?_⟩
  have hk0 : k = 0 := by have := (List.getElem?_eq_some_iff.1 hk).1; simp at this; omega
  subst hk0
  obtain rfl : x = y := by simpa using hk
  rw [cell_of_row _ _ _ _ _ _ (heap_alloc_new w _)]
  match j, hu with
  | 0, hu => rw [show u = .string (bsB x) from (Option.some.inj hu).symm]; rfl
  | (j + 1), hu => simp [wEnc] at hu
/-- what comes back -/
structure SpR (L : List (List UInt8)) (e : Ending) (w w' : World) : Prop where
  out : ∃ (A : Option Addr) (c : Nat), e = .returned (.slice A L.length c) ∧ O1 wEnc 1 w.heap.size 9 w w' A c L
  below : Below w.heap.size w w'
theorem O1.oneW (w : World) (x : List UInt8) : O1 wEnc 1 w.heap.size 9 w (w.alloc (.cells #[.string (bsB x)] 9)) (some ⟨w.heap.size, 0, none⟩) 1 [x] :=
  ⟨⟨rfl, .inr ⟨w.heap.size, 1, #[.string (bsB x)], rfl, Nat.le_refl _, by rw [heap_alloc_new w _], Nat.le_refl _, by unfold maxLen; decide, rfl, rfl⟩⟩, (Below.refl _ _).alloc (Nat.le_refl _) _, by simp⟩
theorem byteAt {s : List UInt8} {k : Nat} (h : k < s.length) (h2 : k < (bsB s).size) : (bsB s)[k]'h2 = s.getD k 0 := by
  rw [List.getD_eq_getElem?_getD, List.getElem?_eq_getElem h]
  rfl
theorem ext1 {s : List UInt8} {k : Nat} (h : k < s.length) : (bsB s).extract k (k + 1) = bsB [s.getD k 0] := by
  apply ByteArray.ext
  rw [ByteArray.data_extract]
  unfold bsB
  rw [List.getD_eq_getElem?_getD, List.getElem?_eq_getElem h]
  rw [List.extract_toArray, List.extract_eq_take_drop, List.drop_eq_getElem_cons h, Nat.add_sub_cancel_left]
  rfl
theorem O1.lastW {base g c : Nat} {T : TypeId} {w0 W : World} {p : List (List UInt8)} {x : List UInt8} (h : O1 wEnc 1 base T w0 W (some ⟨g, 0, none⟩) c (p ++ [x])) : W.cell? ⟨g, p.length, none⟩ = some (.string (bsB x)) ∧ W.frozen? ⟨g, p.length, none⟩ = false ∧ ∀ y, O1 wEnc 1 base T w0 (W.setCell ⟨g, p.length, none⟩ (.string (bsB y))) (some ⟨g, 0, none⟩) c (p ++ [y]) := by
  have hfl : ∀ z : List (List UInt8), flatR wEnc z = z.map fun x => Value.string (bsB x) := fun z => by
    induction z with
    | nil => rfl
    | cons a z ih => show wEnc a ++ flatR wEnc z = _; rw [ih]; rfl
  rcases h.own.2 with ⟨h1, _⟩ | ⟨g', cap, cur, hv, hg, hb, hn, hcap, hsz, htk⟩
  · cases h1
  cases hv
  have h2 := World.ownsRow.cellAt h.own p.length (by simp)
  rw [hfl] at h2
  refine ⟨by rw [h2]; simp, by simp [World.frozen?, hb], fun y => ?_⟩
  obtain ⟨h3, h4⟩ := World.ownsRow.stored h.own p.length (.string (bsB y))
  refine ⟨?_, h.below.grown h4 h.size (fun k hk => (World.ownsRow.lt h.own k hk).1), Nat.le_trans h.size h4.size⟩
  unfold Own1
  rw [hfl] at h3 ⊢
  have e1 : (p ++ [x]).length = (p ++ [y]).length := by simp
  rw [e1] at h3
  have e2 : ((p ++ [x]).map fun x => Value.string (bsB x)).set p.length (.string (bsB y)) = (p ++ [y]).map fun x => Value.string (bsB x) := by
    rw [List.map_append, List.map_append, List.set_append_right _ _ (by simp)]
    simp
  rw [e2] at h3
  exact h3
set_option maxRecDepth 100000 in
set_option maxHeartbeats 2000000 in
theorem rsplit (s : List UInt8) (b : UInt8) (w : World) (hs : s.length ≤ 100000) : Calls Tryd.prog 21 #[.string (bsB s), .int .u8 (b.toNat : Int)] w fun e w' => SpR (splL b s) e w w' := by
  have hO0 := Lib.hid (O1.oneW w [])
  have hfinH : Hid (splL b s = (splK b s s.length).1 ++ [(splK b s s.length).2]) := rfl
  have hbsz := bs_size s
  go_enter Tryd.func21, Tryd.ntmps21
  have hnil : (ByteArray.mk #[]) = bsB [] := rfl
  go_upto_region 2 with fail
  go_wp2_with fail
  go_loopw [5, 6] (fun s5 i wr => ∃ (k : Nat) (p : List (List UInt8)) (x : List UInt8) (A : Option Addr) (c : Nat), k ≤ s.length ∧ i = .int .i64 (k : Int) ∧ s5 = .slice A (p.length + 1) c ∧ Hid (splK b s k = (p, x)) ∧ Hid (O1 wEnc 1 w.heap.size 9 w wr A c (p ++ [x]))) (fun _ i _ => s.length - (intOf i).toNat)
  case atStart => exact ⟨0, [], [], some ⟨w.heap.size, 0, none⟩, 1, by omega, rfl, rfl, rfl, hO0⟩
  case round =>
    clear hO0
    obtain ⟨k, p, x, A, c, hk, rfl, rfl, hsp, hO⟩ := hrel
    have hk0 : (0 : Int) ≤ (k : Int) := Int.natCast_nonneg _
    have hpx := splK_len b s k
    rw [hsp.out] at hpx
    obtain ⟨hp1, hx1⟩ := hpx
    simp only [] at hp1 hx1
    by_cases hkl : k < s.length
    rotate_left
    · obtain rfl : k = s.length := by omega
      have hfin : Hid (SpR (splL b s) (.returned (.slice A (p.length + 1) c)) w wr) := by
        have e1 : splL b s = p ++ [x] := by rw [hfinH.out, hsp.out]
        rw [e1]
        exact ⟨⟨A, c, by rw [List.length_append]; rfl, hO.out⟩, hO.out.below⟩
      go_wp2_with fail
      go_ret
      exact hfin.out
    have hkI : (k : Int) < (s.length : Int) := by omega
    obtain ⟨ch, hch⟩ : ∃ ch, s.getD k 0 = ch := ⟨_, rfl⟩
    have hgb : ∀ (h2 : k < (bsB s).size), (bsB s)[k]'h2 = ch := fun h2 => by rw [byteAt hkl h2, hch]
    have hext : (bsB s).extract k (k + 1) = bsB [ch] := by rw [ext1 hkl, hch]
    have hst : Hid (splK b s (k + 1) = if ch = b then (p ++ [x], []) else (p, x ++ [ch])) := by
      show (if s.getD k 0 = b then ((splK b s k).1 ++ [(splK b s k).2], []) else ((splK b s k).1, (splK b s k).2 ++ [s.getD k 0])) = _
      rw [hsp.out, hch]
    have hpl : (p ++ [x]).length = p.length + 1 := by rw [List.length_append]; rfl
    clear hch hsp
    by_cases hcb : ch = b
    · have q1 : ((ch.toNat : Int) == (b.toNat : Int)) = true := by rw [beq_iff_eq, hcb]
      rw [if_pos hcb] at hst
      have hO1 := hO
      have hpn : (p ++ [x] ++ [([] : List UInt8)]).length = p.length + 1 + 1 := by rw [List.length_append, hpl]; rfl
      clear hcb hext
      go_wp2_with (at_builtin; refine wpList_append_recs wordRow wEnc_len wEnc_one rfl _ _ rfl w.heap.size A c (p ++ [x]) (by rw [hpl]; rfl) (hO1.out.alloc _).own _ 1 [([] : List UInt8)] rfl (recs_w _ [] _) (by simp; omega) (hO1.out.alloc _).size ?_; intro A' c' w' hown hg _; have hO' := Lib.hid ((hO1.out.alloc _).app hown hg); clear hown hg)
      go_roundw
      case rel => exact ⟨k + 1, p ++ [x], [], A', c', by omega, by go_num, by first | rfl | rw [hpl] | simp, hst, hO'⟩
      case measure => simp [intOf]; omega
    · have q1 : ((ch.toNat : Int) == (b.toNat : Int)) = false := by
        rw [beq_eq_false_iff_ne]
        intro h
        exact hcb (UInt8.toNat_inj.1 (by omega))
      rw [if_neg hcb] at hst
      obtain ⟨g, rfl, _, _⟩ := O1.form hO.out (by rw [hpl]; omega)
      obtain ⟨l0, l1, l2⟩ := hO.out.lastW
      have hl2 := Lib.hid (l2 (x ++ [ch]))
      have happ := bs_app x [ch]
      have hx2 := bs_size x
      have hx3 := bs_size [ch]
      have z1 : (9223372036854775807 < x.length + 1) = False := eq_false (by omega)
      have hpI : ((p.length : Int)) < (p.length : Int) + 1 := by omega
      clear hcb l2
      go_upto_region 7 with fail
      go_region
      have hO' := Lib.hid (hl2.out.drew)
      clear hl2 l0 l1
      generalize (wr.setCell ⟨g, p.length, none⟩ (.string (bsB (x ++ [ch])))).drew = wq at *
      go_wp2_with fail
      go_roundw
      case rel => exact ⟨k + 1, p, x ++ [ch], some ⟨g, 0, none⟩, c, by omega, by go_num, rfl, hst, hO'⟩
      case measure => simp [intOf]; omega
end Go.Proofs.YtbcdimklblpdnaaDoor
