/- Layer 43: the pairing with the right colours. -/
import Derived.Test.YtjjjdoealagpcaaDoorHa
namespace Go.Proofs.YtjjjdoealagpcaaDoor
open Go Go.RowKit
set_option linter.unusedSimpArgs false
set_option linter.unusedVariables false
attribute [local go_sem ↓] Go.wp_at_zero Go.wp_at_succ
def whL (l : List Ent) (a b : Nat) : Int := if memI (en l a).met b then 0 else whI l a b
theorem FH.lpair {w : World} {A : Option Addr} {l : List Ent} {c : Nat} (h : FH w A l c) (hok : ∀ x ∈ l, numOk x) {a b : Nat} {x y : Ent} (hx : l[a]? = some x) (hy : l[b]? = some y) : Calls Tryd.prog 20 #[.slice A l.length c, .int .i64 (a : Int), .int .i64 (b : Int)] w fun e w' => e = .returned (.tuple #[.int .i64 (whL l a b), .int .i64 (cst l a b)]) ∧ Below w.heap.size w w' := by
  have h1 := cst_two hx hy
  unfold whL
  rw [en_eq hx, whI_eq hx hy, h1]
  unfold pairC
  cases hm : memI x.met b with
  | true => exact lpair_met A l c a b x w h hx hm
  | false =>
    have := lpair_two A l c a b x y w h hx hy (hok x (List.mem_of_getElem? hx)) (hok y (List.mem_of_getElem? hy)) hm
    unfold pairC at this
    rw [hm] at this
    exact this
def rowW (l : List Ent) (o : List Int) (i : Nat) : Bool := if oE o i < 0 then false else whL l (min i (oE o i).toNat) (max i (oE o i).toNat) == (i : Int)
def midW (l : List Ent) (o : List Int) (k : Nat) : List Bool := (List.range l.length).map fun i => if i < k then rowW l o i else false
def rWL (l : List Ent) (o : List Int) : List Bool := (List.range l.length).map (rowW l o)
theorem midW_len (l : List Ent) (o : List Int) (k : Nat) : (midW l o k).length = l.length := by simp [midW]
theorem midW_zero (l : List Ent) (o : List Int) : midW l o 0 = List.replicate l.length false := by
  apply List.ext_getElem?
  intro i
  unfold midW
  rw [List.getElem?_map, List.getElem?_replicate]
  by_cases h : i < l.length
  · rw [List.getElem?_range h, if_pos h]; rfl
  · rw [List.getElem?_eq_none (by simpa using h), if_neg h]; rfl
theorem midW_full (l : List Ent) (o : List Int) : midW l o l.length = rWL l o := by
  unfold midW rWL
  apply List.map_congr_left
  intro i hi
  exact if_pos (List.mem_range.1 hi)
theorem midW_succ {l : List Ent} {o : List Int} {k : Nat} (hk : k < l.length) : (midW l o k).set k (rowW l o k) = midW l o (k + 1) := by
  apply List.ext_getElem?
  intro i
  rw [List.getElem?_set, midW_len]
  unfold midW
  rw [List.getElem?_map, List.getElem?_map]
  by_cases h : i < l.length
  · rw [List.getElem?_range h]
    by_cases e : k = i
    · subst e
      rw [if_pos rfl, if_pos hk]
      show some _ = some (if k < k + 1 then _ else _)
      rw [if_pos (by omega)]
    · rw [if_neg e]
      show some (if i < k then _ else _) = some (if i < k + 1 then _ else _)
      by_cases h1 : i < k
      · rw [if_pos h1, if_pos (by omega)]
      · rw [if_neg h1, if_neg (by omega)]
  · rw [List.getElem?_eq_none (by simpa using h)]
    rw [if_neg (by omega)]
    rfl
theorem midW_same {l : List Ent} {o : List Int} {k : Nat} (hr : rowW l o k = false) : midW l o k = midW l o (k + 1) := by
  unfold midW
  apply List.map_congr_left
  intro i hi
  by_cases e : i = k
  · subst e; rw [if_neg (Nat.lt_irrefl _), if_pos (by omega), hr]
  · by_cases h1 : i < k
    · rw [if_pos h1, if_pos (by omega)]
    · rw [if_neg h1, if_neg (by omega)]
/-- memory while the colours are put down -/
structure PR (w wr : World) (x : Value) (n Bw Bp : Nat) (L : List Bool) : Prop where
  v : BRow wr Bw 4 L
  p : wr.heap[Bp]? = some (.cells #[x, .slice (some ⟨Bw, 0, none⟩) n n] 30)
  r : wr.heap[w.heap.size]? = some (.cells #[.slice none 0 0, .slice none 0 0] 30)
  below : Below w.heap.size w wr
  d : w.heap.size < Bw ∧ w.heap.size < Bp ∧ Bw ≠ Bp
theorem PR.next {w wr w' : World} {x : Value} {n Bw Bp : Nat} {L : List Bool} (h : PR w wr x n Bw Bp L) (hb : Below wr.heap.size wr w') : PR w w' x n Bw Bp L :=
  ⟨h.v.next hb, (hb.block _ (Array.getElem?_eq_some_iff.1 h.p).1).trans h.p, (hb.block _ (Array.getElem?_eq_some_iff.1 h.r).1).trans h.r, h.below.trans (hb.mono h.below.size), h.d⟩
theorem PR.setW {w wr : World} {x : Value} {n Bw Bp : Nat} {L : List Bool} (h : PR w wr x n Bw Bp L) (i : Nat) (y : Bool) : PR w (wr.setCell ⟨Bw, i, none⟩ (.bool y)) x n Bw Bp (L.set i y) := by
  have hd := h.d
  have hb : ∀ k, k ≠ Bw → (wr.setCell ⟨Bw, i, none⟩ (.bool y)).heap[k]? = wr.heap[k]? := fun k hk => heap_setCell_other wr ⟨Bw, i, none⟩ k _ hk
  exact ⟨h.v.set i y, (hb _ (by omega)).trans h.p, (hb _ (by omega)).trans h.r, h.below.setCell (p := ⟨Bw, i, none⟩) (by show w.heap.size ≤ Bw; omega) _, hd⟩
theorem h2b (w : World) (X Y : Obj) : ((w.alloc X).alloc Y).heap[w.heap.size]? = some X ∧ ((w.alloc X).alloc Y).heap[w.heap.size + 1]? = some Y ∧ Below w.heap.size w ((w.alloc X).alloc Y) := by
  have e1 : (w.alloc X).heap.size = w.heap.size + 1 := by simp
  exact ⟨heap_alloc2_old _ _ _, heap_alloc2_new _ _ _, ((Below.refl _ _).alloc (Nat.le_refl _) _).alloc (by omega) _⟩
theorem PR.start {w w1 wc : World} {x : Value} {n Bw Bp : Nat} (hr : w1.heap[w.heap.size]? = some (.cells #[.slice none 0 0, .slice none 0 0] 30)) (hb : Below w.heap.size w w1)
    (hW : wc.heap[Bw]? = some (.cells (Array.replicate n (.bool false)) 4)) (hP : wc.heap[Bp]? = some (.cells #[x, .slice (some ⟨Bw, 0, none⟩) n n] 30)) (hw : Below w1.heap.size w1 wc) (h1 : w1.heap.size ≤ Bw ∧ w1.heap.size ≤ Bp ∧ Bw ≠ Bp) :
    PR w wc x n Bw Bp (List.replicate n false) := by
  have hlt := (Array.getElem?_eq_some_iff.1 hr).1
  exact ⟨⟨by rw [hW, rep_bools]⟩, hP, (hw.block _ hlt).trans hr, hb.trans (hw.mono hb.size), by omega⟩
/-- which opponents may be handed over -/
def oOk (n : Nat) (o : List Int) : Prop := o.length = n ∧ ∀ (i : Nat) (x : Int), o[i]? = some x → -1 ≤ x ∧ x < n ∧ x ≠ i
/-- what comes back -/
structure RdR (l : List Ent) (o : List Int) (O : Option Addr) (co : Nat) (e : Ending) (w w' : World) : Prop where
  out : ∃ Bw : Nat, e = .returned (.agg #[.slice O l.length co, .slice (some ⟨Bw, 0, none⟩) l.length l.length]) ∧ BRow w' Bw 4 (rWL l o)
  below : Below w.heap.size w w'
set_option maxRecDepth 100000 in
set_option maxHeartbeats 4000000 in
theorem lround (A O : Option Addr) (l : List Ent) (o : List Int) (c co : Nat) (w : World) (hF : FH w A l c) (hv : okF l) (hR : RecAt iEnc 1 w w.heap.size O o) (ho : oOk l.length o) :
    Calls Tryd.prog 24 #[.slice A l.length c, .slice O o.length co] w fun e w' => RdR l o O co e w w' := by
  have h12 := hv.2.1
  have h2 := hv.1
  have hol := ho.1
  obtain ⟨bo, oo, rfl, hlo, hco⟩ := hR (by omega)
  rw [hol]
  have hro : Hid (∀ (k : Nat) (x : Int), o[k]? = some x → w.cell? ⟨bo, oo + k, none⟩ = some (.int .i64 x)) := fun k x hx => by have := hco k x hx 0 _ rfl; rwa [Nat.mul_one] at this
  have hloH := Lib.hid hlo
  have hoH := Lib.hid ho
  have hFH := Lib.hid hF
  have hnum := Lib.hid hv.num
  have hmb := fun W => run_make_b W l.length (by omega)
  have hb0 : Hid (Below w.heap.size w (w.alloc (.cells #[.slice none 0 0, .slice none 0 0] 30))) := (Below.refl _ _).alloc (Nat.le_refl _) _
  have hr0 : Hid ((w.alloc (.cells #[.slice none 0 0, .slice none 0 0] 30)).heap[w.heap.size]? = some (.cells #[.slice none 0 0, .slice none 0 0] 30)) := heap_alloc_new w _
  clear hF hv hR ho hco hlo hol
  go_enter Tryd.func24, Tryd.ntmps24
  go_upto_region 1 with fail
  generalize w.alloc (.cells #[.slice none 0 0, .slice none 0 0] 30) = w1 at *
  go_cut [5] from 10 to 14 (fun s5 wc => ∃ Bw Bp : Nat, s5 = .pointer (some ⟨Bp, 0, none⟩) ∧ Hid (PR w wc (.slice (some ⟨bo, oo, none⟩) l.length co) l.length Bw Bp (List.replicate l.length false)))
  case first =>
    go_wp2_with fail
    go_meet
    first
    | exact ⟨_, _, rfl, PR.start hr0.out hb0.out (h2b w1 _ _).1 (h2b w1 _ _).2.1 ((h2b w1 _ _).2.2) (by refine ⟨?_, ?_, ?_⟩ <;> omega)⟩
    | exact ⟨_, _, rfl, PR.start hr0.out hb0.out (h2b w1 _ _).2.1 (h2b w1 _ _).1 ((h2b w1 _ _).2.2) (by refine ⟨?_, ?_, ?_⟩ <;> omega)⟩
    | exact ⟨_, _, rfl, PR.start hr0.out hb0.out (h2b w1 _ _).1 (h2b w1 _ _).2.1 ((h2b w1 _ _).2.2.drew) (by refine ⟨?_, ?_, ?_⟩ <;> omega)⟩
    | exact ⟨_, _, rfl, PR.start hr0.out hb0.out (h2b w1 _ _).2.1 (h2b w1 _ _).1 ((h2b w1 _ _).2.2.drew) (by refine ⟨?_, ?_, ?_⟩ <;> omega)⟩
  case rest =>
    obtain ⟨Bw, Bp, rfl, hPR⟩ := hcut
    clear hr0 hb0 hmb
    clear w1
    go_wp2_with fail
    go_loopw [6] (fun i wr => ∃ k : Nat, k ≤ l.length ∧ i = .int .i64 k ∧ Hid (PR w wr (.slice (some ⟨bo, oo, none⟩) l.length co) l.length Bw Bp (midW l o k))) (fun i _ => l.length - (intOf i).toNat)
    case atStart => exact ⟨0, by omega, rfl, by rw [midW_zero]; exact hPR⟩
    case round =>
      clear hPR
      obtain ⟨k, hk, rfl, hPR⟩ := hrel
      replace hPR := Lib.hid hPR.out
      have d := hPR.out.d
      by_cases hkn : k < l.length
      rotate_left
      · obtain rfl : k = l.length := by omega
        have hp0 : wr.cell? ⟨Bp, 0, none⟩ = some (.slice (some ⟨bo, oo, none⟩) l.length co) := by rw [cell_of_row _ _ _ _ _ _ hPR.out.p]; rfl
        have hp1 : wr.cell? ⟨Bp, 1, none⟩ = some (.slice (some ⟨Bw, 0, none⟩) l.length l.length) := by rw [cell_of_row _ _ _ _ _ _ hPR.out.p]; rfl
        have hrc0 : wr.cell? ⟨w.heap.size, 0, none⟩ = some (.slice none 0 0) := by rw [cell_of_row _ _ _ _ _ _ hPR.out.r]; rfl
        have hrc1 : wr.cell? ⟨w.heap.size, 1, none⟩ = some (.slice none 0 0) := by rw [cell_of_row _ _ _ _ _ _ hPR.out.r]; rfl
        have hrf0 : wr.frozen? ⟨w.heap.size, 0, none⟩ = false := frozen_of_row _ _ _ _ _ hPR.out.r
        have hrf1 : wr.frozen? ⟨w.heap.size, 1, none⟩ = false := frozen_of_row _ _ _ _ _ hPR.out.r
        go_wp2_with fail
        refine bodyPost_ret (v := .agg #[.slice (some ⟨bo, oo, none⟩) l.length co, .slice (some ⟨Bw, 0, none⟩) l.length l.length]) (by simp [results, Tryd.results24, go_sem, hrc0, hrc1]) rfl ⟨⟨Bw, rfl, ?_⟩, ?_⟩
        · rw [← midW_full]
          exact (hPR.out.v.other (a := ⟨w.heap.size, 0, none⟩) (by show Bw ≠ w.heap.size; omega) _).other (a := ⟨w.heap.size, 1, none⟩) (by show Bw ≠ w.heap.size; omega) _
        · exact (hPR.out.below.setCell (p := ⟨w.heap.size, 0, none⟩) (Nat.le_refl _) _).setCell (p := ⟨w.heap.size, 1, none⟩) (Nat.le_refl _) _
      obtain ⟨e, he⟩ : ∃ e, o[k]? = some e := ⟨_, List.getElem?_eq_getElem (by have := hoH.out.1; omega)⟩
      obtain ⟨x, hx⟩ : ∃ x, l[k]? = some x := ⟨_, List.getElem?_eq_getElem hkn⟩
      have heq := oE_eq he
      obtain ⟨o1, o2, o3⟩ := hoH.out.2 k e he
      have e0 := (hPR.out.below.cell (p := ⟨bo, oo + k, none⟩) hloH.out).trans (hro.out k e he)
      have hkI : (k : Int) < (l.length : Int) := by omega
      have hk0 : (0 : Int) ≤ (k : Int) := Int.natCast_nonneg _
      replace he := Lib.hid he
      by_cases hm : 0 ≤ e
      rotate_left
      · have hW : Hid (midW l o k = midW l o (k + 1)) := midW_same (by unfold rowW; rw [heq, if_pos (by omega)])
        clear heq
        go_wp2_with fail
        go_roundw
        case rel => exact ⟨k + 1, by omega, by go_num, by rw [← hW.out]; exact hPR⟩
        case measure => simp [intOf]; omega
      obtain ⟨E, hE⟩ := Int.eq_ofNat_of_zero_le hm
      subst hE
      obtain ⟨y, hy⟩ : ∃ y, l[E]? = some y := ⟨_, List.getElem?_eq_getElem (by omega)⟩
      have hEI : (E : Int) < (l.length : Int) := by omega
      obtain ⟨a, b, u, v, mn, mx, hmn, hmx, hu, hv⟩ : ∃ (a b : Nat) (u v : Ent), min (k : Int) (E : Int) = (a : Int) ∧ max (k : Int) (E : Int) = (b : Int) ∧ min k E = a ∧ max k E = b ∧ l[a]? = some u ∧ l[b]? = some v := by
        by_cases h : k < E
        · exact ⟨k, E, x, y, by omega, by omega, by omega, by omega, hx, hy⟩
        · exact ⟨E, k, y, x, by omega, by omega, by omega, by omega, hy, hx⟩
      have hP : Hid (∀ W, Below w.heap.size w W → Calls Tryd.prog 20 #[.slice A l.length c, .int .i64 (a : Int), .int .i64 (b : Int)] W fun e w' => e = .returned (.tuple #[.int .i64 (whL l a b), .int .i64 (cst l a b)]) ∧ Below W.heap.size W w') := fun W h => (hFH.out.next h).lpair hnum.out hu hv
      have hrw : rowW l o k = (whL l a b == (k : Int)) := by unfold rowW; rw [heq, if_neg (by omega), Int.toNat_natCast, hmn, hmx]
      obtain ⟨T, hT⟩ : ∃ T, whL l a b = T := ⟨_, rfl⟩
      obtain ⟨K, hK⟩ : ∃ K, cst l a b = K := ⟨_, rfl⟩
      rw [hT] at hrw
      rw [hT, hK] at hP
      have hnew := Lib.hid (midW_succ (o := o) hkn)
      rw [hrw] at hnew
      clear heq hrw hT hK hmn hmx hu hv hx hy
      go_wp2_with fail
      go_at_call 20
      refine (hP.out _ hPR.out.below).mono ?_
      rintro e w2 ⟨rfl, hb2⟩
      replace hPR := Lib.hid (hPR.out.next hb2)
      clear hb2 e0
      have hp1 : w2.cell? ⟨Bp, 1, none⟩ = some (.slice (some ⟨Bw, 0, none⟩) l.length l.length) := by rw [cell_of_row _ _ _ _ _ _ hPR.out.p]; rfl
      obtain ⟨z, hz⟩ : ∃ z, (midW l o k)[k]? = some z := ⟨_, List.getElem?_eq_getElem (by rw [midW_len]; exact hkn)⟩
      have hp2 := hPR.out.v.cell hz
      have hp3 := hPR.out.v.fr k
      have hset := Lib.hid (hPR.out.setW k (T == (k : Int)))
      rw [hnew.out] at hset
      clear hz hnew
      go_wp2_with fail
      go_roundw
      case rel => exact ⟨k + 1, by omega, by go_num, hset⟩
      case measure => simp [intOf]; omega
end Go.Proofs.YtjjjdoealagpcaaDoor
