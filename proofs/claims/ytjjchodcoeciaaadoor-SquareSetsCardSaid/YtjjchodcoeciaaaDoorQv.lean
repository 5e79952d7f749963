/- Layer 1: the reference's shifted set. -/
import Derived.Test.YtjjchodcoeciaaaDoorQl
import Derived.Test.YtjjchodcoeciaaaDoorQu
import Derived.Deep.RegionHeld3
import Derived.Deep.DeepCutAuto
import Derived.Deep.CutRange
namespace Go.Proofs.YtjjchodcoeciaaaDoor
open Go.RowKit
set_option linter.unusedSimpArgs false
set_option linter.unusedVariables false

theorem grown_of_below {w w' : World} (hb : Below w.heap.size w w') : w.grownBy w' none := ⟨hb.os, hb.tape, hb.output, hb.size, fun i hi _ => hb.block i hi⟩
theorem O1.call {α : Type} {f : α → List Value} {size base : Nat} {e : TypeId} {w0 w w' : World} {A : Option Addr} {c : Nat} {l : List α} (h : O1 f size base e w0 w A c l) (hb : Below w.heap.size w w') : O1 f size base e w0 w' A c l :=
  ⟨World.ownsRow.kept h.own (grown_of_below hb) (by cases (Value.slice A l.length c).ownBlock <;> simp), h.below.trans (hb.mono h.size), Nat.le_trans h.size hb.size⟩
/-- the numbers of the squares of a list, shifted, that are on the board -/
def nl (f r dx dy : Int) (l : List Int) : List Int := l.filterMap fun a => if onB f r (a % f + dx) (a / f + dy) = true then some (a % f + dx + (a / f + dy) * f) else none
theorem take_snoc {l : List Int} {k : Nat} (h : k < l.length) : l.take (k + 1) = l.take k ++ [l.getD k 0] := by
  rw [List.take_add_one, List.getElem?_eq_getElem h]; simp [h]
theorem nl_yes {f r dx dy : Int} {l : List Int} {k : Nat} (h : k < l.length) (ho : onB f r (l.getD k 0 % f + dx) (l.getD k 0 / f + dy) = true) : nl f r dx dy (l.take k) ++ [l.getD k 0 % f + dx + (l.getD k 0 / f + dy) * f] = nl f r dx dy (l.take (k + 1)) := by
  rw [take_snoc h]; generalize l.getD k 0 = a at *; unfold nl; rw [List.filterMap_append]; simp [ho]
theorem nl_no {f r dx dy : Int} {l : List Int} {k : Nat} (h : k < l.length) (ho : onB f r (l.getD k 0 % f + dx) (l.getD k 0 / f + dy) = false) : nl f r dx dy (l.take (k + 1)) = nl f r dx dy (l.take k) := by
  rw [take_snoc h]; generalize l.getD k 0 = a at *; unfold nl; rw [List.filterMap_append]; simp [ho]
theorem nl_len (f r dx dy : Int) (l : List Int) : (nl f r dx dy l).length ≤ l.length := List.length_filterMap_le _ _
theorem nl_bd {f r dx dy : Int} (hs : szB f r = true) (l : List Int) : ∀ j, j < (nl f r dx dy l).length → 0 ≤ (nl f r dx dy l).getD j 0 ∧ (nl f r dx dy l).getD j 0 < 64 := by
  intro j hj
  have hm : (nl f r dx dy l).getD j 0 ∈ nl f r dx dy l := by
    rw [List.getD, List.getElem?_eq_getElem hj]; exact List.getElem_mem hj
  generalize (nl f r dx dy l).getD j 0 = x at hm
  unfold nl at hm
  rw [List.mem_filterMap] at hm
  obtain ⟨a, _, ha⟩ := hm
  split at ha
  · rename_i ho
    obtain rfl := Option.some.inj ha
    obtain ⟨o0, o1, o2, o3⟩ := onB_out ho
    obtain ⟨f0, f1, r0, r1⟩ := szB_out hs
    obtain ⟨_, b0, b1⟩ := mul_bd2 f0 f1 r0 r1 o0 o1 o2 o3
    have := (mul_bd f0 f1 r0 r1).2
    omega
  · cases ha
theorem s_3 {B b o : Nat} {wr W : World} {f r x : Int} (hB : B < wr.heap.size) (hb : b < wr.heap.size) (c0 : wr.cell? ⟨B, 0, none⟩ = some (.int .i64 f)) (c1 : wr.cell? ⟨B, 1, none⟩ = some (.int .i64 r)) (cx : wr.cell? ⟨b, o, none⟩ = some (.int .i64 x)) (h : Below wr.heap.size wr W) :
    W.cell? ⟨B, 0, none⟩ = some (.int .i64 f) ∧ W.cell? ⟨B, 1, none⟩ = some (.int .i64 r) ∧ W.cell? ⟨b, o, none⟩ = some (.int .i64 x) :=
  ⟨(h.cell (p := ⟨B, 0, none⟩) hB).trans c0, (h.cell (p := ⟨B, 1, none⟩) hB).trans c1, (h.cell (p := ⟨b, o, none⟩) hb).trans cx⟩

set_option maxRecDepth 100000 in
set_option maxHeartbeats 2000000 in
theorem rshift (f r dx dy : Int) (m : Nat) (w : World) (hs : szB f r = true) (hl : ∀ x ∈ LI m 64, sqB f r x = true) (x0 : -8 ≤ dx) (x1 : dx ≤ 8) (y0 : -8 ≤ dy) (y1 : dy ≤ 8) :
    Calls Tryd.prog 32 #[.agg #[.int .i64 f, .int .i64 r], .int .u64 (m : Int), .int .i64 dx, .int .i64 dy] w fun e w' => e = .returned (.int .u64 (ofL (nl f r dx dy (LI m 64)) (nl f r dx dy (LI m 64)).length : Nat)) ∧ Below w.heap.size w w' := by
  have hszH := Lib.hid (szB_out hs)
  have hsH := Lib.hid hs
  have hbdL := Lib.hid (nl_bd (dx := dx) (dy := dy) hs (LI m 64))
  have hlenL := Lib.hid (LI_len m 64)
  have hlH := Lib.hid hl
  have hK := Lib.hid (BK.first f r w 23)
  clear hs hl
  generalize hL : LI m 64 = L at *
  go_enter Tryd.func32, Tryd.ntmps32
  go_wp2_with (go_at_call 36; refine (rlist m _).mono ?_; rw [hL]; rintro e w1 ⟨⟨A0, cp0, rfl, hrec⟩, hb⟩; replace hK := Lib.hid (hK.out.next hb); have hrecH := Lib.hid hrec; clear hb hrec)
  have hlt := hK.out.lt
  go_loopw [9, 11] (fun s i wr => ∃ (k : Nat) (A : Option Addr) (c : Nat), k ≤ L.length ∧ i = .int .i64 k ∧ s = .slice A (nl f r dx dy (L.take k)).length c ∧ Hid (O1 iEnc 1 w1.heap.size 3 w1 wr A c (nl f r dx dy (L.take k)))) (fun _ i _ => L.length - (intOf i).toNat)
  case atStart => exact ⟨0, none, 0, by omega, rfl, rfl, ⟨owns_nil, Below.refl _ _, Nat.le_refl _⟩⟩
  case round =>
    obtain ⟨k, A, c, hk, rfl, rfl, hO⟩ := hrel
    by_cases hkn : k < L.length
    · obtain ⟨b, off, rfl, hb, hcc⟩ := hrecH.out (by omega)
      have hget : L[k]? = some (L.getD k 0) := by rw [List.getD, List.getElem?_eq_getElem hkn]; rfl
      have hcx : w1.cell? ⟨b, off + k, none⟩ = some (.int .i64 (L.getD k 0)) := by
        have := hcc k _ hget 0 (.int .i64 (L.getD k 0)) rfl
        simpa using this
      clear hcc
      have hq := Lib.hid (hlH.out (L.getD k 0) (List.mem_of_getElem? hget))
      have hny := Lib.hid (fun ho => nl_yes (f := f) (r := r) (dx := dx) (dy := dy) hkn ho)
      have hnn := Lib.hid (fun ho => nl_no (f := f) (r := r) (dx := dx) (dy := dy) hkn ho)
      have hlen := Lib.hid (nl_len f r dx dy (L.take k))
      have hszr := hO.out.size
      have c0 := (hO.out.below.cell (p := ⟨w.heap.size, 0, none⟩) hlt).trans hK.out.c0
      have c1 := (hO.out.below.cell (p := ⟨w.heap.size, 1, none⟩) hlt).trans hK.out.c1
      have cx := (hO.out.below.cell (p := ⟨b, off + k, none⟩) hb).trans hcx
      clear hcx hget
      generalize L.getD k 0 = a at *
      generalize nl f r dx dy (L.take k) = l1 at *
      have hknH := Lib.hid hkn
      go_wp2_with fail
      go_cut [12] from 22 to 27 (fun s12 wc => ∃ B : Nat, s12 = .pointer (some ⟨B, 0, none⟩) ∧ Pair wc B (.int .i64 (a % f)) (.int .i64 (a / f)) ∧ Hid (Below wr.heap.size wr wc))
      case first =>
        have hbr : w.heap.size < wr.heap.size := by omega
        have hbb : b < wr.heap.size := by omega
        have hi0 : (0 : Int) ≤ (k : Int) := Int.natCast_nonneg _
        have hi1 : (k : Int) < (L.length : Int) := by omega
        clear hK hO hrecH hlH hny hnn hbdL
        go_region_held3 (fun w' => w'.cell? ⟨w.heap.size, 0, none⟩ = some (.int .i64 f) ∧ w'.cell? ⟨w.heap.size, 1, none⟩ = some (.int .i64 r) ∧ w'.cell? ⟨b, off + k, none⟩ = some (.int .i64 a)) (exact s_3 hbr hbb c0 c1 cx (by (repeat (first | exact Below.refl _ _ | exact hX1.out | refine Below.drew ?_ | refine Below.alloc ?_ (by first | omega | (simp only [World.size_setCell, World.size_alloc, World.size_drew]; done) | (simp only [World.size_setCell, World.size_alloc, World.size_drew]; omega)) _ | refine Below.setCell ?_ (by first | exact Nat.le_refl _ | omega | (dsimp only; omega)) _))))
          (first
           | (go_at_call 24; refine (rplace f r a _ hq.out).mono ?_; rintro e w3 ⟨rfl, hb3⟩; have hc1 := kept_cells hb3; have hf1 := kept_frozen hb3; have hs1 := hb3.size; (try simp only [World.size_alloc, World.size_drew] at hs1); have hX1 : Hid (Below wr.heap.size wr w3) := Below.trans (by (repeat (first | exact Below.refl _ _ | exact hX1.out | refine Below.drew ?_ | refine Below.alloc ?_ (by first | omega | (simp only [World.size_setCell, World.size_alloc, World.size_drew]; done) | (simp only [World.size_setCell, World.size_alloc, World.size_drew]; omega)) _ | refine Below.setCell ?_ (by first | exact Nat.le_refl _ | omega | (dsimp only; omega)) _))) (hb3.mono (by first | omega | (simp only [World.size_setCell, World.size_alloc, World.size_drew]; done) | (simp only [World.size_setCell, World.size_alloc, World.size_drew]; omega))); clear hb3; (first | have j1 : wr.heap.size < w3.heap.size := by omega | skip)))
        all_goals
          go_wp2_with fail
          go_meet
          refine ⟨_, rfl, ?_, ?_⟩
          · (repeat (first | exact pair_new _ _ _ _ _ (by first | omega | (simp only [World.size_setCell, World.size_alloc, World.size_drew]; done) | (simp only [World.size_setCell, World.size_alloc, World.size_drew]; omega)) | refine pair_set ?_ | refine pair_far ?_ (by first | omega | (simp only [World.size_setCell, World.size_alloc, World.size_drew]; done) | (simp only [World.size_setCell, World.size_alloc, World.size_drew]; omega)) | refine pair_alloc ?_ | refine pair_drew ?_ | exact has_new _ _ _ _ _ (by first | omega | (simp only [World.size_setCell, World.size_alloc, World.size_drew]; done) | (simp only [World.size_setCell, World.size_alloc, World.size_drew]; omega)) | refine has_alloc ?_ | refine has_far ?_ (by first | omega | (simp only [World.size_setCell, World.size_alloc, World.size_drew]; done) | (simp only [World.size_setCell, World.size_alloc, World.size_drew]; omega)) | refine has_drew ?_ | refine has_kept hc1 (by first | omega | (simp only [World.size_setCell, World.size_alloc, World.size_drew]; done) | (simp only [World.size_setCell, World.size_alloc, World.size_drew]; omega)) ?_))
          · (repeat (first | exact Below.refl _ _ | exact hX1.out | refine Below.drew ?_ | refine Below.alloc ?_ (by first | omega | (simp only [World.size_setCell, World.size_alloc, World.size_drew]; done) | (simp only [World.size_setCell, World.size_alloc, World.size_drew]; omega)) _ | refine Below.setCell ?_ (by first | exact Nat.le_refl _ | omega | (dsimp only; omega)) _))
      case rest =>
        have hkn := hknH.out
        have hk64 : k < 64 := by have := hlenL.out; omega
        obtain ⟨B, rfl, hp, hbw⟩ := hcut
        have p0 := hp.c0
        have p1 := hp.c1
        have hO2 := Lib.hid (hO.out.call hbw.out)
        have c0' := (hbw.out.cell (p := ⟨w.heap.size, 0, none⟩) (by show w.heap.size < _; omega)).trans c0
        have c1' := (hbw.out.cell (p := ⟨w.heap.size, 1, none⟩) (by show w.heap.size < _; omega)).trans c1
        clear c0 c1 cx
        obtain ⟨d0, d1, d2, d3, _⟩ := place_bd hq.out
        obtain ⟨f0, f1, r0, r1⟩ := hszH.out
        have g1 : IntKind.i64.wrap (a % f + dx) = a % f + dx := IntWalk.i64_in _ (by omega)
        have g2 : IntKind.i64.wrap (a / f + dy) = a / f + dy := IntWalk.i64_in _ (by omega)
        cases ho : onB f r (a % f + dx) (a / f + dy)
        · have hno := Lib.hid (hnn.out ho)
          have hoH := Lib.hid ho
          clear ho
          go_wp2_with (go_at_call 23; refine (rnumber_no _ _ _ _ _ hsH.out hoH.out).mono ?_; rintro e w4 ⟨rfl, hb4⟩; have hO3 := Lib.hid (hO2.out.call hb4); clear hb4)
          go_roundw
          case rel => exact ⟨k + 1, A, c, by have := hknH.out; omega, by go_num, by rw [hno.out], by rw [hno.out]; exact hO3⟩
          case measure => have := hknH.out; simp [intOf]; omega
        · have hyes := Lib.hid (hny.out ho)
          have hoH := Lib.hid ho
          have hge : 0 ≤ a % f + dx + (a / f + dy) * f := (sqB_out (on_sq hsH.out ho).1).2.1
          clear ho
          go_wp2_with (first | (go_at_call 23; refine (rnumber_yes _ _ _ _ _ hsH.out hoH.out).mono ?_; rintro e w4 ⟨rfl, hb4⟩; have hO3 := Lib.hid (hO2.out.call hb4); clear hb4) | (at_builtin; refine wpList_append_recs intRow iEnc_len iEnc_one rfl _ _ rfl w1.heap.size A c l1 rfl (hO3.out.alloc _).own _ 1 [a % f + dx + (a / f + dy) * f] rfl (recs_int _ _ _) (by have h1 := hlen.out; have h2 := hlenL.out; simp at h1 ⊢; omega) (hO3.out.alloc _).size ?_; intro A' c' w' hown hg _; rw [hyes.out] at hown ⊢; have hO' := Lib.hid ((hO3.out.alloc _).app hown hg); clear hown hg))
          go_roundw
          case rel => exact ⟨k + 1, A', c', by have := hknH.out; omega, by go_num, rfl, hO'⟩
          case measure => have := hknH.out; simp [intOf]; omega
    · obtain rfl : k = L.length := by omega
      have hre := Lib.hid (RecAt.of_own iEnc_len rfl hO.out.own)
      have htk : L.take L.length = L := List.take_length
      rw [htk] at hO hre ⊢
      have hln := Lib.hid (nl_len f r dx dy L)
      have hfin := Lib.hid (hK.out.below.trans (hO.out.below.mono (Nat.le_of_lt hlt)))
      go_wp2_with (go_at_call 35; refine (rof _ _ _ _ (by have h1 := hln.out; have h2 := hlenL.out; omega) hbdL.out hre.out).mono ?_; rintro e w' ⟨rfl, rfl⟩)
      go_ret
      exact ⟨rfl, hfin.out.trans (Below.refl _ _)⟩
end Go.Proofs.YtjjchodcoeciaaaDoor
