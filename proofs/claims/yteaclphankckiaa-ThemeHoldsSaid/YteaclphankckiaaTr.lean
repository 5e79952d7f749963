/- Layer 35: Find: what a tree shows. -/
import Derived.Test.YteaclphankckiaaTm
namespace Go.Proofs.Yteaclphankckiaa
open Go Go.RowKit
set_option linter.unusedSimpArgs false
set_option linter.unusedVariables false

theorem cell_new {w : World} {v : Value} {t : TypeId} : (w.alloc (.cells #[v] t)).cell? ⟨w.heap.size, 0, none⟩ = some v := by
  rw [cell_of_row _ _ _ _ _ _ (heap_alloc_new w (.cells #[v] t))]; rfl
theorem fresh_new {w : World} {v : Value} {t : TypeId} : (w.alloc (.cells #[v] t)).frozen? ⟨w.heap.size, 0, none⟩ = false := by
  simp only [World.frozen?]; rw [heap_alloc_new w (.cells #[v] t)]; rfl
theorem enter34 : ∀ (args : Array Value) (w : World), (callFunc 34 args).run Try.prog w = .ok (.enter 34 args) w := fun args w => by
  simp [callFunc, Sem.run_bind, Sem.run_pure, Try.func34, Try.f34]
theorem FS.first {m0 n0 : Nat} {f q : Int} {bk : Bool} {At : Option Addr} {t : List Nd} {ct : Nat} {w2 : World} (hs : w2.heap.size = n0 + 3) (hle : m0 ≤ n0) (c0 : w2.cell? ⟨m0, 0, none⟩ = some (.int .i64 f)) (c1 : w2.cell? ⟨m0, 1, none⟩ = some (.int .i64 q)) (cb : w2.cell? ⟨m0 + 1, 0, none⟩ = some (.bool bk)) (ctt : w2.cell? ⟨m0 + 2, 0, none⟩ = some (.slice At t.length ct)) (hT : RecAt nEnc 4 w2 m0 At t) (t1 t2 : TypeId) :
    FS m0 n0 f q bk At t ct (((w2.alloc (.cells #[.slice none 0 0] t1)).alloc (.map #[] 0)).alloc (.cells #[.map (some (n0 + 4))] t2)) none 0 [] [] 0 := by
  have h3 : (w2.alloc (.cells #[.slice none 0 0] t1)).heap.size = n0 + 4 := by simp [hs]
  have h4 : ((w2.alloc (.cells #[.slice none 0 0] t1)).alloc (.map #[] 0)).heap.size = n0 + 5 := by simp [hs]
  have b1 : Below w2.heap.size w2 (w2.alloc (.cells #[.slice none 0 0] t1)) := (Below.refl _ _).alloc (Nat.le_refl _) _
  have b2 : Below (n0 + 4) (w2.alloc (.cells #[.slice none 0 0] t1)) ((w2.alloc (.cells #[.slice none 0 0] t1)).alloc (.map #[] 0)) := (Below.refl _ _).alloc (by omega) _
  have b3 : Below (n0 + 5) ((w2.alloc (.cells #[.slice none 0 0] t1)).alloc (.map #[] 0)) (((w2.alloc (.cells #[.slice none 0 0] t1)).alloc (.map #[] 0)).alloc (.cells #[.map (some (n0 + 4))] t2)) := (Below.refl _ _).alloc (by omega) _
  have b23 := b2.trans (b3.mono (by omega))
  have b123 := b1.trans (b23.mono (by omega))
  have k3 := cell_new (w := w2) (v := .slice none 0 0) (t := t1)
  have k4 := fresh_new (w := w2) (v := .slice none 0 0) (t := t1)
  have k5 := cell_new (w := (w2.alloc (.cells #[.slice none 0 0] t1)).alloc (.map #[] 0)) (v := .map (some (n0 + 4))) (t := t2)
  rw [hs] at k3 k4
  rw [h4] at k5
  have hm := PSet.made (w2.alloc (.cells #[.slice none 0 0] t1))
  rw [h3] at hm
  refine ⟨(b123.cell (p := ⟨m0, 0, none⟩) (by show m0 < _; omega)).trans c0, (b123.cell (p := ⟨m0, 1, none⟩) (by show m0 < _; omega)).trans c1, (b123.cell (p := ⟨m0 + 1, 0, none⟩) (by show m0 + 1 < _; omega)).trans cb, (b123.cell (p := ⟨m0 + 2, 0, none⟩) (by show m0 + 2 < _; omega)).trans ctt, (b23.cell (p := ⟨n0 + 3, 0, none⟩) (by show n0 + 3 < _; omega)).trans k3, (b23.frozen (p := ⟨n0 + 3, 0, none⟩) (by show n0 + 3 < _; omega)).trans k4, hm.of_block (b3.block _ (by omega)), k5, owns_nil, hT.below (Nat.le_refl _) (b123.mono (by omega)), by simp [hs], hle⟩
def FindP (f q : Int) (bk : Bool) (t : List Nd) (w : World) (e : Ending) (w' : World) : Prop := ∃ A c, e = .returned (.tuple #[.slice A (fnd f q bk t t.length).length c, .int .i64 0]) ∧ RecAt shEnc 2 w' w'.heap.size A (fnd f q bk t t.length) ∧ Below w.heap.size w w'
set_option maxRecDepth 100000 in
set_option maxHeartbeats 4000000 in
theorem pfind_no (f q : Int) (bk : Bool) (At : Option Addr) (t : List Nd) (ct : Nat) (w : World) (hT : RecAt nEnc 4 w w.heap.size At t) (hl : t.length ≤ 1000) (hv : treeB f q t = false) :
    Calls Try.prog 14 #[.agg #[.int .i64 f, .int .i64 q], .bool bk, .slice At t.length ct] w fun e w' => e = .returned (.tuple #[.slice none 0 0, .int .i64 2]) ∧ Below w.heap.size w w' := by
  have hTH : Hid (∀ W, Below w.heap.size w W → RecAt nEnc 4 W W.heap.size At t) := fun W hb => (hT.below (Nat.le_refl _) hb).more hb.size
  have hS := Sz2.new w f q 23
  have hb3 : Hid (Below w.heap.size w (((w.alloc (.cells #[.int .i64 f, .int .i64 q] 23)).alloc (.cells #[.bool bk] 4)).alloc (.cells #[.slice At t.length ct] 25))) := (((Below.refl _ _).alloc (Nat.le_refl _) _).alloc (by simp) _).alloc (by simp; omega) _
  have hbs : Below (w.alloc (.cells #[.int .i64 f, .int .i64 q] 23)).heap.size (w.alloc (.cells #[.int .i64 f, .int .i64 q] 23)) (((w.alloc (.cells #[.int .i64 f, .int .i64 q] 23)).alloc (.cells #[.bool bk] 4)).alloc (.cells #[.slice At t.length ct] 25)) := ((Below.refl _ _).alloc (Nat.le_refl _) _).alloc (by simp) _
  have hS3 := Lib.hid (hS.next hbs)
  have ht3 : Hid ((((w.alloc (.cells #[.int .i64 f, .int .i64 q] 23)).alloc (.cells #[.bool bk] 4)).alloc (.cells #[.slice At t.length ct] 25)).cell? ⟨w.heap.size + 1 + 1, 0, none⟩ = some (.slice At t.length ct)) := by
    have h := cell_new (w := (w.alloc (.cells #[.int .i64 f, .int .i64 q] 23)).alloc (.cells #[.bool bk] 4)) (v := .slice At t.length ct) (t := 25)
    rwa [show ((w.alloc (.cells #[.int .i64 f, .int .i64 q] 23)).alloc (.cells #[.bool bk] 4)).heap.size = w.heap.size + 1 + 1 by simp] at h
  clear hT hS hbs
  go_enter Try.func14, Try.ntmps14
  go_upto_region 1 with fail
  generalize ((w.alloc (.cells #[.int .i64 f, .int .i64 q] 23)).alloc (.cells #[.bool bk] 4)).alloc (.cells #[.slice At t.length ct] 25) = w3 at *
  have c0 := hS3.out.c0
  have c1 := hS3.out.c1
  have c2 := ht3.out
  go_wp2_with (go_at_call 21; refine (ptree _ _ _ _ _ _ (hTH.out _ hb3.out) hl).mono ?_; rintro e w4 ⟨rfl, hbv⟩; rw [hv]; replace hbv := Lib.hid (hb3.out.trans (hbv.mono hb3.out.size)))
  go_ret2
  exact ⟨rfl, hbv.out⟩
set_option maxRecDepth 100000 in
set_option maxHeartbeats 4000000 in
theorem pfind_yes (f q : Int) (bk : Bool) (At : Option Addr) (t : List Nd) (ct : Nat) (w : World) (hT : RecAt nEnc 4 w w.heap.size At t) (hl : t.length ≤ 990) (hv : treeB f q t = true) :
    Calls Try.prog 14 #[.agg #[.int .i64 f, .int .i64 q], .bool bk, .slice At t.length ct] w (FindP f q bk t w) := by
  obtain ⟨hz, hok⟩ := treeB_out hv
  obtain ⟨f0, f1, r0, r1⟩ := szB_out hz
  have hTH : Hid (∀ W, Below w.heap.size w W → RecAt nEnc 4 W W.heap.size At t) := fun W hb => (hT.below (Nat.le_refl _) hb).more hb.size
  have hS := Sz2.new w f q 23
  have hb3 : Hid (Below w.heap.size w (((w.alloc (.cells #[.int .i64 f, .int .i64 q] 23)).alloc (.cells #[.bool bk] 4)).alloc (.cells #[.slice At t.length ct] 25))) := (((Below.refl _ _).alloc (Nat.le_refl _) _).alloc (by simp) _).alloc (by simp; omega) _
  have hbs : Below (w.alloc (.cells #[.int .i64 f, .int .i64 q] 23)).heap.size (w.alloc (.cells #[.int .i64 f, .int .i64 q] 23)) (((w.alloc (.cells #[.int .i64 f, .int .i64 q] 23)).alloc (.cells #[.bool bk] 4)).alloc (.cells #[.slice At t.length ct] 25)) := ((Below.refl _ _).alloc (Nat.le_refl _) _).alloc (by simp) _
  have hS3 := Lib.hid (hS.next hbs)
  have ht3 : Hid ((((w.alloc (.cells #[.int .i64 f, .int .i64 q] 23)).alloc (.cells #[.bool bk] 4)).alloc (.cells #[.slice At t.length ct] 25)).cell? ⟨w.heap.size + 1 + 1, 0, none⟩ = some (.slice At t.length ct)) := by
    have h := cell_new (w := (w.alloc (.cells #[.int .i64 f, .int .i64 q] 23)).alloc (.cells #[.bool bk] 4)) (v := .slice At t.length ct) (t := 25)
    rwa [show ((w.alloc (.cells #[.int .i64 f, .int .i64 q] 23)).alloc (.cells #[.bool bk] 4)).heap.size = w.heap.size + 1 + 1 by simp] at h
  clear hT hS hbs
  go_enter Try.func14, Try.ntmps14
  go_upto_region 1 with fail
  have hb3s : w.heap.size + 2 < (((w.alloc (.cells #[.int .i64 f, .int .i64 q] 23)).alloc (.cells #[.bool bk] 4)).alloc (.cells #[.slice At t.length ct] 25)).heap.size := by simp
  have hbk3 : Hid ((((w.alloc (.cells #[.int .i64 f, .int .i64 q] 23)).alloc (.cells #[.bool bk] 4)).alloc (.cells #[.slice At t.length ct] 25)).cell? ⟨w.heap.size + 1, 0, none⟩ = some (.bool bk)) := by
    have h := cell_new (w := w.alloc (.cells #[.int .i64 f, .int .i64 q] 23)) (v := .bool bk) (t := 4)
    rw [show (w.alloc (.cells #[.int .i64 f, .int .i64 q] 23)).heap.size = w.heap.size + 1 by simp] at h
    exact (((Below.refl (w.heap.size + 2) ((w.alloc (.cells #[.int .i64 f, .int .i64 q] 23)).alloc (.cells #[.bool bk] 4))).alloc (by simp) _).cell (p := ⟨w.heap.size + 1, 0, none⟩) (by show w.heap.size + 1 < _; omega)).trans h
  generalize ((w.alloc (.cells #[.int .i64 f, .int .i64 q] 23)).alloc (.cells #[.bool bk] 4)).alloc (.cells #[.slice At t.length ct] 25) = w3 at *
  have c0 := hS3.out.c0
  have c1 := hS3.out.c1
  have c2 := ht3.out
  have hvz := Lib.hid hz
  have hmm := @run_makeMap Try.prog
  go_upto_region 3 with (go_at_call 21; refine (ptree _ _ _ _ _ _ (hTH.out _ hb3.out) (by omega)).mono ?_; rintro e w4 ⟨rfl, hbv⟩; rw [hv]; replace hbv := Lib.hid hbv)
  have hbw4 := Lib.hid (hb3.out.trans (hbv.out.mono hb3.out.size))
  have hcs := hbv.out.size
  obtain ⟨n0, hn0⟩ : ∃ n0, w4.heap.size = n0 + 3 := ⟨w4.heap.size - 3, by omega⟩
  have d0 := (hbv.out.cell (p := ⟨w.heap.size, 0, none⟩) (by show w.heap.size < _; omega)).trans c0
  have d1 := (hbv.out.cell (p := ⟨w.heap.size, 1, none⟩) (by show w.heap.size < _; omega)).trans c1
  have db := (hbv.out.cell (p := ⟨w.heap.size + 1, 0, none⟩) (by show w.heap.size + 1 < _; omega)).trans hbk3.out
  have dt := (hbv.out.cell (p := ⟨w.heap.size + 2, 0, none⟩) (by show w.heap.size + 2 < _; omega)).trans ht3.out
  have hT4 : RecAt nEnc 4 w4 w.heap.size At t := (hTH.out w (Below.refl _ _)).below (Nat.le_refl _) hbw4.out
  have hFS := Lib.hid (FS.first (f := f) (q := q) (bk := bk) (ct := ct) (t := t) (At := At) hn0 (show w.heap.size ≤ n0 by omega) d0 d1 db dt hT4 36 70)
  have hw5 : Hid (Below w4.heap.size w4 (((w4.alloc (.cells #[.slice none 0 0] 36)).alloc (.map #[] 0)).alloc (.cells #[.map (some (n0 + 4))] 70))) := (((Below.refl _ _).alloc (Nat.le_refl _) _).alloc (by simp) _).alloc (by simp; omega) _
  have hsz5 : (((w4.alloc (.cells #[.slice none 0 0] 36)).alloc (.map #[] 0)).alloc (.cells #[.map (some (n0 + 4))] 70)).heap.size = n0 + 6 := by simp [hn0]
  have hdt5 : (((w4.alloc (.cells #[.slice none 0 0] 36)).alloc (.map #[] 0)).alloc (.cells #[.map (some (n0 + 4))] 70)).cell? ⟨w.heap.size + 2, 0, none⟩ = some (.slice At t.length ct) := (hw5.out.cell (p := ⟨w.heap.size + 2, 0, none⟩) (by show w.heap.size + 2 < _; omega)).trans dt
  clear c0 c1 c2 hbv d0 d1 db dt hT4 hbk3 ht3 hS3
  go_upto_region 5 with fail
  rw [show n0 + 3 + 1 + 1 = n0 + 5 from rfl, show n0 + 3 + 1 = n0 + 4 from rfl, show w.heap.size + 1 + 1 = w.heap.size + 2 from rfl]
  clear hmm
  generalize ((w4.alloc (.cells #[.slice none 0 0] 36)).alloc (.map #[] 0)).alloc (.cells #[.map (some (n0 + 4))] 70) = w5 at *
  have hbw5 := Lib.hid (hbw4.out.trans (hw5.out.mono (by omega)))
  obtain ⟨O0, hO0⟩ : ∃ O0 : Nat → Prop, O0 = fun b => w.heap.size ≤ b ∧ b < n0 + 6 := ⟨_, rfl⟩
  have hFI : FI w.heap.size n0 f q bk At t ct 0 O0 w5 := ⟨none, 0, 0, Nat.le_refl _, hFS.out, fun b => by
    rw [hO0]
    constructor
    · exact .inl
    · rintro (h | h)
      · exact h
      · cases h⟩
  have hV : Visit 34 #[.pointer (some ⟨w.heap.size + 2, 0, none⟩), .pointer (some ⟨n0 + 3, 0, none⟩), .pointer (some ⟨n0 + 5, 0, none⟩), .pointer (some ⟨w.heap.size + 1, 0, none⟩), .pointer (some ⟨w.heap.size, 0, none⟩)] t w.heap.size (FI w.heap.size n0 f q bk At t ct) :=
    fun k x O W A c hx hI hO hb hp hd => pfind1 w.heap.size n0 f q bk At t ct hz hok hl k x O W A c hx hI hO hp hd
  have hcall := Lib.hid (ptraces 34 _ f q (FI w.heap.size n0 f q bk At t ct) w.heap.size O0 At t ct w5 enter34 (FI.stays w.heap.size n0 f q bk At t ct) hV (hFS.out.recs) (by omega) hok hFI (fun b hb => by rw [hO0] at hb; exact ⟨hb.1, by rw [hsz5]; exact hb.2⟩) (by omega))
  clear hV hFI hn0 hcs
  replace hsz5 := Lib.hid hsz5
  go_wp2_with (go_at_call 28; refine hcall.out.mono ?_; rintro e w6 ⟨rfl, O, hI6, hG6, hO6⟩; replace hG6 := Lib.hid hG6; clear hO6; obtain ⟨A6, c6, n6, hn6, hF6, hO6⟩ := hI6; have co := hF6.co; replace hF6 := Lib.hid hF6; clear hn6 hO6)
  go_ret2
  refine ⟨A6, c6, rfl, RecAt.of_own shEnc_len rfl hF6.out.row, hbw5.out.trans (hG6.out.below (b0 := w.heap.size) (fun b hb => by rw [hO0] at hb; exact hb.1) (by have := hbw5.out.size; omega))⟩
end Go.Proofs.Yteaclphankckiaa
