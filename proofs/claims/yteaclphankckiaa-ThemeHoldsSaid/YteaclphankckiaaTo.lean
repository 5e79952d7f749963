/- Layer 35: Path: the path of a move. -/
import Derived.Test.YteaclphankckiaaTr
namespace Go.Proofs.Yteaclphankckiaa
open Go Go.RowKit
set_option linter.unusedSimpArgs false
set_option linter.unusedVariables false

theorem enter29 : ∀ (args : Array Value) (w : World), (callFunc 29 args).run Try.prog w = .ok (.enter 29 args) w := fun args w => by
  simp [callFunc, Sem.run_bind, Sem.run_pure, Try.func29, Try.f29]
/-- what Path holds after k moves: the index, the path that was asked for -/
def PI (m0 n0 : Nat) (i : Int) (t : List Nd) (k : Nat) (O : Nat → Prop) (W : World) : Prop :=
  ∃ A c l, W.cell? ⟨m0 + 1, 0, none⟩ = some (.int .i64 i) ∧ W.cell? ⟨n0, 0, none⟩ = some (.slice A l.length c) ∧ W.frozen? ⟨n0, 0, none⟩ = false ∧ Own1 iEnc 1 m0 3 W A c l ∧ m0 + 1 < n0 ∧ n0 < W.heap.size ∧
    (∀ b, (Value.slice A l.length c).ownBlock = some b → b ≠ m0 + 1 ∧ b ≠ n0) ∧
    (∀ b, O b ↔ b = m0 + 1 ∨ b = n0 ∨ (Value.slice A l.length c).ownBlock = some b) ∧ ∀ j : Nat, i = (j : Int) → j < k → l = pth (back t (j + 1))
theorem PI.stays (m0 n0 : Nat) (i : Int) (t : List Nd) : Stays m0 (PI m0 n0 i t) := by
  intro k O W W' r hI hO hb hg hr
  obtain ⟨A, c, l, h1, h2, h3, h4, h5, h6, h7, h8, h9⟩ := hI
  have hk : ∀ b, O b → W'.heap[b]? = W.heap[b]? := fun b hb => hg.block b (hO b hb) (fun e => (hr b e.symm).1 hb)
  exact ⟨A, c, l, (World.cell?_of_block (a := ⟨m0 + 1, 0, none⟩) (hk _ ((h8 _).2 (.inl rfl)))).trans h1, (World.cell?_of_block (a := ⟨n0, 0, none⟩) (hk _ ((h8 _).2 (.inr (.inl rfl))))).trans h2, (World.frozen?_of_block (a := ⟨n0, 0, none⟩) (hk _ ((h8 _).2 (.inr (.inl rfl))))).trans h3,
    own_block h4 (fun b hb => hk b ((h8 b).2 (.inr (.inr hb)))), h5, Nat.lt_of_lt_of_le h6 hg.size, h7, h8, h9⟩
set_option maxRecDepth 100000 in
set_option maxHeartbeats 1000000 in
theorem ppath1 (m0 n0 : Nat) (i : Int) (t : List Nd) (k : Nat) (x : Nd) (O : Nat → Prop) (W : World) (A : Option Addr) (c : Nat) (hx : t[k]? = some x) (hI : PI m0 n0 i t k O W) (hO : ∀ b, O b → m0 ≤ b ∧ b < W.heap.size)
    (hp : Own1 iEnc 1 m0 3 W A c (pth (back t (k + 1)))) (hd : ∀ b, (Value.slice A (pth (back t (k + 1))).length c).ownBlock = some b → ¬ O b) :
    Calls Try.prog 29 #[.int .i64 (k : Int), .slice A (pth (back t (k + 1))).length c, .pointer (some ⟨m0 + 1, 0, none⟩), .pointer (some ⟨n0, 0, none⟩)] W
      fun e W' => e = .returned (.tuple #[]) ∧ ∃ O', PI m0 n0 i t (k + 1) O' W' ∧ VFr O O' (Value.slice A (pth (back t (k + 1))).length c).ownBlock W W' := by
  have hIH := Lib.hid hI
  have hOH := Lib.hid hO
  have hpH := Lib.hid hp
  have hdH := Lib.hid hd
  obtain ⟨A0, c0, l0, h1, h2, h3, h4, h5, h6, h7, h8, h9⟩ := hI
  obtain ⟨l, hl⟩ : ∃ l, pth (back t (k + 1)) = l := ⟨_, rfl⟩
  rw [hl] at hpH hdH ⊢
  clear hO hp hd hx
  cases he : ((k : Int) == i) with
  | true =>
    have hki : i = (k : Int) := (eq_of_beq he).symm
    have hend : Hid (∃ O', PI m0 n0 i t (k + 1) O' (W.setCell ⟨n0, 0, none⟩ (.slice A l.length c)) ∧ VFr O O' (Value.slice A l.length c).ownBlock W (W.setCell ⟨n0, 0, none⟩ (.slice A l.length c))) := by
      have hne : ∀ b, (Value.slice A l.length c).ownBlock = some b → b ≠ m0 + 1 ∧ b ≠ n0 := fun b hb => ⟨fun e => hdH.out b hb ((h8 b).2 (.inl e)), fun e => hdH.out b hb ((h8 b).2 (.inr (.inl e)))⟩
      have hkb : ∀ b, b ≠ n0 → (W.setCell ⟨n0, 0, none⟩ (.slice A l.length c)).heap[b]? = W.heap[b]? := fun b hb => Below.heap_setCell _ _ _ _ (fun e => hb (by first | exact e | exact e.symm))
      refine ⟨fun b => b = m0 + 1 ∨ b = n0 ∨ (Value.slice A l.length c).ownBlock = some b, ⟨A, c, l, (World.cell?_of_block (a := ⟨m0 + 1, 0, none⟩) (hkb _ (by show m0 + 1 ≠ n0; omega))).trans h1, World.cell?_setCell_same' _ _ _ (by rw [h2]; rfl), by rw [World.frozen?_setCell]; exact h3, own_block hpH.out (fun b hb => hkb b (hne b hb).2), h5, by rw [nblk_set]; exact h6, hne, fun b => Iff.rfl, fun j hj hjk => ?_⟩, ⟨rfl, rfl, rfl, by rw [nblk_set]; exact Nat.le_refl _, fun b _ hb => hkb b (fun e => hb ((h8 b).2 (.inr (.inl e))))⟩, fun b hb => ?_, fun b hb => ?_⟩
      · obtain rfl : j = k := by omega
        exact hl.symm
      · rcases hb with e | e | e
        · exact .inl ((h8 b).2 (.inl e))
        · exact .inl ((h8 b).2 (.inr (.inl e)))
        · exact .inr (.inr e)
      · rw [nblk_set]
        rcases hb with e | e | e
        · omega
        · omega
        · exact (World.ownsRow.lt hpH.out b e).2
    replace hki := Lib.hid hki
    clear h4 h7 h8 h9
    go_enter Try.func29, Try.ntmps29
    go_wp2_with fail
    refine bodyPost_end (results_none rfl _ _ _) rfl ?_
    exact ⟨rfl, hend.out⟩
  | false =>
    have hki : i ≠ (k : Int) := fun e => by rw [e] at he; simp at he
    have hend : Hid (∃ O', PI m0 n0 i t (k + 1) O' W ∧ VFr O O' (Value.slice A l.length c).ownBlock W W) := by
      refine ⟨O, ⟨A0, c0, l0, h1, h2, h3, h4, h5, h6, h7, h8, fun j hj hjk => h9 j hj (by omega)⟩, GFr.refl _ _, fun b hb => .inl hb, fun b hb => (hOH.out b hb).2⟩
    replace hki := Lib.hid hki
    clear h4 h7 h8 h9
    go_enter Try.func29, Try.ntmps29
    go_wp2_with fail
    refine bodyPost_end (results_none rfl _ _ _) rfl ?_
    exact ⟨rfl, hend.out⟩
set_option maxRecDepth 100000 in
set_option maxHeartbeats 4000000 in
theorem ppath_inv (f q i : Int) (At : Option Addr) (t : List Nd) (ct : Nat) (w : World) (hT : RecAt nEnc 4 w w.heap.size At t) (hl : t.length ≤ 1000) (hv : treeB f q t = false) :
    Calls Try.prog 9 #[.agg #[.int .i64 f, .int .i64 q], .slice At t.length ct, .int .i64 i] w fun e w' => e = .returned (.tuple #[.slice none 0 0, .int .i64 2]) ∧ Below w.heap.size w w' := by
  have hTH : Hid (∀ W, Below w.heap.size w W → RecAt nEnc 4 W W.heap.size At t) := fun W hb => (hT.below (Nat.le_refl _) hb).more hb.size
  have hS := Sz2.new w f q 23
  have hb3 : Hid (Below w.heap.size w ((w.alloc (.cells #[.int .i64 f, .int .i64 q] 23)).alloc (.cells #[.int .i64 i] 3))) := ((Below.refl _ _).alloc (Nat.le_refl _) _).alloc (by simp) _
  have hbs : Below (w.alloc (.cells #[.int .i64 f, .int .i64 q] 23)).heap.size (w.alloc (.cells #[.int .i64 f, .int .i64 q] 23)) ((w.alloc (.cells #[.int .i64 f, .int .i64 q] 23)).alloc (.cells #[.int .i64 i] 3)) := (Below.refl _ _).alloc (Nat.le_refl _) _
  have hS3 := Lib.hid (hS.next hbs)
  have hi3 : Hid (((w.alloc (.cells #[.int .i64 f, .int .i64 q] 23)).alloc (.cells #[.int .i64 i] 3)).cell? ⟨w.heap.size + 1, 0, none⟩ = some (.int .i64 i)) := by
    have h := cell_new (w := w.alloc (.cells #[.int .i64 f, .int .i64 q] 23)) (v := .int .i64 i) (t := 3)
    rwa [show (w.alloc (.cells #[.int .i64 f, .int .i64 q] 23)).heap.size = w.heap.size + 1 by simp] at h
  have hb3s : w.heap.size + 1 < ((w.alloc (.cells #[.int .i64 f, .int .i64 q] 23)).alloc (.cells #[.int .i64 i] 3)).heap.size := by simp
  clear hT hS hbs
  go_enter Try.func9, Try.ntmps9
  go_upto_region 1 with fail
  generalize ((w.alloc (.cells #[.int .i64 f, .int .i64 q] 23)).alloc (.cells #[.int .i64 i] 3)) = w3 at *
  have c0 := hS3.out.c0
  have c1 := hS3.out.c1
  have c2 := hi3.out
  go_wp2_with (go_at_call 21; refine (ptree _ _ _ _ _ _ (hTH.out _ hb3.out) hl).mono ?_; rintro e w4 ⟨rfl, hbv⟩; rw [hv]; replace hbv := Lib.hid (hb3.out.trans (hbv.mono hb3.out.size)))
  go_ret2
  exact ⟨rfl, hbv.out⟩
set_option maxRecDepth 100000 in
set_option maxHeartbeats 4000000 in
theorem ppath_out (f q i : Int) (At : Option Addr) (t : List Nd) (ct : Nat) (w : World) (hT : RecAt nEnc 4 w w.heap.size At t) (hl : t.length ≤ 1000) (hv : treeB f q t = true) (hi : i < 0 ∨ 0 ≤ i ∧ (t.length : Int) ≤ i) :
    Calls Try.prog 9 #[.agg #[.int .i64 f, .int .i64 q], .slice At t.length ct, .int .i64 i] w fun e w' => e = .returned (.tuple #[.slice none 0 0, .int .i64 2]) ∧ Below w.heap.size w w' := by
  rcases hi with hi | ⟨hi0, hi⟩
  · skip
    have hTH : Hid (∀ W, Below w.heap.size w W → RecAt nEnc 4 W W.heap.size At t) := fun W hb => (hT.below (Nat.le_refl _) hb).more hb.size
    have hS := Sz2.new w f q 23
    have hb3 : Hid (Below w.heap.size w ((w.alloc (.cells #[.int .i64 f, .int .i64 q] 23)).alloc (.cells #[.int .i64 i] 3))) := ((Below.refl _ _).alloc (Nat.le_refl _) _).alloc (by simp) _
    have hbs : Below (w.alloc (.cells #[.int .i64 f, .int .i64 q] 23)).heap.size (w.alloc (.cells #[.int .i64 f, .int .i64 q] 23)) ((w.alloc (.cells #[.int .i64 f, .int .i64 q] 23)).alloc (.cells #[.int .i64 i] 3)) := (Below.refl _ _).alloc (Nat.le_refl _) _
    have hS3 := Lib.hid (hS.next hbs)
    have hi3 : Hid (((w.alloc (.cells #[.int .i64 f, .int .i64 q] 23)).alloc (.cells #[.int .i64 i] 3)).cell? ⟨w.heap.size + 1, 0, none⟩ = some (.int .i64 i)) := by
      have h := cell_new (w := w.alloc (.cells #[.int .i64 f, .int .i64 q] 23)) (v := .int .i64 i) (t := 3)
      rwa [show (w.alloc (.cells #[.int .i64 f, .int .i64 q] 23)).heap.size = w.heap.size + 1 by simp] at h
    have hb3s : w.heap.size + 1 < ((w.alloc (.cells #[.int .i64 f, .int .i64 q] 23)).alloc (.cells #[.int .i64 i] 3)).heap.size := by simp
    clear hT hS hbs
    go_enter Try.func9, Try.ntmps9
    go_upto_region 1 with fail
    generalize ((w.alloc (.cells #[.int .i64 f, .int .i64 q] 23)).alloc (.cells #[.int .i64 i] 3)) = w3 at *
    have c0 := hS3.out.c0
    have c1 := hS3.out.c1
    have c2 := hi3.out
    go_wp2_with (go_at_call 21; refine (ptree _ _ _ _ _ _ (hTH.out _ hb3.out) hl).mono ?_; rintro e w4 ⟨rfl, hbv⟩; rw [hv]; replace c2 := (hbv.cell (p := ⟨w.heap.size + 1, 0, none⟩) hb3s).trans c2; replace hbv := Lib.hid (hb3.out.trans (hbv.mono hb3.out.size)))
    go_ret2
    exact ⟨rfl, hbv.out⟩
  · skip
    have hTH : Hid (∀ W, Below w.heap.size w W → RecAt nEnc 4 W W.heap.size At t) := fun W hb => (hT.below (Nat.le_refl _) hb).more hb.size
    have hS := Sz2.new w f q 23
    have hb3 : Hid (Below w.heap.size w ((w.alloc (.cells #[.int .i64 f, .int .i64 q] 23)).alloc (.cells #[.int .i64 i] 3))) := ((Below.refl _ _).alloc (Nat.le_refl _) _).alloc (by simp) _
    have hbs : Below (w.alloc (.cells #[.int .i64 f, .int .i64 q] 23)).heap.size (w.alloc (.cells #[.int .i64 f, .int .i64 q] 23)) ((w.alloc (.cells #[.int .i64 f, .int .i64 q] 23)).alloc (.cells #[.int .i64 i] 3)) := (Below.refl _ _).alloc (Nat.le_refl _) _
    have hS3 := Lib.hid (hS.next hbs)
    have hi3 : Hid (((w.alloc (.cells #[.int .i64 f, .int .i64 q] 23)).alloc (.cells #[.int .i64 i] 3)).cell? ⟨w.heap.size + 1, 0, none⟩ = some (.int .i64 i)) := by
      have h := cell_new (w := w.alloc (.cells #[.int .i64 f, .int .i64 q] 23)) (v := .int .i64 i) (t := 3)
      rwa [show (w.alloc (.cells #[.int .i64 f, .int .i64 q] 23)).heap.size = w.heap.size + 1 by simp] at h
    have hb3s : w.heap.size + 1 < ((w.alloc (.cells #[.int .i64 f, .int .i64 q] 23)).alloc (.cells #[.int .i64 i] 3)).heap.size := by simp
    clear hT hS hbs
    go_enter Try.func9, Try.ntmps9
    go_upto_region 1 with fail
    generalize ((w.alloc (.cells #[.int .i64 f, .int .i64 q] 23)).alloc (.cells #[.int .i64 i] 3)) = w3 at *
    have c0 := hS3.out.c0
    have c1 := hS3.out.c1
    have c2 := hi3.out
    go_wp2_with (go_at_call 21; refine (ptree _ _ _ _ _ _ (hTH.out _ hb3.out) hl).mono ?_; rintro e w4 ⟨rfl, hbv⟩; rw [hv]; replace c2 := (hbv.cell (p := ⟨w.heap.size + 1, 0, none⟩) hb3s).trans c2; replace hbv := Lib.hid (hb3.out.trans (hbv.mono hb3.out.size)))
    go_ret2
    exact ⟨rfl, hbv.out⟩
set_option maxRecDepth 100000 in
set_option maxHeartbeats 4000000 in
theorem ppath_yes (f q : Int) (k0 : Nat) (At : Option Addr) (t : List Nd) (ct : Nat) (w : World) (hT : RecAt nEnc 4 w w.heap.size At t) (hl : t.length ≤ 1000) (hv : treeB f q t = true) (hk : k0 < t.length) :
    Calls Try.prog 9 #[.agg #[.int .i64 f, .int .i64 q], .slice At t.length ct, .int .i64 (k0 : Int)] w fun e w' => ∃ A c, e = .returned (.tuple #[.slice A (pth (back t (k0 + 1))).length c, .int .i64 0]) ∧ RecAt iEnc 1 w' w'.heap.size A (pth (back t (k0 + 1))) ∧ Below w.heap.size w w' := by
  obtain ⟨hz, hok⟩ := treeB_out hv
  obtain ⟨full, hfull⟩ : ∃ full, pth (back t (k0 + 1)) = full := ⟨_, rfl⟩
  rw [hfull]
  have hfullH := Lib.hid hfull
  clear hfull
  obtain ⟨i, hi⟩ : ∃ i : Int, (k0 : Int) = i := ⟨_, rfl⟩
  rw [hi]
  have hi0 : 0 ≤ i := by omega
  have hi1 : i < (t.length : Int) := by omega
  have hiH := Lib.hid hi
  clear hi
  have hTH : Hid (∀ W, Below w.heap.size w W → RecAt nEnc 4 W W.heap.size At t) := fun W hb => (hT.below (Nat.le_refl _) hb).more hb.size
  have hS := Sz2.new w f q 23
  have hb3 : Hid (Below w.heap.size w ((w.alloc (.cells #[.int .i64 f, .int .i64 q] 23)).alloc (.cells #[.int .i64 i] 3))) := ((Below.refl _ _).alloc (Nat.le_refl _) _).alloc (by simp) _
  have hbs : Below (w.alloc (.cells #[.int .i64 f, .int .i64 q] 23)).heap.size (w.alloc (.cells #[.int .i64 f, .int .i64 q] 23)) ((w.alloc (.cells #[.int .i64 f, .int .i64 q] 23)).alloc (.cells #[.int .i64 i] 3)) := (Below.refl _ _).alloc (Nat.le_refl _) _
  have hS3 := Lib.hid (hS.next hbs)
  have hi3 : Hid (((w.alloc (.cells #[.int .i64 f, .int .i64 q] 23)).alloc (.cells #[.int .i64 i] 3)).cell? ⟨w.heap.size + 1, 0, none⟩ = some (.int .i64 i)) := by
    have h := cell_new (w := w.alloc (.cells #[.int .i64 f, .int .i64 q] 23)) (v := .int .i64 i) (t := 3)
    rwa [show (w.alloc (.cells #[.int .i64 f, .int .i64 q] 23)).heap.size = w.heap.size + 1 by simp] at h
  have hb3s : w.heap.size + 1 < ((w.alloc (.cells #[.int .i64 f, .int .i64 q] 23)).alloc (.cells #[.int .i64 i] 3)).heap.size := by simp
  clear hT hS hbs
  go_enter Try.func9, Try.ntmps9
  go_upto_region 1 with fail
  generalize ((w.alloc (.cells #[.int .i64 f, .int .i64 q] 23)).alloc (.cells #[.int .i64 i] 3)) = w3 at *
  have c0 := hS3.out.c0
  have c1 := hS3.out.c1
  have c2 := hi3.out
  go_upto_region 3 with (go_at_call 21; refine (ptree _ _ _ _ _ _ (hTH.out _ hb3.out) (by omega)).mono ?_; rintro e w4 ⟨rfl, hbv⟩; rw [hv]; replace c2 := (hbv.cell (p := ⟨w.heap.size + 1, 0, none⟩) hb3s).trans c2; replace hbv := Lib.hid hbv)
  have hbw4 := Lib.hid (hb3.out.trans (hbv.out.mono hb3.out.size))
  have hcs := hbv.out.size
  have hT4 : RecAt nEnc 4 w4 w.heap.size At t := (hTH.out w (Below.refl _ _)).below (Nat.le_refl _) hbw4.out
  have hb5 : Hid (Below w4.heap.size w4 (w4.alloc (.cells #[.slice none 0 0] 27))) := (Below.refl _ _).alloc (Nat.le_refl _) _
  have k3 := Lib.hid (cell_new (w := w4) (v := .slice none 0 0) (t := 27))
  have k4 := Lib.hid (fresh_new (w := w4) (v := .slice none 0 0) (t := 27))
  have c5 := Lib.hid ((hb5.out.cell (p := ⟨w.heap.size + 1, 0, none⟩) (by show w.heap.size + 1 < _; omega)).trans c2)
  have hs5 : (w4.alloc (.cells #[.slice none 0 0] 27)).heap.size = w4.heap.size + 1 := by simp
  have hT5 := Lib.hid (hT4.below (Nat.le_refl _) (hb5.out.mono (by omega)))
  clear hbv c0 c1 c2 hT4 hi3 hS3
  go_upto_region 4 with fail
  generalize w4.alloc (.cells #[.slice none 0 0] 27) = w5 at *
  have hbw5 := Lib.hid (hbw4.out.trans (hb5.out.mono (by omega)))
  obtain ⟨n0, hn0⟩ : ∃ n0, w4.heap.size = n0 := ⟨_, rfl⟩
  rw [hn0] at hs5 k3 k4 hcs ⊢
  obtain ⟨O0, hO0⟩ : ∃ O0 : Nat → Prop, O0 = fun b => b = w.heap.size + 1 ∨ b = n0 := ⟨_, rfl⟩
  have hPI : PI w.heap.size n0 i t 0 O0 w5 := ⟨none, 0, [], c5.out, k3.out, k4.out, owns_nil, by omega, by omega, fun b hb => (by cases hb), fun b => (by
    rw [hO0]
    constructor
    · rintro (h | h)
      · exact .inl h
      · exact .inr (.inl h)
    · rintro (h | h | h)
      · exact .inl h
      · exact .inr h
      · cases h), fun j hj hlt => (by omega)⟩
  have hV : Visit 29 #[.pointer (some ⟨w.heap.size + 1, 0, none⟩), .pointer (some ⟨n0, 0, none⟩)] t w.heap.size (PI w.heap.size n0 i t) :=
    fun k x O W A c hx hI hO hb hp hd => ppath1 w.heap.size n0 i t k x O W A c hx hI hO hp hd
  have hcall := Lib.hid (ptraces 29 _ f q (PI w.heap.size n0 i t) w.heap.size O0 At t ct w5 enter29 (PI.stays w.heap.size n0 i t) hV hT5.out (by omega) hok hPI (fun b hb => by rw [hO0] at hb; rcases hb with h | h <;> omega) (by omega))
  clear hV hPI
  replace hs5 := Lib.hid hs5
  replace hn0 := Lib.hid hn0
  go_wp2_with (go_at_call 28; refine hcall.out.mono ?_; rintro e w6 ⟨rfl, O, hI6, hG6, hO6⟩; replace hG6 := Lib.hid hG6; clear hO6; obtain ⟨A6, c6, l6, hq1, hq2, hq3, hq4, hq5, hq6, hq7, hq8, hq9⟩ := hI6; have hfe := Lib.hid (hq9 k0 hiH.out.symm hk); replace hq4 := Lib.hid hq4; clear hq1 hq3 hq7 hq8 hq9)
  go_ret2
  have hle : l6 = full := hfe.out.trans hfullH.out
  subst hle
  refine ⟨A6, c6, rfl, RecAt.of_own iEnc_len rfl hq4.out, hbw5.out.trans (hG6.out.below (b0 := w.heap.size) (fun b hb => by rw [hO0] at hb; rcases hb with h | h <;> omega) (by have := hbw5.out.size; omega))⟩
end Go.Proofs.Yteaclphankckiaa
