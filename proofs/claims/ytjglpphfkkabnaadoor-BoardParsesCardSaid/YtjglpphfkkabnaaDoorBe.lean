/- Layer 3: a board with a piece put, a board without pieces: the program's and the reference's. -/
import Derived.Test.YtjglpphfkkabnaaDoorBd
import Derived.Laws.MakeOwn
namespace Go.Proofs.YtjglpphfkkabnaaDoor
open Go.RowKit
set_option linter.unusedSimpArgs false
set_option linter.unusedVariables false

theorem flatQ (l : List Int) : flatR qEnc l = l.map (Value.int .i8) := by
  induction l with
  | nil => rfl
  | cons x l ih => show qEnc x ++ flatR qEnc l = _; rw [ih]; rfl
theorem Tri.other {w : World} {B : Nat} {x y z : Value} (h : Tri w B x y z) {a : Addr} (ha : a.block ≠ B) (v : Value) : Tri (w.setCell a v) B x y z := by
  have e : ∀ i : Nat, (w.setCell a v).cell? ⟨B, i, none⟩ = w.cell? ⟨B, i, none⟩ := fun i => World.cell?_setCell_other w a ⟨B, i, none⟩ v (by intro e; rw [e] at ha; exact ha rfl)
  exact ⟨(e 0).trans h.c0, (e 1).trans h.c1, (e 2).trans h.c2, fun i => by rw [World.frozen?_setCell]; exact h.fr i, by rw [nblk_set]; exact h.lt⟩
section
variable {base : Nat} {e : TypeId} {w0 W : World} {A : Option Addr} {c : Nat} {l : List Int}
theorem O1.qform (h : O1 qEnc 1 base e w0 W A c l) (h0 : 0 < l.length) : ∃ g, A = some ⟨g, 0, none⟩ ∧ base ≤ g := by
  rcases h.own.2 with ⟨_, h1⟩ | ⟨g, cap, cur, hv, hb, _⟩
  · omega
  · simp only [Value.slice.injEq] at hv
    exact ⟨g, hv.1, hb⟩
theorem O1.qcell {g : Nat} (h : O1 qEnc 1 base e w0 W (some ⟨g, 0, none⟩) c l) {k : Nat} {x : Int} (hx : l[k]? = some x) : W.cell? ⟨g, k, none⟩ = some (.int .i8 x) := by
  have hk : k < l.length := (List.getElem?_eq_some_iff.1 hx).1
  have h2 := World.ownsRow.cellAt h.own k (by omega)
  rw [h2, flatQ, List.getElem?_map, hx]; rfl
theorem O1.setAt {g : Nat} (h : O1 qEnc 1 base e w0 W (some ⟨g, 0, none⟩) c l) (k : Nat) (p : Int) : O1 qEnc 1 base e w0 (W.setCell ⟨g, k, none⟩ (.int .i8 p)) (some ⟨g, 0, none⟩) c (l.set k p) := by
  have ho := h.own
  obtain ⟨h1, h2⟩ := World.ownsRow.stored ho k (.int .i8 p)
  refine ⟨?_, h.below.grown h2 h.size (fun k hk => (World.ownsRow.lt ho k hk).1), Nat.le_trans h.size h2.size⟩
  unfold Own1
  rw [flatQ] at h1
  rw [List.length_set, flatQ, List.map_set]
  exact h1
theorem O1.drew (h : O1 qEnc 1 base e w0 W A c l) : O1 qEnc 1 base e w0 W.drew A c l := ⟨h.own, h.below.drew, h.size⟩
end
theorem O1.made (w : World) (n : Nat) (hn : n ≤ maxLen) (e : TypeId) : O1 qEnc 1 w.heap.size e w (w.alloc (.cells (madeCells #[.int .i8 0] n) e)) (some ⟨w.heap.size, 0, none⟩) n (List.replicate n 0) := by
  have hc : (madeCells #[Value.int .i8 0] n).toList = (List.replicate n (0 : Int)).map (Value.int .i8) := by
    rw [List.map_replicate]
    apply List.ext_getElem
    · simp [madeCells]
    · intro i h1 h2
      simp [madeCells, Nat.mod_one]
  refine ⟨?_, (Below.refl _ _).alloc (Nat.le_refl _) _, by simp⟩
  unfold Own1
  rw [List.length_replicate, flatQ, ← hc]
  have h := World.ownsRow_lit w (base := w.heap.size) (e := e) (size := 1) (madeCells #[.int .i8 0] n) n (Nat.le_refl _) hn (by rw [size_madeCells]; omega)
  exact h
theorem run_make_q (W : World) (n : Nat) (hn : n ≤ 1000) : (Instr.makeSlice 24 (.int .i64 (n : Int)) (.int .i64 (n : Int))).run Tryd.prog W = .ok (.slice (some ⟨W.heap.size, 0, none⟩) n n) (W.alloc (.cells (madeCells #[.int .i8 0] n) 28)) := by
  obtain ⟨ht, h0, hb, i, z, hi, hz, hsz, hby, hzs⟩ := pieceRow
  have hzv : z = .int .i8 0 := by
    have h2 : (Tryd.prog.info? 28).map (·.zero) = some (some (.int .i8 0)) := by kernel_rfl
    rw [hi, Option.map_some, hz] at h2
    simpa using h2
  have h := run_make (P := Tryd.prog) W 24 28 i z ht hi hz .i64 .i64 (n : Int) (n : Int) (by omega) (Int.le_refl _) (by rw [hby]; omega) (by omega)
  rw [hsz, hzv, show (Value.int .i8 0).cells = #[.int .i8 0] from rfl] at h
  simpa using h
set_option maxRecDepth 100000 in
set_option maxHeartbeats 1000000 in
theorem pput_yes (f r : Int) (A : Option Addr) (c : Nat) (l : List Int) (k : Nat) (p : Int) (w : World) (hA : PcsAt w w.heap.size A l) (hl : l.length ≤ 64) (hv : bdB f r l = true) (hk : k < l.length) (hp : okP p = true) :
    Calls Tryd.prog 13 #[bV f r A l.length c, .int .i64 (k : Int), .int .i8 p] w (NewBE f r (l.set k p) 0 w) := by
  have hAW : Hid (∀ W, Below w.heap.size w W → PcsAt W W.heap.size A l) := fun W hb => (hA.below (Nat.le_refl _) hb).more hb.size
  have hK := Lib.hid ((KB.first f r A l.length c w 26).alloc (.cells #[.int .i64 0, .int .i64 0, .slice none 0 0] 26))
  have hT := Lib.hid (tri_two w (.cells #[.int .i64 f, .int .i64 r, .slice A l.length c] 26) (.int .i64 0) (.int .i64 0) (.slice none 0 0) 26)
  have hs : sqB f r (k : Int) = true := by
    obtain ⟨h1, h2, _⟩ := bdB_out hv
    rw [sqB_in h1]
    exact decide_eq_true ⟨by omega, by omega⟩
  obtain ⟨x, hx⟩ : ∃ x, l[k]? = some x := ⟨_, List.getElem?_eq_getElem hk⟩
  replace hx := Lib.hid hx
  have hki : (k : Int) < (l.length : Int) := by omega
  have c0 := hK.out.c0
  have c1 := hK.out.c1
  have c2 := hK.out.c2
  clear hA
  go_enter Tryd.func13, Tryd.ntmps13
  go_wp2_with (first
    | (go_at_call 34; refine (pbvalid _ _ _ _ _ _ (hAW.out _ hK.out.below) (by omega)).mono ?_; rintro e w1 ⟨rfl, hbw⟩; rw [hv]; replace hK := Lib.hid (hK.out.next hbw); replace hT := Lib.hid (hT.out.next hbw); replace c0 := hK.out.c0; replace c1 := hK.out.c1; replace c2 := hK.out.c2; clear hbw)
    | (go_at_call 37; refine (pvalidsq _ _ _ _).mono ?_; rintro e w1 ⟨rfl, hbw⟩; rw [hs]; replace hK := Lib.hid (hK.out.next hbw); replace hT := Lib.hid (hT.out.next hbw); replace c0 := hK.out.c0; replace c1 := hK.out.c1; replace c2 := hK.out.c2; clear hbw)
    | (go_at_call 38; refine (pvalidp _ _).mono ?_; rintro e w' ⟨rfl, rfl⟩; rw [hp]))
  go_at_call 33
  refine (pcopy _ _ _ _ _ _ (hAW.out _ hK.out.below) (by omega)).mono ?_
  rintro e w2 ⟨A2, c2', rfl, hO⟩
  have hbz := hT.out.lt
  have hbb := Lib.hid hK.out.below
  replace hT := Lib.hid (hT.out.next hO.below)
  obtain ⟨g, rfl, hg⟩ := hO.qform (by omega)
  have hg2 : g < w2.heap.size := (World.ownsRow.lt hO.own g rfl).2
  have hT2 := Lib.hid (tri_new w2 w2.heap.size (.int .i64 f) (.int .i64 r) (.slice (some ⟨g, 0, none⟩) l.length c2') 26 rfl)
  replace hO := Lib.hid (hO.alloc (.cells #[.int .i64 f, .int .i64 r, .slice (some ⟨g, 0, none⟩) l.length c2'] 26))
  replace hT := Lib.hid (hT.out.alloc (.cells #[.int .i64 f, .int .i64 r, .slice (some ⟨g, 0, none⟩) l.length c2'] 26))
  clear c0 c1 c2
  go_upto_region 4 with fail
  generalize hB3 : w2.heap.size = B3 at *
  generalize w2.alloc (.cells #[.int .i64 f, .int .i64 r, .slice (some ⟨g, 0, none⟩) l.length c2'] 26) = w3 at *
  clear hB3
  have d0 := hT2.out.c0
  have d1 := hT2.out.c1
  have d2 := hT2.out.c2
  have q0 := hO.out.qcell hx.out
  have q1 := World.ownsRow.frozenAt hO.out.own k
  go_upto_region 5 with fail
  clear d0 d1 d2 q0 q1
  replace hO := Lib.hid (hO.out.setAt k p)
  replace hT := Lib.hid (hT.out.other (a := ⟨g, k, none⟩) (by show g ≠ _; omega) (.int .i8 p))
  replace hT2 := Lib.hid (hT2.out.other (a := ⟨g, k, none⟩) (by show g ≠ _; omega) (.int .i8 p))
  generalize w3.setCell ⟨g, k, none⟩ (.int .i8 p) = w4 at *
  have d0 := hT2.out.c0
  have d1 := hT2.out.c1
  have d2 := hT2.out.c2
  have m0 := hT.out.c0
  have m1 := hT.out.c1
  have m2 := hT.out.c2
  have n0 := hT.out.fr 0
  have n1 := hT.out.fr 1
  have n2 := hT.out.fr 2
  go_wp2_with fail
  obtain ⟨s0, s1, s2⟩ := set3 m0 m1 m2 (.int .i64 f) (.int .i64 r) (.slice (some ⟨g, 0, none⟩) l.length c2')
  exact bodyPost_ret (v := .tuple #[bV f r (some ⟨g, 0, none⟩) l.length c2', .int .i64 0]) (by simp [results, Tryd.results13, go_sem, s0, s1, s2]) rfl ⟨some ⟨g, 0, none⟩, c2', by rw [List.length_set], hO.out.set3 hbz (by omega) hbb.out _ _ _⟩
theorem bv0 : bV 0 0 none ([] : List Int).length 0 = .agg #[.int .i64 0, .int .i64 0, .slice none 0 0] := rfl
set_option maxRecDepth 100000 in
set_option maxHeartbeats 1000000 in
theorem pput_no (f r : Int) (A : Option Addr) (c : Nat) (l : List Int) (k : Int) (p : Int) (w : World) (hA : PcsAt w w.heap.size A l) (hl : l.length ≤ 100000) (hv : bdB f r l = false ∨ (bdB f r l = true ∧ sqB f r k = false) ∨ (bdB f r l = true ∧ sqB f r k = true ∧ okP p = false)) :
    Calls Tryd.prog 13 #[bV f r A l.length c, .int .i64 k, .int .i8 p] w (NewBE 0 0 [] 2 w) := by
  have hAW : Hid (∀ W, Below w.heap.size w W → PcsAt W W.heap.size A l) := fun W hb => (hA.below (Nat.le_refl _) hb).more hb.size
  have hK := Lib.hid ((KB.first f r A l.length c w 26).alloc (.cells #[.int .i64 0, .int .i64 0, .slice none 0 0] 26))
  have hT := Lib.hid (tri_two w (.cells #[.int .i64 f, .int .i64 r, .slice A l.length c] 26) (.int .i64 0) (.int .i64 0) (.slice none 0 0) 26)
  have c0 := hK.out.c0
  have c1 := hK.out.c1
  have c2 := hK.out.c2
  have m0 := hT.out.c0
  have m1 := hT.out.c1
  have m2 := hT.out.c2
  have n0 := hT.out.fr 0
  have n1 := hT.out.fr 1
  have n2 := hT.out.fr 2
  clear hA
  rcases hv with hv | ⟨hv, hs⟩ | ⟨hv, hs, hp⟩
  · go_enter Tryd.func13, Tryd.ntmps13
    go_wp2_with (first | (go_at_call 34; refine (pbvalid _ _ _ _ _ _ (hAW.out _ hK.out.below) hl).mono ?_; rintro e w1 ⟨rfl, hbw⟩; rw [hv]; replace hK := Lib.hid (hK.out.next hbw); replace hT := Lib.hid (hT.out.next hbw); replace c0 := hK.out.c0; replace c1 := hK.out.c1; replace c2 := hK.out.c2; replace m0 := hT.out.c0; replace m1 := hT.out.c1; replace m2 := hT.out.c2; replace n0 := hT.out.fr 0; replace n1 := hT.out.fr 1; replace n2 := hT.out.fr 2; clear hbw))
    obtain ⟨s0, s1, s2⟩ := set3 m0 m1 m2 (.int .i64 0) (.int .i64 0) (.slice none 0 0)
    exact bodyPost_ret (v := .tuple #[bV 0 0 none 0 0, .int .i64 2]) (by simp [results, Tryd.results13, go_sem, s0, s1, s2]) rfl ⟨none, 0, rfl, O1.nil (below_set3 hK.out.below (by omega) _ _ _) (by rw [nblk_set, nblk_set, nblk_set]; exact hK.out.below.size)⟩
  · go_enter Tryd.func13, Tryd.ntmps13
    go_wp2_with (first | (go_at_call 34; refine (pbvalid _ _ _ _ _ _ (hAW.out _ hK.out.below) hl).mono ?_; rintro e w1 ⟨rfl, hbw⟩; rw [hv]; replace hK := Lib.hid (hK.out.next hbw); replace hT := Lib.hid (hT.out.next hbw); replace c0 := hK.out.c0; replace c1 := hK.out.c1; replace c2 := hK.out.c2; replace m0 := hT.out.c0; replace m1 := hT.out.c1; replace m2 := hT.out.c2; replace n0 := hT.out.fr 0; replace n1 := hT.out.fr 1; replace n2 := hT.out.fr 2; clear hbw) | (go_at_call 37; refine (pvalidsq _ _ _ _).mono ?_; rintro e w1 ⟨rfl, hbw⟩; rw [hs]; replace hK := Lib.hid (hK.out.next hbw); replace hT := Lib.hid (hT.out.next hbw); replace c0 := hK.out.c0; replace c1 := hK.out.c1; replace c2 := hK.out.c2; replace m0 := hT.out.c0; replace m1 := hT.out.c1; replace m2 := hT.out.c2; replace n0 := hT.out.fr 0; replace n1 := hT.out.fr 1; replace n2 := hT.out.fr 2; clear hbw))
    obtain ⟨s0, s1, s2⟩ := set3 m0 m1 m2 (.int .i64 0) (.int .i64 0) (.slice none 0 0)
    exact bodyPost_ret (v := .tuple #[bV 0 0 none 0 0, .int .i64 2]) (by simp [results, Tryd.results13, go_sem, s0, s1, s2]) rfl ⟨none, 0, rfl, O1.nil (below_set3 hK.out.below (by omega) _ _ _) (by rw [nblk_set, nblk_set, nblk_set]; exact hK.out.below.size)⟩
  · go_enter Tryd.func13, Tryd.ntmps13
    go_wp2_with (first | (go_at_call 34; refine (pbvalid _ _ _ _ _ _ (hAW.out _ hK.out.below) hl).mono ?_; rintro e w1 ⟨rfl, hbw⟩; rw [hv]; replace hK := Lib.hid (hK.out.next hbw); replace hT := Lib.hid (hT.out.next hbw); replace c0 := hK.out.c0; replace c1 := hK.out.c1; replace c2 := hK.out.c2; replace m0 := hT.out.c0; replace m1 := hT.out.c1; replace m2 := hT.out.c2; replace n0 := hT.out.fr 0; replace n1 := hT.out.fr 1; replace n2 := hT.out.fr 2; clear hbw) | (go_at_call 37; refine (pvalidsq _ _ _ _).mono ?_; rintro e w1 ⟨rfl, hbw⟩; rw [hs]; replace hK := Lib.hid (hK.out.next hbw); replace hT := Lib.hid (hT.out.next hbw); replace c0 := hK.out.c0; replace c1 := hK.out.c1; replace c2 := hK.out.c2; replace m0 := hT.out.c0; replace m1 := hT.out.c1; replace m2 := hT.out.c2; replace n0 := hT.out.fr 0; replace n1 := hT.out.fr 1; replace n2 := hT.out.fr 2; clear hbw) | (go_at_call 38; refine (pvalidp _ _).mono ?_; rintro e w' ⟨rfl, rfl⟩; rw [hp]))
    obtain ⟨s0, s1, s2⟩ := set3 m0 m1 m2 (.int .i64 0) (.int .i64 0) (.slice none 0 0)
    exact bodyPost_ret (v := .tuple #[bV 0 0 none 0 0, .int .i64 2]) (by simp [results, Tryd.results13, go_sem, s0, s1, s2]) rfl ⟨none, 0, rfl, O1.nil (below_set3 hK.out.below (by omega) _ _ _) (by rw [nblk_set, nblk_set, nblk_set]; exact hK.out.below.size)⟩
set_option maxRecDepth 100000 in
set_option maxHeartbeats 1000000 in
theorem rput (f r : Int) (A : Option Addr) (c : Nat) (l : List Int) (k : Nat) (p : Int) (w : World) (hA : PcsAt w w.heap.size A l) (hl : l.length ≤ 64) (hk : k < l.length) :
    Calls Tryd.prog 20 #[bV f r A l.length c, .int .i64 (k : Int), .int .i8 p] w (NewB f r (l.set k p) w) := by
  have hAW : Hid (∀ W, Below w.heap.size w W → PcsAt W W.heap.size A l) := fun W hb => (hA.below (Nat.le_refl _) hb).more hb.size
  have hK := Lib.hid ((KB.first f r A l.length c w 26).alloc (.cells #[.int .i64 0, .int .i64 0, .slice none 0 0] 26))
  have hT := Lib.hid (tri_two w (.cells #[.int .i64 f, .int .i64 r, .slice A l.length c] 26) (.int .i64 0) (.int .i64 0) (.slice none 0 0) 26)
  obtain ⟨x, hx⟩ : ∃ x, l[k]? = some x := ⟨_, List.getElem?_eq_getElem hk⟩
  replace hx := Lib.hid hx
  have hki : (k : Int) < (l.length : Int) := by omega
  have c0 := hK.out.c0
  have c1 := hK.out.c1
  have c2 := hK.out.c2
  clear hA
  go_enter Tryd.func20, Tryd.ntmps20
  go_upto_region 1 with fail
  generalize (w.alloc (.cells #[.int .i64 f, .int .i64 r, .slice A l.length c] 26)).alloc (.cells #[.int .i64 0, .int .i64 0, .slice none 0 0] 26) = w1 at *
  go_wp2_with fail
  go_at_call 11
  refine (rcopy _ _ _ _ _ _ (hAW.out _ hK.out.below) (by omega)).mono ?_
  rintro e w2 ⟨A2, c2', rfl, hO⟩
  have hbz := hT.out.lt
  have hbb := Lib.hid hK.out.below
  replace hT := Lib.hid (hT.out.next hO.below)
  obtain ⟨g, rfl, hg⟩ := hO.qform (by omega)
  have hg2 : g < w2.heap.size := (World.ownsRow.lt hO.own g rfl).2
  have hT2 := Lib.hid (tri_new w2 w2.heap.size (.int .i64 f) (.int .i64 r) (.slice (some ⟨g, 0, none⟩) l.length c2') 26 rfl)
  replace hO := Lib.hid (hO.alloc (.cells #[.int .i64 f, .int .i64 r, .slice (some ⟨g, 0, none⟩) l.length c2'] 26))
  replace hT := Lib.hid (hT.out.alloc (.cells #[.int .i64 f, .int .i64 r, .slice (some ⟨g, 0, none⟩) l.length c2'] 26))
  clear c0 c1 c2
  go_upto_region 2 with fail
  generalize hB3 : w2.heap.size = B3 at *
  generalize w2.alloc (.cells #[.int .i64 f, .int .i64 r, .slice (some ⟨g, 0, none⟩) l.length c2'] 26) = w3 at *
  clear hB3
  have d0 := hT2.out.c0
  have d1 := hT2.out.c1
  have d2 := hT2.out.c2
  have q0 := hO.out.qcell hx.out
  have q1 := World.ownsRow.frozenAt hO.out.own k
  go_upto_region 3 with fail
  clear d0 d1 d2 q0 q1
  replace hO := Lib.hid (hO.out.setAt k p)
  replace hT := Lib.hid (hT.out.other (a := ⟨g, k, none⟩) (by show g ≠ _; omega) (.int .i8 p))
  replace hT2 := Lib.hid (hT2.out.other (a := ⟨g, k, none⟩) (by show g ≠ _; omega) (.int .i8 p))
  generalize w3.setCell ⟨g, k, none⟩ (.int .i8 p) = w4 at *
  have d0 := hT2.out.c0
  have d1 := hT2.out.c1
  have d2 := hT2.out.c2
  have m0 := hT.out.c0
  have m1 := hT.out.c1
  have m2 := hT.out.c2
  have n0 := hT.out.fr 0
  have n1 := hT.out.fr 1
  have n2 := hT.out.fr 2
  go_wp2_with fail
  obtain ⟨s0, s1, s2⟩ := set3 m0 m1 m2 (.int .i64 f) (.int .i64 r) (.slice (some ⟨g, 0, none⟩) l.length c2')
  exact bodyPost_ret (v := bV f r (some ⟨g, 0, none⟩) l.length c2') (by simp [results, Tryd.results20, go_sem, s0, s1, s2]) rfl ⟨some ⟨g, 0, none⟩, c2', by rw [List.length_set], hO.out.set3 hbz (by omega) hbb.out _ _ _⟩
end Go.Proofs.YtjglpphfkkabnaaDoor
