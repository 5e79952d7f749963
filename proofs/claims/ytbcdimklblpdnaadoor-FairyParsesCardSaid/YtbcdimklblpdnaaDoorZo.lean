/- Layer 27: set, board and attacks of the statements. -/
import Derived.Test.YtbcdimklblpdnaaDoorZn
import Derived.Test.YtbcdimklblpdnaaDoorYy
namespace Go.Proofs.YtbcdimklblpdnaaDoor
open Go Go.RowKit
set_option linter.unusedSimpArgs false
set_option linter.unusedVariables false
theorem pEnc_one (x : Int) : ∀ u ∈ pEnc x, u.oneCell' = true := by
  intro u hu
  simp only [pEnc, List.mem_cons, List.not_mem_nil, or_false] at hu
  subst hu; rfl
theorem pieceRow : RowOf Tryd.prog 46 51 1 1 :=
  RowOf.mk' (z := .int .i8 0) Tryd.underlying46 (by kernel_rfl) (by decide) (by decide) rfl
theorem flatP (l : List Int) : flatR pEnc l = l.map (Value.int .i8) := flat1 (fun _ => rfl) l
theorem O1.made (w : World) (n : Nat) (hn : n ≤ maxLen) (e : TypeId) : O1 pEnc 1 w.heap.size e w (w.alloc (.cells (madeCells #[.int .i8 0] n) e)) (some ⟨w.heap.size, 0, none⟩) n (List.replicate n 0) := by
  have hc : (madeCells #[Value.int .i8 0] n).toList = (List.replicate n (0 : Int)).map (Value.int .i8) := by
    rw [List.map_replicate]
    apply List.ext_getElem
    · simp [madeCells]
    · intro i h1 h2
      simp [madeCells, Nat.mod_one]
  refine ⟨?_, (Below.refl _ _).alloc (Nat.le_refl _) _, by simp⟩
  unfold Own1
  rw [List.length_replicate, flatP, ← hc]
  have h := World.ownsRow_lit w (base := w.heap.size) (e := e) (size := 1) (madeCells #[.int .i8 0] n) n (Nat.le_refl _) hn (by rw [size_madeCells]; omega)
  exact h
theorem run_make_p (W : World) (n : Nat) (hn : n ≤ 1000) : (Instr.makeSlice 46 (.int .i64 (n : Int)) (.int .i64 (n : Int))).run Tryd.prog W = .ok (.slice (some ⟨W.heap.size, 0, none⟩) n n) (W.alloc (.cells (madeCells #[.int .i8 0] n) 51)) := by
  obtain ⟨ht, h0, hb, i, z, hi, hz, hsz, hby, hzs⟩ := pieceRow
  have hzv : z = .int .i8 0 := by
    have h2 : (Tryd.prog.info? 51).map (·.zero) = some (some (.int .i8 0)) := by kernel_rfl
    rw [hi, Option.map_some, hz] at h2
    simpa using h2
  have h := run_make (P := Tryd.prog) W 46 51 i z ht hi hz .i64 .i64 (n : Int) (n : Int) (by omega) (Int.le_refl _) (by rw [hby]; omega) (by omega)
  rw [hsz, hzv, show (Value.int .i8 0).cells = #[.int .i8 0] from rfl] at h
  simpa using h
theorem O1.set3 {α : Type} {f : α → List Value} {size base b' : Nat} {e : TypeId} {w00 w0 w : World} {A : Option Addr} {c : Nat} {l : List α} (h : O1 f size base e w0 w A c l) {B : Nat} (hB : B < base) (hb : b' ≤ B) (h0 : Below b' w00 w0) (x y z : Value) : O1 f size b' e w00 (((w.setCell ⟨B, 0, none⟩ x).setCell ⟨B, 1, none⟩ y).setCell ⟨B, 2, none⟩ z) A c l := by
  have hne : (Value.slice A l.length c).ownBlock ≠ some B := fun e => by have := (World.ownsRow.lt h.own B e).1; omega
  refine ⟨own_lower (ownsRow_setCell_other (ownsRow_setCell_other (ownsRow_setCell_other h.own hne x) hne y) hne z) (by omega), below_set3 (h0.trans (h.below.mono (by omega))) hb x y z, ?_⟩
  rw [nblk_set, nblk_set, nblk_set]
  have := h.size
  omega
theorem Tri.oth {w : World} {B B' : Nat} {x y z : Value} (h : Tri w B x y z) (hn : B ≠ B') (i : Nat) (v : Value) : Tri (w.setCell ⟨B', i, none⟩ v) B x y z :=
  h.of_block (by
    have := ((Chg.refl [B'] w).setCell (B := B') (by simp) i v).block B h.lt (by simpa using hn)
    exact this) (by rw [nblk_set]; exact Nat.le_refl _)
set_option maxRecDepth 100000 in
set_option maxHeartbeats 1000000 in
theorem rset (l : List Int) (A : Option Addr) (c : Nat) (w : World) (hR : RecAt iEnc 1 w w.heap.size A l) (hl : l.length ≤ 64) (hb : ∀ x ∈ l, 0 ≤ x ∧ x < 64) :
    Calls Tryd.prog 13 #[.slice A l.length c] w fun e w' => e = .returned (.int .u64 (orL l : Nat)) ∧ w = w' := by
  have hRH := Lib.hid hR
  have hbH := Lib.hid hb
  clear hR hb
  go_enter Tryd.func13, Tryd.ntmps13
  go_wp2_with fail
  go_loopw [3, 4] (fun s3 i wr => ∃ (k acc : Nat), k ≤ l.length ∧ i = .int .i64 (k : Int) ∧ s3 = .int .u64 (acc : Int) ∧ Hid (acc = orL (l.take k) ∧ acc < 18446744073709551616) ∧ wr = w) (fun _ i _ => l.length - (intOf i).toNat)
  case atStart => exact ⟨0, 0, by omega, rfl, rfl, ⟨rfl, by decide⟩, rfl⟩
  case round =>
    obtain ⟨k, acc, hk, rfl, rfl, hac, hwr⟩ := hrel
    obtain rfl : w = wr := hwr.symm
    have hk0 : (0 : Int) ≤ (k : Int) := Int.natCast_nonneg _
    by_cases hkl : k < l.length
    rotate_left
    · obtain rfl : k = l.length := by omega
      have hfin : Hid (acc = orL l) := by show acc = _; rw [hac.out.1, List.take_length]
      go_wp2_with fail
      go_ret
      exact ⟨by rw [← hfin.out]; rfl, rfl⟩
    have hkI : (k : Int) < (l.length : Int) := by omega
    obtain ⟨x, hx⟩ : ∃ x, l[k]? = some x := ⟨_, List.getElem?_eq_getElem hkl⟩
    obtain ⟨hx0, hx1⟩ := hbH.out x (List.mem_of_getElem? hx)
    obtain ⟨z, rfl⟩ := Int.eq_ofNat_of_zero_le hx0
    have hz64 : z < 64 := by omega
    have hzI : (z : Int) < 64 := hx1
    obtain ⟨b, o, rfl, hbb, hc⟩ := recI hRH.out hx
    have hop := or_shift2 hac.out.2 hz64
    have hac2 : Hid (acc ||| 2 ^ z = orL (l.take (k + 1)) ∧ acc ||| 2 ^ z < 18446744073709551616) := by
      refine ⟨?_, or_lt hac.out.2 hz64⟩
      rw [take_step hx, orL_snoc, ← hac.out.1]
      rfl
    clear hx hac
    go_wp2_with fail
    go_roundw
    case rel => exact ⟨k + 1, acc ||| 2 ^ z, by omega, by go_num, rfl, hac2, by first | rfl | trivial⟩
    case measure => simp [intOf]; omega
/-- a board comes back -/
structure BdR (f r : Int) (ps : List Int) (e : Ending) (w w' : World) : Prop where
  out : ∃ (A : Option Addr) (c : Nat), e = .returned (.agg #[.int .i64 f, .int .i64 r, .slice A ps.length c]) ∧ O1 pEnc 1 w.heap.size 51 w w' A c ps
  below : Below w.heap.size w w'
def bdL (k : Nat) (p : Int) : List Int := (List.replicate 25 0).set k p
set_option maxRecDepth 100000 in
set_option maxHeartbeats 1000000 in
theorem rbd (k : Nat) (p : Int) (w : World) (hk : k < 25) : Calls Tryd.prog 11 #[.int .i64 (k : Int), .int .i8 p] w fun e w' => BdR 5 5 (bdL k p) e w w' := by
  have hT := Lib.hid (tri_new w w.heap.size (.int .i64 0) (.int .i64 0) (.slice none 0 0) 48 rfl)
  have hb0 : Hid (Below w.heap.size w (w.alloc (.cells #[.int .i64 0, .int .i64 0, .slice none 0 0] 48))) := (Below.refl _ _).alloc (Nat.le_refl _) _
  have hkI : (k : Int) < 25 := by omega
  have hk0 : (0 : Int) ≤ (k : Int) := Int.natCast_nonneg _
  have hbl : (bdL k p).length = 25 := by unfold bdL; simp
  have hmk := fun W => run_make_p W 25 (by decide)
  rw [show (((25 : Nat) : Int)) = 25 from rfl] at hmk
  go_enter Tryd.func11, Tryd.ntmps11
  go_upto_region 1 with fail
  obtain ⟨BR, hBR⟩ : ∃ BR, w.heap.size = BR := ⟨_, rfl⟩
  rw [hBR] at hT
  simp only [hBR]
  have hBRH : Hid (w.heap.size = BR) := hBR
  clear hBR
  generalize w.alloc (.cells #[.int .i64 0, .int .i64 0, .slice none 0 0] 48) = u at *
  have hltu := hT.out.lt
  have hO := O1.made u 25 (by unfold maxLen; decide) 51
  have hba : Below u.heap.size u (u.alloc (.cells (madeCells #[.int .i8 0] 25) 51)) := (Below.refl _ _).alloc (Nat.le_refl _) _
  have hs1 : (u.alloc (.cells (madeCells #[.int .i8 0] 25) 51)).heap.size = u.heap.size + 1 := by simp
  have hbb : Below (u.heap.size + 1) (u.alloc (.cells (madeCells #[.int .i8 0] 25) 51)) ((u.alloc (.cells (madeCells #[.int .i8 0] 25) 51)).alloc (.cells #[.int .i64 5, .int .i64 5, .slice (some ⟨u.heap.size, 0, none⟩) 25 25] 48)) := by
    have := (Below.refl (u.alloc (.cells (madeCells #[.int .i8 0] 25) 51)).heap.size (u.alloc (.cells (madeCells #[.int .i8 0] 25) 51))).alloc (Nat.le_refl _) (.cells #[.int .i64 5, .int .i64 5, .slice (some ⟨u.heap.size, 0, none⟩) 25 25] 48)
    rw [hs1] at this
    exact this
  have hO2 := Lib.hid (hO.alloc (.cells #[.int .i64 5, .int .i64 5, .slice (some ⟨u.heap.size, 0, none⟩) 25 25] 48))
  have hT2 := Lib.hid ((hT.out.next hba).alloc (.cells #[.int .i64 5, .int .i64 5, .slice (some ⟨u.heap.size, 0, none⟩) 25 25] 48))
  have hX := Lib.hid (tri_new (u.alloc (.cells (madeCells #[.int .i8 0] 25) 51)) (u.heap.size + 1) (.int .i64 5) (.int .i64 5) (.slice (some ⟨u.heap.size, 0, none⟩) 25 25) 48 hs1.symm)
  obtain ⟨g, hg⟩ : ∃ g, u.heap.size = g := ⟨_, rfl⟩
  clear hO hba hbb hs1
  go_upto_region 2 with fail
  rw [hg] at hO2 hX hT2 hltu
  have hgH := Lib.hid hg
  clear hg hT hmk
  generalize (u.alloc (.cells (madeCells #[.int .i8 0] 25) 51)).alloc (.cells #[.int .i64 5, .int .i64 5, .slice (some ⟨g, 0, none⟩) 25 25] 48) = v at *
  obtain ⟨x0, x1, x2, _, _⟩ := hX.out
  have q0 := O1.cell1 (fun _ => rfl) hO2.out (k := k) (x := 0) (by rw [List.getElem?_replicate, if_pos hk])
  have q1 := World.ownsRow.frozenAt hO2.out.own k
  have hO3 := Lib.hid (O1.set1 (fun _ => rfl) hO2.out k p (v := .int .i8 p) rfl)
  have hgn : g ≠ g + 1 := by omega
  have hX3 := Lib.hid (hX.out.oth hgn.symm k (.int .i8 p))
  have hT3 := Lib.hid (hT2.out.oth (Nat.ne_of_lt hltu) k (.int .i8 p))
  go_upto_region 3 with fail
  clear x0 x1 x2 q0 q1 hO2 hX hT2 hgn
  generalize v.setCell ⟨g, k, none⟩ (.int .i8 p) = v3 at *
  obtain ⟨x0, x1, x2, _, _⟩ := hX3.out
  obtain ⟨m0, m1, m2, mf, _⟩ := hT3.out
  have n0 := mf 0
  have n1 := mf 1
  have n2 := mf 2
  clear mf
  go_wp2_with fail
  obtain ⟨s0, s1, s2⟩ := set3 m0 m1 m2 (.int .i64 5) (.int .i64 5) (.slice (some ⟨g, 0, none⟩) 25 25)
  have hlow := hO3.out.lower (b' := BR + 1) (w00 := u) (by omega) (Below.refl _ _)
  have hfin := O1.set3 hO3.out hltu (b' := w.heap.size) (w00 := w) (by have := hBRH.out; omega) hb0.out (.int .i64 5) (.int .i64 5) (.slice (some ⟨g, 0, none⟩) 25 25)
  exact bodyPost_ret (v := .agg #[.int .i64 5, .int .i64 5, .slice (some ⟨g, 0, none⟩) 25 25]) (by simp [results, Tryd.results11, go_sem, s0, s1, s2]) rfl ⟨⟨some ⟨g, 0, none⟩, 25, by rw [hbl], hfin⟩, hfin.below⟩
set_option maxRecDepth 100000 in
set_option maxHeartbeats 1000000 in
theorem rattacks (f r a : Nat) (ps : List Int) (P : Option Addr) (c : Nat) (at_ nm : List UInt8) (l : List At) (b : Bool) (want : Nat) (w : World) (hP : RecAt pEnc 1 w w.heap.size P ps) (h : Bd f r a ps) (hpv : ∀ p ∈ ps, -15 ≤ p ∧ p ≤ 15) (ha : at_.length ≤ 100) (hp : parR (120 :: 32 :: at_) = some (nm, l)) (hw : orL (visP f r a ps b 1 l) = want) :
    Calls Tryd.prog 12 #[.agg #[.int .i64 (f : Int), .int .i64 (r : Int), .slice P ps.length c], .string (bsB at_), .int .i64 (a : Int), .bool b, .int .u64 (want : Nat)] w fun e w' => e = .returned (.bool true) ∧ Below w.heap.size w w' := by
  have hX := Lib.hid (KBd.new w (f : Int) (r : Int) P ps.length c)
  have hb1 : Hid (Below w.heap.size w (w.alloc (bdO f r P ps.length c))) := (Below.refl _ _).alloc (Nat.le_refl _) _
  have hok : Hid (okFy (bsB nm) l) := ((parR_iff _ _ _).1 hp).1
  have hpl : ps.length ≤ 64 := by
    have h1 := h.f1
    have h2 := h.r1
    rw [h.len]
    exact Nat.mul_le_mul h1 h2
  have hPH := Lib.hid hP
  have hpc := Lib.hid (fun W => rpiece at_ nm l W ha hp)
  have hat : Hid (∀ (W : World) (A : Option Addr) (ca : Nat), Below w.heap.size w W → RecAt aEnc 6 W W.heap.size A l → Calls Tryd.prog 27 #[.agg #[.int .i64 (f : Int), .int .i64 (r : Int), .slice P ps.length c], .agg #[.string (bsB nm), .slice A l.length ca], .int .i64 (a : Int), .bool b] W fun e w' => e = .returned (.tuple #[.int .u64 (want : Nat), .int .i64 0]) ∧ Below W.heap.size W w') := fun W A ca hb hR => by
    have hnl := (givV_len hok.out.2).2
    refine (pattacks_yes f r a ps P c (bsB nm) A l ca b W (recs_next hPH.out hb) hR (by omega) (wfA_fy hok.out) (by have := hok.out.1.2.2; omega) (by rw [bs_size]; unfold maxLen; omega) h hok.out hpv).mono ?_
    rintro e w' ⟨h1, _, h3⟩
    rw [hw] at h1
    exact ⟨h1, h3⟩
  clear hP h hpv hp hw
  go_enter Tryd.func12, Tryd.ntmps12
  go_upto_region 1 with fail
  generalize w.heap.size = B0 at hX ⊢
  generalize w.alloc (.cells #[.int .i64 (f : Int), .int .i64 (r : Int), .slice P ps.length c] 48) = u at *
  have hS : Hid (∀ W, Below u.heap.size u W → W.cell? ⟨B0, 0, none⟩ = some (.int .i64 (f : Int)) ∧ W.cell? ⟨B0, 1, none⟩ = some (.int .i64 (r : Int)) ∧ W.cell? ⟨B0, 2, none⟩ = some (.slice P ps.length c)) := fun W hh => by
    have hk := hX.out.next hh
    exact ⟨hk.c0, hk.c1, hk.c2⟩
  refine wp_region_held_drew (S := fun W => W.cell? ⟨B0, 0, none⟩ = some (.int .i64 (f : Int)) ∧ W.cell? ⟨B0, 1, none⟩ = some (.int .i64 (r : Int)) ∧ W.cell? ⟨B0, 2, none⟩ = some (.slice P ps.length c)) (by kernel_rfl) (hS.out _ ((Below.refl _ _).drew)) (fun hHeld => ?_)
  refine wpAnyH_take (i := 0) (v := ?_) rfl (by kernel_rfl) (by kernel_rfl) (by kernel_rfl) (fun _ _ _ h => h) (Or.inl ⟨by rfl, ?_⟩) hHeld ?_
  rotate_left
  · intro W9 hSw; (try dsimp only at hSw); go_simp; (try with_reducible rfl)
  simp only [Act.put, List.getElem_toArray, List.getElem_cons_zero, List.getElem_cons_succ, List.setIfInBounds_toArray, List.set_cons_zero, List.set_cons_succ]
  refine wpAnyH_take (i := 1) (v := ?_) rfl (by kernel_rfl) (by kernel_rfl) (by kernel_rfl) (fun _ _ _ h => h) (Or.inl ⟨by rfl, ?_⟩) hHeld ?_
  rotate_left
  · intro W9 hSw; (try dsimp only at hSw); go_simp; (try with_reducible rfl)
  simp only [Act.put, List.getElem_toArray, List.getElem_cons_zero, List.getElem_cons_succ, List.setIfInBounds_toArray, List.set_cons_zero, List.set_cons_succ]
  refine wpAnyH_take (i := 3) (v := ?_) rfl (by kernel_rfl) (by kernel_rfl) (by kernel_rfl) (fun _ _ _ h => h) (Or.inl ⟨by rfl, ?_⟩) hHeld ?_
  rotate_left
  · intro W9 hSw; (try dsimp only at hSw); go_simp; (try with_reducible rfl)
  simp only [Act.put, List.getElem_toArray, List.getElem_cons_zero, List.getElem_cons_succ, List.setIfInBounds_toArray, List.set_cons_zero, List.set_cons_succ]
  refine wpAnyH_take (i := 4) (v := ?_) rfl (by kernel_rfl) (by kernel_rfl) (by kernel_rfl) (fun _ _ _ h => h) (Or.inl ⟨by rfl, ?_⟩) hHeld ?_
  rotate_left
  · intro W9 hSw; (try dsimp only at hSw); go_simp; (try with_reducible rfl)
  simp only [Act.put, List.getElem_toArray, List.getElem_cons_zero, List.getElem_cons_succ, List.setIfInBounds_toArray, List.set_cons_zero, List.set_cons_succ]
  refine wpAnyH_ready (rs := [2]) (by kernel_rfl) (by simp) ?_
  refine AllReadyH.cons rfl (fun K hK => ?_) AllReadyH.nil
  go_simp
  go_at_call 9
  refine (hpc.out _).mono ?_
  rintro e w2 hFy
  obtain ⟨A, ca, rfl, hRc⟩ := hFy.out
  have hb2 := Lib.hid (undrew hFy.below)
  replace hRc := Lib.hid hRc
  clear hFy
  refine hK.out _ _ (hS.out _ hb2.out) (fun hHeld2 => ?_)
  clear hK K hHeld
  have hHeld := hHeld2
  clear hHeld2
  refine wpAnyH_ready (rs := [5]) (by kernel_rfl) (by simp) ?_
  refine AllReadyH.cons rfl (fun K hK => ?_) AllReadyH.nil
  go_simp
  go_at_call 27
  refine (hat.out _ A ca (hb1.out.trans (hb2.out.mono hb1.out.size)) hRc.out).mono ?_
  rintro e w3 ⟨rfl, hb⟩
  have hb3 : Hid (Below u.heap.size u w3) := hb2.out.trans (hb.mono hb2.out.size)
  clear hb
  refine hK.out _ _ (hS.out _ hb3.out) (fun hHeld2 => ?_)
  clear hK K hHeld
  have hHeld := hHeld2
  clear hHeld2
  refine wpAnyH_take (i := 6) (v := ?_) rfl (by kernel_rfl) (by kernel_rfl) (by kernel_rfl) (fun _ _ _ h => h) (Or.inl ⟨by rfl, ?_⟩) hHeld ?_
  rotate_left
  · intro W9 hSw; (try dsimp only at hSw); go_simp; (try with_reducible rfl)
  simp only [Act.put, List.getElem_toArray, List.getElem_cons_zero, List.getElem_cons_succ, List.setIfInBounds_toArray, List.set_cons_zero, List.set_cons_succ]
  refine wpAnyH_take (i := 7) (v := ?_) rfl (by kernel_rfl) (by kernel_rfl) (by kernel_rfl) (fun _ _ _ h => h) (Or.inl ⟨by rfl, ?_⟩) hHeld ?_
  rotate_left
  · intro W9 hSw; (try dsimp only at hSw); go_simp; (try with_reducible rfl)
  simp only [Act.put, List.getElem_toArray, List.getElem_cons_zero, List.getElem_cons_succ, List.setIfInBounds_toArray, List.set_cons_zero, List.set_cons_succ]
  refine wpAnyH_take (i := 8) (v := ?_) rfl (by kernel_rfl) (by kernel_rfl) (by kernel_rfl) (fun _ _ _ h => h) (Or.inl ⟨by rfl, ?_⟩) hHeld ?_
  rotate_left
  · intro W9 hSw; (try dsimp only at hSw); go_simp; (try with_reducible rfl)
  simp only [Act.put, List.getElem_toArray, List.getElem_cons_zero, List.getElem_cons_succ, List.setIfInBounds_toArray, List.set_cons_zero, List.set_cons_succ]
  refine wpAnyH_take (i := 9) (v := ?_) rfl (by kernel_rfl) (by kernel_rfl) (by kernel_rfl) (fun _ _ _ h => h) (Or.inl ⟨by rfl, ?_⟩) hHeld ?_
  rotate_left
  · intro W9 hSw; (try dsimp only at hSw); go_simp; (try with_reducible rfl)
  simp only [Act.put, List.getElem_toArray, List.getElem_cons_zero, List.getElem_cons_succ, List.setIfInBounds_toArray, List.set_cons_zero, List.set_cons_succ]
  refine wpAnyH_take (i := 10) (v := ?_) rfl (by kernel_rfl) (by kernel_rfl) (by kernel_rfl) (fun _ _ _ h => h) (Or.inl ⟨by rfl, ?_⟩) hHeld ?_
  rotate_left
  · intro W9 hSw; (try dsimp only at hSw); go_simp; (try with_reducible rfl)
  simp only [Act.put, List.getElem_toArray, List.getElem_cons_zero, List.getElem_cons_succ, List.setIfInBounds_toArray, List.set_cons_zero, List.set_cons_succ]
  refine wpAnyH_done (by kernel_rfl) ?_ _
  go_wp2_with fail
  go_ret
  exact ⟨by first | rfl | simp, hb1.out.trans (hb3.out.mono hb1.out.size)⟩
end Go.Proofs.YtbcdimklblpdnaaDoor
