/- Layer 43: the table of the program. -/
import Derived.Test.YtjjjdoealagpcaaDoorGo
import Derived.Deep.MidRow
import Derived.Deep.WholeRow
namespace Go.Proofs.YtjjjdoealagpcaaDoor
open Go Go.RowKit
set_option linter.unusedSimpArgs false
set_option linter.unusedVariables false
attribute [local go_sem ↓] Go.wp_at_zero Go.wp_at_succ
/-! plain -/
theorem tabL_succ (C : Nat → Nat → Int) (n k : Nat) : tabL C n (k + 1) = tabL C n k ++ [bestT C n k] := by
  show tabL C n k ++ [entT C n (fun r => (tabL C n k).getD r 0) k] = _
  congr 2
  unfold bestT
  show _ = (tabL C n k ++ [_]).getD k 0
  rw [List.getD_eq_getElem?_getD, List.getElem?_append_right (by rw [tabL_len]; exact Nat.le_refl _), tabL_len, Nat.sub_self]
  rfl
theorem stepT_bd {C : Nat → Nat → Int} {T : Nat → Int} {s i j : Nat} {m M : Int} (hC : C i j ≤ 100000006) (hT : s.testBit j = true → C i j ≠ -1 → T (restN s i j) ≠ -1 → -1 ≤ C i j + T (restN s i j) ∧ C i j + T (restN s i j) ≤ M) (hm : -1 ≤ m ∧ m ≤ M) : -1 ≤ stepT C T s i m j ∧ stepT C T s i m j ≤ M := by
  unfold stepT
  split
  · rename_i h; exact hT h.1 h.2.1 h.2.2.1
  · exact hm
theorem bestT_bd {C : Nat → Nat → Int} (hC : ∀ i j, -1 ≤ C i j ∧ C i j ≤ 100000006) (n : Nat) : ∀ s, s < 256 → -1 ≤ bestT C n s ∧ bestT C n s ≤ 100000006 * (s : Int) := by
  intro s
  induction s using Nat.strongRecOn with
  | _ s ih =>
    intro hs
    rw [bestT_eq C n s hs]
    unfold entT
    by_cases h0 : s = 0
    · rw [if_pos h0]; omega
    rw [if_neg h0]
    split
    · obtain ⟨l1, l2, l3⟩ := low_in hs h0
      have key : ∀ d, -1 ≤ upT C (bestT C n) s (lowE s) d ∧ upT C (bestT C n) s (lowE s) d ≤ 100000006 * (s : Int) := by
        intro d
        induction d with
        | zero => show -1 ≤ (-1 : Int) ∧ (-1 : Int) ≤ _; omega
        | succ d ihd =>
          refine stepT_bd (hC _ _).2 (fun hb h1 h2 => ?_) ihd
          obtain ⟨_, r2, _, _⟩ := rest_eq hs l2 (testBit_lt8 hs hb) (by omega) l1 hb
          have h3 := ih _ r2 (by omega)
          have h4 := hC (lowE s) (lowE s + 1 + d)
          have h5 : (restN s (lowE s) (lowE s + 1 + d) : Int) + 1 ≤ (s : Int) := by omega
          omega
      exact key _
    · omega
/-- the table under way: s entries done, the entry s at m -/
def midL (C : Nat → Nat → Int) (n N s : Nat) (m : Int) : List Int := tabL C n s ++ m :: List.replicate (N - s - 1) 0
theorem midL_len (C : Nat → Nat → Int) {n N s : Nat} (m : Int) (h : s < N) : (midL C n N s m).length = N := by
  unfold midL
  rw [List.length_append, List.length_cons, List.length_replicate, tabL_len]
  omega
theorem midL_get (C : Nat → Nat → Int) (n N s : Nat) (m : Int) {r : Nat} (h : r < s) : (midL C n N s m)[r]? = some (bestT C n r) := by
  unfold midL
  rw [List.getElem?_append_left (by rw [tabL_len]; exact h)]
  exact tabL_get? C n h
theorem midL_at (C : Nat → Nat → Int) (n N s : Nat) (m : Int) : (midL C n N s m)[s]? = some m := by
  unfold midL
  rw [List.getElem?_append_right (by rw [tabL_len]; exact Nat.le_refl _), tabL_len, Nat.sub_self]; rfl
theorem midL_set (C : Nat → Nat → Int) (n N s : Nat) (m v : Int) : (midL C n N s m).set s v = midL C n N s v := by
  unfold midL
  rw [List.set_append_right _ _ (by rw [tabL_len]; exact Nat.le_refl _), tabL_len, Nat.sub_self]; rfl
theorem midL_next (C : Nat → Nat → Int) {n N s : Nat} (h : s + 1 < N) : midL C n N s (bestT C n s) = midL C n N (s + 1) 0 := by
  unfold midL
  rw [tabL_succ, List.append_assoc, List.singleton_append]
  congr 2
  obtain ⟨k, hk⟩ : ∃ k, N - s - 1 = k + 1 := ⟨N - s - 2, by omega⟩
  rw [hk, List.replicate_succ, show N - (s + 1) - 1 = k by omega]
theorem midL_end (C : Nat → Nat → Int) {n N s : Nat} (h : s + 1 = N) : midL C n N s (bestT C n s) = tabL C n N := by
  unfold midL
  rw [← h, tabL_succ, show s + 1 - s - 1 = 0 by omega]; rfl
theorem tryL_mid {C : Nat → Nat → Int} {n N s i j : Nat} {m : Int} (hs : s < 256) (hi : i < 8) (hj : j < 8) (hij : i ≠ j) (bi : s.testBit i = true) (bj : s.testBit j = true) : tryL C (midL C n N s m) s i j = midL C n N s (stepT C (bestT C n) s i m j) := by
  obtain ⟨_, r2, _, _⟩ := rest_eq hs hi hj hij bi bj
  unfold tryL
  simp only [List.getD_eq_getElem?_getD, midL_get C n N s m r2, midL_at, Option.getD_some]
  unfold stepT
  by_cases h : C i j ≠ -1 ∧ bestT C n (restN s i j) ≠ -1 ∧ (m = -1 ∨ C i j + bestT C n (restN s i j) < m)
  · rw [if_pos h, if_pos ⟨bj, h⟩, midL_set]
  · rw [if_neg h, if_neg (fun hh => h hh.2)]
theorem mid_bd {C : Nat → Nat → Int} (hC : ∀ i j, -1 ≤ C i j ∧ C i j ≤ 100000006) {n N s : Nat} {m : Int} (hs : s < 256) (hm : -1 ≤ m ∧ m ≤ 100000006 * 256) (k : Nat) (x : Int) (hx : (midL C n N s m)[k]? = some x) : -1 ≤ x ∧ x ≤ 1000000000000 := by
  by_cases h1 : k < s
  · rw [midL_get C n N s m h1] at hx
    obtain rfl := Option.some.inj hx
    have := bestT_bd hC n k (by omega)
    omega
  · by_cases h2 : k = s
    · subst h2
      rw [midL_at] at hx
      obtain rfl := Option.some.inj hx
      omega
    · unfold midL at hx
      rw [List.getElem?_append_right (by rw [tabL_len]; omega), tabL_len] at hx
      obtain ⟨q, hq⟩ : ∃ q, k - s = q + 1 := ⟨k - s - 1, by omega⟩
      rw [hq, List.getElem?_cons_succ] at hx
      have := List.mem_of_getElem? hx
      have h0 : x = 0 := (List.mem_replicate.1 this).2
      omega
/-- the costs are there, row by row -/
def cosP (l : List Ent) (n : Nat) (CL : List Int) (k j : Nat) : Prop := CL.length = 156 ∧ ∀ a b : Nat, (a < k ∨ a = k ∧ b < j) → a < b → b < n → CL[a * 13 + b]? = some (cst l a b)
theorem cosP.zero (l : List Ent) (n : Nat) : cosP l n (List.replicate 156 0) 0 0 := ⟨by simp, fun a b h => by omega⟩
theorem cosP.row {l : List Ent} {n : Nat} {CL : List Int} {k : Nat} (h : cosP l n CL k 0) : cosP l n CL k (k + 1) := ⟨h.1, fun a b h1 h2 h3 => h.2 a b (by omega) h2 h3⟩
theorem cosP.rowEnd {l : List Ent} {n : Nat} {CL : List Int} {k j : Nat} (h : cosP l n CL k j) (hj : n ≤ j) : cosP l n CL (k + 1) 0 := ⟨h.1, fun a b h1 h2 h3 => h.2 a b (by omega) h2 h3⟩
theorem cosP.set {l : List Ent} {n : Nat} {CL : List Int} {k j : Nat} (h : cosP l n CL k j) (hk : k < 12) (hj : j < 13) (hn : n ≤ 13) : cosP l n (CL.set (k * 13 + j) (cst l k j)) k (j + 1) := by
  refine ⟨by rw [List.length_set]; exact h.1, fun a b h1 h2 h3 => ?_⟩
  by_cases e : a = k ∧ b = j
  · obtain ⟨rfl, rfl⟩ := e
    rw [List.getElem?_set_self (by rw [h.1]; omega)]
  · rw [List.getElem?_set_ne (by omega)]
    exact h.2 a b (by omega) h2 h3
/-- the costs, while they are filled in -/
structure TB (w wr : World) (CL : List Int) : Prop where
  z : IRow wr w.heap.size 64 (List.replicate 156 0)
  c : IRow wr (w.heap.size + 1) 64 CL
  below : Below w.heap.size w wr
theorem TB.next {w wr w' : World} {CL : List Int} (h : TB w wr CL) (hb : Below wr.heap.size wr w') : TB w w' CL := ⟨h.z.next hb, h.c.next hb, h.below.trans (hb.mono h.below.size)⟩
theorem TB.set {w wr : World} {CL : List Int} (h : TB w wr CL) (i : Nat) (x : Int) : TB w (wr.setCell ⟨w.heap.size + 1, i, none⟩ (.int .i64 x)) (CL.set i x) :=
  ⟨h.z.other (by show w.heap.size ≠ w.heap.size + 1; omega) _, h.c.set i x, h.below.setCell (p := ⟨w.heap.size + 1, i, none⟩) (Nat.le_succ _) _⟩
/-- the table, while it is filled in -/
structure TR (w wr : World) (Br N : Nat) (CL L : List Int) : Prop where
  tb : TB w wr CL
  r : IRow wr Br 3 L
  b : wr.cell? ⟨Br + 1, 0, none⟩ = some (.slice (some ⟨Br, 0, none⟩) N N)
  far : w.heap.size + 1 < Br
theorem TR.grown {w wr w' : World} {Br N : Nat} {CL L L' : List Int} (h : TR w wr Br N CL L) (ht : TryW wr w' Br L L') : TR w w' Br N CL L' := by
  have hf := h.far
  have hb : Br + 1 < wr.heap.size := block_lt_of_cell h.b
  refine ⟨⟨h.tb.z.of_block (ht.grown.block _ h.tb.z.lt (fun e => by have := Option.some.inj e; omega)), h.tb.c.of_block (ht.grown.block _ h.tb.c.lt (fun e => by have := Option.some.inj e; omega)), h.tb.below.grown ht.grown h.tb.below.size (fun k hk => by cases hk; omega)⟩, ht.row, ?_, hf⟩
  have := ht.grown.block (Br + 1) hb (fun e => by have := Option.some.inj e; omega)
  rw [← h.b]
  exact World.cell?_of_block this
theorem TR.set {w wr : World} {Br N : Nat} {CL L : List Int} (h : TR w wr Br N CL L) (i : Nat) (x : Int) : TR w (wr.setCell ⟨Br, i, none⟩ (.int .i64 x)) Br N CL (L.set i x) := h.grown (TryW.set h.r 0 i x)
/-- what the table hands back -/
structure PTab (l : List Ent) (n : Nat) (e : Ending) (w w' : World) : Prop where
  out : ∃ (Br : Nat) (CL : List Int), e = .returned (.tuple #[.slice (some ⟨Br, 0, none⟩) (2 ^ n) (2 ^ n), .agg (CL.map (Value.int .i64)).toArray]) ∧ w.heap.size ≤ Br ∧ IRow w' Br 3 (tabL (cst l) n (2 ^ n)) ∧ cosP l n CL l.length 0
  below : Below w.heap.size w w'
theorem zero64 : (Tryd.prog.info? 64).map (fun i => (i.zero, i.size)) = some (some (.agg ((List.replicate 156 (0 : Int)).map (Value.int .i64)).toArray), 156) := by kernel_rfl
theorem rep_ints (n : Nat) : Array.replicate n (Value.int .i64 0) = ((List.replicate n (0 : Int)).map (Value.int .i64)).toArray := by simp
theorem run_make_i (W : World) (n : Nat) (hn : n ≤ 1000) : (Instr.makeSlice 23 (.int .i64 (n : Int)) (.int .i64 (n : Int))).run Tryd.prog W = .ok (.slice (some ⟨W.heap.size, 0, none⟩) n n) (W.alloc (.cells (Array.replicate n (.int .i64 0)) 3)) := by
  obtain ⟨ht, h0, hb, i, z, hi, hz, hsz, hby, hzs⟩ := intRow
  have hzv : z = .int .i64 0 := by
    have h2 : (Tryd.prog.info? 3).map (·.zero) = some (some (.int .i64 0)) := by kernel_rfl
    rw [hi, Option.map_some, hz] at h2
    simpa using h2
  have h := run_make (P := Tryd.prog) W 23 3 i z ht hi hz .i64 .i64 (n : Int) (n : Int) (by omega) (Int.le_refl _) (by rw [hby]; omega) (by omega)
  rw [hsz, hzv, show (Value.int .i64 0).cells = #[.int .i64 0] from rfl] at h
  rw [rep_ints, ← made_ints]
  simpa using h
theorem ones_i64 (CL : List Int) : ((CL.map (Value.int .i64)).toArray).all (·.oneCell') = true := by simp [Value.oneCell']
set_option maxRecDepth 100000 in
set_option maxHeartbeats 4000000 in
theorem ptable (A : Option Addr) (l : List Ent) (c : Nat) (w : World) (hF : FH w A l c) (hv : okF l) (hl7 : l.length ≤ 7) (hT : TabOK w) :
    Calls Tryd.prog 32 #[.slice A l.length c] w fun e w' => PTab l (szE l) e w w' := by
  obtain ⟨n, hn⟩ : ∃ n, szE l = n := ⟨_, rfl⟩
  have hn8 : n ≤ 8 := by rw [← hn]; unfold szE; omega
  have hnl : l.length ≤ n := by rw [← hn]; unfold szE; omega
  have hnl2 : n ≤ l.length + 1 := by rw [← hn]; unfold szE; omega
  have hl2 : 2 ≤ l.length := hv.1
  have hz := (zero_of_info zero64).1
  have hi64 := (zero_of_info zero64).2
  obtain ⟨Z, hZ⟩ : ∃ Z, ((List.replicate 156 (0 : Int)).map (Value.int .i64)).toArray = Z := ⟨_, rfl⟩
  rw [hZ] at hz
  have hTB : Hid (TB w ((w.alloc (.cells Z 64)).alloc (.cells Z 64)) (List.replicate 156 0)) := by
    refine ⟨⟨?_⟩, ⟨?_⟩, ?_⟩
    · rw [heap_alloc2_old, hZ]
    · rw [heap_alloc2_new, hZ]
    · exact ((Below.refl _ _).alloc (Nat.le_refl _) _).alloc (by simp) _
  have hps : Hid (∀ W, Calls Tryd.prog 34 #[.slice A l.length c] W fun e w' => e = .returned (.int .i64 (n : Int)) ∧ W = w') := fun W => by rw [← hn]; exact psize A l c W hF.len
  have hpc : Hid (∀ W, Below w.heap.size w W → ∀ a b : Nat, a < b → b ≤ l.length → Calls Tryd.prog 38 #[.slice A l.length c, .int .i64 (a : Int), .int .i64 (b : Int)] W fun e w' => e = .returned (.int .i64 (cst l a b)) ∧ Below W.heap.size W w') := fun W h a b hab hb => (hF.next h).pcost hv hab hb (by omega) (by omega)
  have hcb : Hid (∀ a b, -1 ≤ cst l a b ∧ cst l a b ≤ 100000006) := cst_bd hv.num
  have hTH := Lib.hid hT
  have hZH := Lib.hid hZ
  have hnH := Lib.hid hn
  have hi64H := Lib.hid hi64
  rw [hn]
  clear hF hv hT hZ hn hi64
  go_enter Tryd.func32, Tryd.ntmps32
  go_wp2_with (first | (go_at_call 34; refine (hps.out _).mono ?_; rintro e w' ⟨rfl, rfl⟩))
  clear hps hz
  generalize (w.alloc (.cells Z 64)).alloc (.cells Z 64) = w1 at *
  go_loopw [17] (fun i wr => ∃ (k : Nat) (CL : List Int), k ≤ l.length ∧ i = .int .i64 k ∧ Hid (cosP l n CL k 0) ∧ TB w wr CL) (fun i _ => l.length - (intOf i).toNat)
  case atStart => exact ⟨0, _, by omega, rfl, cosP.zero l n, hTB.out⟩
  case round =>
    clear hTB
    obtain ⟨k, CL, hk, rfl, hco, hTB⟩ := hrel
    replace hTB := Lib.hid hTB
    by_cases hkn : k < l.length
    · have hkI : (k : Int) < (l.length : Int) := by omega
      have hk0 : (0 : Int) ≤ (k : Int) := Int.natCast_nonneg _
      have hco1 := Lib.hid hco.out.row
      generalize wr = w2 at *
      go_wp2_with fail
      go_loopw [7] (fun i wr => ∃ (j : Nat) (CL : List Int), k + 1 ≤ j ∧ j ≤ n + 1 ∧ i = .int .i64 j ∧ Hid (cosP l n CL k j) ∧ TB w wr CL) (fun i _ => n + 1 - (intOf i).toNat)
      case atStart => exact ⟨k + 1, CL, by omega, by omega, by go_num, hco1, hTB.out⟩
      case round =>
        clear hco hco1 hTB
        obtain ⟨j, CL, hj1, hj2, rfl, hco, hTB⟩ := hrel
        replace hTB := Lib.hid hTB
        by_cases hjn : j < n
        · have hjI : (j : Int) < (n : Int) := by omega
          have hj0 : (0 : Int) ≤ (j : Int) := Int.natCast_nonneg _
          have hj13 : (j : Int) < 13 := by omega
          have hk12 : (k : Int) < 12 := by omega
          have hnew := Lib.hid (hco.out.set (by omega) (by omega) (by omega))
          have hpk := Lib.hid (fun W h => hpc.out W h k j (by omega) (by omega))
          have hidx : k * 13 + j < CL.length := by rw [hco.out.1]; omega
          obtain ⟨v0, hv0⟩ : ∃ v0, CL[k * 13 + j]? = some v0 := ⟨_, List.getElem?_eq_getElem hidx⟩
          have hv0H := Lib.hid hv0
          clear hv0 hidx
          generalize cst l k j = K at *
          go_wp2_with fail
          refine wp_region_held_drew (S := fun W => True) (by kernel_rfl) trivial (fun hHeld => ?_)
          refine wpAnyH_take (i := 0) (v := ?_) rfl (by kernel_rfl) (by kernel_rfl) (by kernel_rfl) (fun _ _ _ h => h) (Or.inl ⟨by rfl, ?_⟩) hHeld ?_
          rotate_left
          · intro W9 hSw; (try dsimp only at hSw); go_simp; (try with_reducible rfl)
          simp only [Act.put, List.getElem_toArray, List.getElem_cons_zero, List.getElem_cons_succ, List.setIfInBounds_toArray, List.set_cons_zero, List.set_cons_succ]
          refine wpAnyH_take (i := 1) (v := ?_) rfl (by kernel_rfl) (by kernel_rfl) (by kernel_rfl) (fun _ _ _ h => h) (Or.inl ⟨by rfl, ?_⟩) hHeld ?_
          rotate_left
          · intro W9 hSw; (try dsimp only at hSw); go_simp; (try with_reducible rfl)
          simp only [Act.put, List.getElem_toArray, List.getElem_cons_zero, List.getElem_cons_succ, List.setIfInBounds_toArray, List.set_cons_zero, List.set_cons_succ]
          refine wpAnyH_take (i := 2) (v := ?_) rfl (by kernel_rfl) (by kernel_rfl) (by kernel_rfl) (fun _ _ _ h => h) (Or.inl ⟨by rfl, ?_⟩) hHeld ?_
          rotate_left
          · intro W9 hSw; (try dsimp only at hSw); go_simp; (try with_reducible rfl)
          simp only [Act.put, List.getElem_toArray, List.getElem_cons_zero, List.getElem_cons_succ, List.setIfInBounds_toArray, List.set_cons_zero, List.set_cons_succ]
          refine wpAnyH_take (i := 3) (v := ?_) rfl (by kernel_rfl) (by kernel_rfl) (by kernel_rfl) (fun _ _ _ h => h) (Or.inl ⟨by rfl, ?_⟩) hHeld ?_
          rotate_left
          · intro W9 hSw; (try dsimp only at hSw); go_simp; (try with_reducible rfl)
          simp only [Act.put, List.getElem_toArray, List.getElem_cons_zero, List.getElem_cons_succ, List.setIfInBounds_toArray, List.set_cons_zero, List.set_cons_succ]
          refine wpAnyH_take (i := 4) (v := ?_) rfl (by kernel_rfl) (by kernel_rfl) (by kernel_rfl) (fun _ _ _ h => h) (Or.inl ⟨by rfl, ?_⟩) hHeld ?_
          rotate_left
          · intro W9 hSw; (try dsimp only at hSw); go_simp; (try with_reducible rfl)
          simp only [Act.put, List.getElem_toArray, List.getElem_cons_zero, List.getElem_cons_succ, List.setIfInBounds_toArray, List.set_cons_zero, List.set_cons_succ]
          refine wpAnyH_take (i := 6) (v := ?_) rfl (by kernel_rfl) (by kernel_rfl) (by kernel_rfl) (fun _ _ _ h => h) (Or.inl ⟨by rfl, ?_⟩) hHeld ?_
          rotate_left
          · intro W9 hSw; (try dsimp only at hSw); go_simp; (try with_reducible rfl)
          simp only [Act.put, List.getElem_toArray, List.getElem_cons_zero, List.getElem_cons_succ, List.setIfInBounds_toArray, List.set_cons_zero, List.set_cons_succ]
          refine wpAnyH_ready (rs := [5]) (by kernel_rfl) (by simp) ?_
          refine AllReadyH.cons rfl (fun K hK => ?_) AllReadyH.nil
          go_simp
          go_at_call 38
          refine (hpk.out _ (hTB.out.below.drew)).mono ?_
          rintro e w3 ⟨rfl, hb3⟩
          have hTB3 := Lib.hid (hTB.out.next (undrew hb3))
          have hcell := hTB3.out.c.cell hv0H.out
          have hfr := hTB3.out.c.fr (k * 13 + j)
          clear hb3
          refine hK.out _ _ (trivial) (fun hHeld2 => ?_)
          clear hK K hHeld
          have hHeld := hHeld2
          clear hHeld2
          refine wpAnyH_take (i := 7) (v := ?_) rfl (by kernel_rfl) (by kernel_rfl) (by kernel_rfl) (fun _ _ _ h => h) (Or.inl ⟨by rfl, ?_⟩) hHeld ?_
          rotate_left
          · intro W9 hSw; (try dsimp only at hSw); go_simp; (try with_reducible rfl)
          simp only [Act.put, List.getElem_toArray, List.getElem_cons_zero, List.getElem_cons_succ, List.setIfInBounds_toArray, List.set_cons_zero, List.set_cons_succ]
          refine wpAnyH_ready (rs := [8]) (by kernel_rfl) (by simp) ?_
          refine AllReadyH.cons rfl (fun K hK => ?_) AllReadyH.nil
          go_simp
          refine hK.out _ _ (trivial) (fun hHeld2 => ?_)
          clear hK K hHeld
          have hHeld := hHeld2
          clear hHeld2
          refine wpAnyH_done (by kernel_rfl) ?_ _
          clear hHeld hpk
          have hTB4 := Lib.hid (hTB3.out.set (k * 13 + j) K)
          go_wp2_with fail
          go_roundw
          case rel => exact ⟨j + 1, _, by omega, by omega, by go_num, hnew, hTB4.out⟩
          case measure => simp [intOf]; omega
        · have hge : ¬ (j : Int) < (n : Int) := by omega
          have hnew := Lib.hid (hco.out.rowEnd (by omega))
          go_wp2_with fail
          go_roundw
          case rel => exact ⟨k + 1, CL, by omega, by go_num, hnew, hTB.out⟩
          case measure => simp [intOf]; omega
    · obtain rfl : k = l.length := by omega
      clear hpc
      obtain ⟨N, hN⟩ : ∃ N, 2 ^ n = N := ⟨_, rfl⟩
      have hN256 : N ≤ 256 := by
        have h1 : 2 ^ n ≤ 2 ^ 8 := Nat.pow_le_pow_right (show 2 > 0 by decide) hn8
        omega
      have hN1 : 4 ≤ N := by
        have h1 : 2 ^ 2 ≤ 2 ^ n := Nat.pow_le_pow_right (show 2 > 0 by decide) (by omega)
        omega
      have gN : IntKind.i64.wrap (2 ^ n) = (N : Int) := by
        have e : ((2 : Int) ^ n) = (N : Int) := by rw [← hN, Int.natCast_pow]; rfl
        rw [e]; exact i64_nat (by omega)
      have hmk := run_make_i wr N (by omega)
      have hTR : Hid (TR w ((wr.alloc (.cells (Array.replicate N (.int .i64 0)) 3)).alloc (.cells #[.slice (some ⟨wr.heap.size, 0, none⟩) N N] 23)) wr.heap.size N CL (List.replicate N 0)) := by
        have hb : Below wr.heap.size wr ((wr.alloc (.cells (Array.replicate N (.int .i64 0)) 3)).alloc (.cells #[.slice (some ⟨wr.heap.size, 0, none⟩) N N] 23)) := ((Below.refl _ _).alloc (Nat.le_refl _) _).alloc (by simp) _
        refine ⟨hTB.out.next hb, ⟨?_⟩, ?_, hTB.out.c.lt⟩
        · rw [heap_alloc2_old, rep_ints]
        · rw [cell_of_row _ _ _ _ _ _ (heap_alloc2_new wr _ _)]; rfl
      have hCO := Lib.hid hco.out
      have hNH := Lib.hid hN
      clear hTB hco hN
      have hrep : List.replicate N (0 : Int) = midL (cst l) n N 1 0 := by
        obtain ⟨M, rfl⟩ : ∃ M, N = M + 1 + 1 := ⟨N - 2, by omega⟩
        rfl
      rw [hrep] at hTR
      have hTRs := hTR.out.tb.below.size
      clear hrep
      go_wp2_with fail
      clear hmk
      generalize hBr : wr.heap.size = Br at *
      generalize (wr.alloc (.cells (Array.replicate N (.int .i64 0)) 3)).alloc (.cells #[.slice (some ⟨Br, 0, none⟩) N N] 23) = w2 at *
      clear hBr
      clear wr
      go_loopw [10] (fun i wr => ∃ s : Nat, 1 ≤ s ∧ s ≤ N ∧ i = .int .i64 s ∧ TR w wr Br N CL (if s < N then midL (cst l) n N s 0 else tabL (cst l) n N)) (fun i _ => N - (intOf i).toNat)
      case atStart => exact ⟨1, by omega, by omega, rfl, by rw [if_pos (by omega)]; exact hTR.out⟩
      case round =>
        clear hTR hTRs
        obtain ⟨s, hs1, hsN, rfl, hTR⟩ := hrel
        by_cases hlt : s < N
        rotate_left
        · obtain rfl : s = N := by omega
          rw [if_neg (by omega)] at hTR
          replace hTR := Lib.hid hTR
          have hb8 := hTR.out.b
          have hX := hTR.out.tb.c.row
          have hZr := hTR.out.tb.z.row
          have hfar := hTR.out.far
          have hCl : CL.length = 156 := hCO.out.1
          have hS : Hid (∀ W, Below wr.heap.size wr W → W.cell? ⟨Br + 1, 0, none⟩ = some (.slice (some ⟨Br, 0, none⟩) s s) ∧ W.heap[w.heap.size + 1]? = some (.cells (CL.map (Value.int .i64)).toArray 64)) := fun W h => ⟨(h.cell (p := ⟨Br + 1, 0, none⟩) (block_lt_of_cell hTR.out.b)).trans hTR.out.b, (h.block _ hTR.out.tb.c.lt).trans hTR.out.tb.c.row⟩
          have hszX : (Tryd.prog.info? 64).map (·.size) = some (CL.map (Value.int .i64)).length := by rw [List.length_map, hCl]; exact hi64H.out
          have hszX2 : (Tryd.prog.info? 64).map (·.size) = some (CL.map (Value.int .i64)).toArray.size := by rw [List.size_toArray]; exact hszX
          have hnlt : ¬ (s : Int) < (s : Int) := by omega
          go_wp2_with fail
          refine wp_region_held_drew (S := fun W => W.cell? ⟨Br + 1, 0, none⟩ = some (.slice (some ⟨Br, 0, none⟩) s s) ∧ W.heap[w.heap.size + 1]? = some (.cells (CL.map (Value.int .i64)).toArray 64)) (by kernel_rfl) (hS.out _ ((Below.refl _ _).drew)) (fun hHeld => ?_)
          refine wpAnyH_take (i := 0) (v := ?_) rfl (by kernel_rfl) (by kernel_rfl) (by kernel_rfl) (fun _ _ _ h => h) (Or.inl ⟨by rfl, ?_⟩) hHeld ?_
          rotate_left
          · intro W9 hSw; (try dsimp only at hSw); go_simp; (try with_reducible rfl)
          simp only [Act.put, List.getElem_toArray, List.getElem_cons_zero, List.getElem_cons_succ, List.setIfInBounds_toArray, List.set_cons_zero, List.set_cons_succ]
          refine wpAnyH_take (i := 1) (v := .agg (CL.map (Value.int .i64)).toArray) rfl (by kernel_rfl) (by kernel_rfl) (by kernel_rfl) (fun _ _ _ h => h) (yieldsIf_load_mid (by rfl) _ _ rfl (w.heap.size + 1) 0 rfl (CL.map (Value.int .i64)) _ (fun W h j v hj => by rw [cell_of_row _ _ _ _ _ _ h.2, Nat.zero_add]; simpa using hj) Tryd.underlying64 rfl hszX) hHeld ?_
          simp only [Act.put, List.getElem_toArray, List.getElem_cons_zero, List.getElem_cons_succ, List.setIfInBounds_toArray, List.set_cons_zero, List.set_cons_succ]
          refine wpAnyH_take (i := 2) (v := ?_) rfl (by kernel_rfl) (by kernel_rfl) (by kernel_rfl) (fun _ _ _ h => h) (Or.inl ⟨by rfl, ?_⟩) hHeld ?_
          rotate_left
          · intro W9 hSw; (try dsimp only at hSw); go_simp; (try with_reducible rfl)
          simp only [Act.put, List.getElem_toArray, List.getElem_cons_zero, List.getElem_cons_succ, List.setIfInBounds_toArray, List.set_cons_zero, List.set_cons_succ]
          refine wpAnyH_ready (rs := [3]) (by kernel_rfl) (by simp) ?_
          refine AllReadyH.cons rfl (fun K hK => ?_) AllReadyH.nil
          rw [if_pos (by rfl)]
          refine wp_store_row 64 _ _ rfl w.heap.size (CL.map (Value.int .i64)).toArray rfl rfl 64 _ (show wr.drew.heap[w.heap.size]? = _ from hZr) hszX2 (by simp [hCl]) (ones_i64 CL) ?_
          simp only [Act.put]
          refine hK.out _ _ ⟨(cell_setRow_other _ _ _ _ (by show Br + 1 ≠ w.heap.size; omega)).trans hHeld.1, (setRow_other _ _ _ _ (by omega)).trans hHeld.2⟩ (fun hHeld2 => ?_)
          clear hK K hHeld hHeld2
          refine wpAnyH_done (by kernel_rfl) ?_ _
          have hrow : ((wr.drew).setRow w.heap.size (CL.map (Value.int .i64)).toArray).heap[w.heap.size]? = some (.cells (CL.map (Value.int .i64)).toArray 64 (0, 0)) := setRow_heap wr.drew _ _ _ _ _ (show wr.drew.heap[w.heap.size]? = _ from hZr)
          have hld := run_loadVar_row (P := Tryd.prog) ((wr.drew).setRow w.heap.size (CL.map (Value.int .i64)).toArray) w.heap.size 64 64 _ (0, 0) _ hrow Tryd.underlying64 rfl hszX2
          have hR2 : Hid (IRow ((wr.drew).setRow w.heap.size (CL.map (Value.int .i64)).toArray) Br 3 (tabL (cst l) n s)) := hTR.out.r.of_block (setRow_other wr.drew _ _ _ (by omega))
          have hbw := hTR.out.tb.below
          have hbl : Hid (Below w.heap.size w ((wr.drew).setRow w.heap.size (CL.map (Value.int .i64)).toArray)) := ⟨hbw.os, hbw.tape, hbw.output, by rw [size_setRow]; exact hbw.size, fun k hk => (setRow_other wr.drew _ _ _ (by omega)).trans (hbw.block k hk)⟩
          clear hS hszX hszX2 hX hZr hb8 hTR hbw
          go_wp2_with fail
          refine bodyPost_ret (v := .tuple #[.slice (some ⟨Br, 0, none⟩) s s, .agg (CL.map (Value.int .i64)).toArray]) ?_ rfl ⟨⟨Br, CL, ?_, by omega, ?_, hCO.out⟩, hbl.out⟩
          · simp only [results, Tryd.results32]
            simp [asAddr, hld]
          · rw [hNH.out]
          · rw [hNH.out]; exact hR2.out
        rw [if_pos hlt] at hTR
        replace hTR := Lib.hid hTR
        have hb8 := hTR.out.b
        have hc0 := hTR.out.r.cell (midL_at (cst l) n N s 0)
        have hf0 := hTR.out.r.fr s
        have hsI : (s : Int) < (N : Int) := by omega
        have hs0 : (0 : Int) ≤ (s : Int) := Int.natCast_nonneg _
        have hTR1 := hTR.out.set s (-1)
        rw [midL_set] at hTR1
        replace hTR1 := Lib.hid hTR1
        have gu : IntKind.u64.wrap (s : Int) = (s : Int) := by rw [IntKind.wrap_u64]; omega
        have hT1 : Hid (TabOK (wr.setCell ⟨Br, s, none⟩ (.int .i64 (-1)))) := hTH.out.next hTR1.out.tb.below
        have hpo : Hid (∀ W, Calls Tryd.prog 41 #[.int .u64 (s : Int)] W fun e w' => e = .returned (.int .i64 (cntE s : Int)) ∧ W = w') := fun W => poc s W (by omega)
        have hpz : Hid (Calls Tryd.prog 33 #[.int .u64 (s : Int)] (wr.setCell ⟨Br, s, none⟩ (.int .i64 (-1))) fun e w' => e = .returned (.int .i64 (lowE s : Int)) ∧ (wr.setCell ⟨Br, s, none⟩ (.int .i64 (-1))) = w') := ptz s _ (by omega) (by omega) hT1.out
        have htm := tmod_two (cntE s)
        have hr2 : cntE s % 2 < 2 := Nat.mod_lt _ (by decide)
        have hwm : IntKind.i64.wrap ((cntE s % 2 : Nat) : Int) = ((cntE s % 2 : Nat) : Int) := IntWalk.i64_in _ (by omega)
        obtain ⟨l1, l2, l3⟩ := low_in (show s < 256 by omega) (by omega)
        have hbe := Lib.hid (bestT_eq (cst l) n s (by omega))
        have hln : lowE s < n := by
          apply Nat.lt_of_not_le
          intro h
          have h1 : 2 ^ n ≤ 2 ^ lowE s := Nat.pow_le_pow_right (show 2 > 0 by decide) h
          have h2 : s < 2 ^ lowE s := by have := hNH.out; omega
          rw [Nat.testBit_lt_two_pow h2] at l1
          cases l1
        by_cases hodd : cntE s % 2 = 0
        rotate_left
        · have h1 : cntE s % 2 = 1 := by omega
          rw [h1] at htm hwm
          have hE : Hid (bestT (cst l) n s = -1) := by
            show _ = _
            rw [hbe.out]
            unfold entT
            rw [if_neg (by omega), if_neg hodd]
          have hTR2 : Hid (TR w (wr.setCell ⟨Br, s, none⟩ (.int .i64 (-1))) Br N CL (if s + 1 < N then midL (cst l) n N (s + 1) 0 else tabL (cst l) n N)) := by
            have h2 := hTR1.out
            rw [← hE.out] at h2
            by_cases h3 : s + 1 < N
            · rw [if_pos h3, ← midL_next _ h3]
              rw [hE.out] at h2 ⊢; exact h2
            · rw [if_neg h3, ← midL_end _ (show s + 1 = N by omega)]
              rw [hE.out] at h2 ⊢; exact h2
          clear hodd h1 hr2 hbe hTR hTR1 hpz hT1 l1 l2 l3
          generalize cntE s = cnt at *
          go_wp2_with (first | (go_at_call 41; refine (hpo.out _).mono ?_; rintro e w' ⟨rfl, rfl⟩))
          go_roundw
          case rel => exact ⟨s + 1, by omega, by omega, by go_num, hTR2.out⟩
          case measure => simp [intOf]; omega
        rw [hodd] at htm hwm
        have hE : Hid (bestT (cst l) n s = upT (cst l) (bestT (cst l) n) s (lowE s) (n - (lowE s + 1))) := by
          show _ = _
          rw [hbe.out]
          unfold entT
          rw [if_neg (by omega), if_pos hodd]
        clear hodd hr2 hbe hTR hT1
        generalize lowE s = i at *
        have gi : IntKind.i64.wrap ((i : Int) + 1) = ((i + 1 : Nat) : Int) := by rw [show (i : Int) + 1 = ((i + 1 : Nat) : Int) by omega]; exact i64_nat (by omega)
        generalize cntE s = cnt at *
        have hb9 := hTR1.out.b
        go_wp2_with (first | (go_at_call 41; refine (hpo.out _).mono ?_; rintro e w' ⟨rfl, rfl⟩) | (go_at_call 33; refine hpz.out.mono ?_; rintro e w' ⟨rfl, rfl⟩))
        clear hpo hpz htm hwm gu
        have hTRs : Hid (TR w (wr.setCell ⟨Br, s, none⟩ (.int .i64 (-1))) Br N CL (midL (cst l) n N s (upT (cst l) (bestT (cst l) n) s i 0))) := hTR1.out
        clear hc0 hf0 hb8 hb9 hTR1
        generalize wr.setCell ⟨Br, s, none⟩ (.int .i64 (-1)) = w3 at *
        clear wr
        go_loopw [12] (fun j wr => ∃ d : Nat, i + 1 + d ≤ n ∧ j = .int .i64 ((i + 1 + d : Nat) : Int) ∧ TR w wr Br N CL (midL (cst l) n N s (upT (cst l) (bestT (cst l) n) s i d))) (fun j _ => n - (intOf j).toNat)
        case atStart => exact ⟨0, by omega, by go_num, hTRs.out⟩
        case round =>
          clear hTRs
          obtain ⟨d, hd, rfl, hTR⟩ := hrel
          replace hTR := Lib.hid hTR
          obtain ⟨J, hJ⟩ : ∃ J, i + 1 + d = J := ⟨_, rfl⟩
          have hJ2 : Hid (i + 1 + (d + 1) = J + 1) := by show _ = _; omega
          rw [hJ] at hd ⊢
          by_cases hJn : J < n
          rotate_left
          · obtain rfl : J = n := by omega
            have hge : ¬ (J : Int) < (J : Int) := by omega
            have hd2 : J - (i + 1) = d := by omega
            rw [hd2] at hE
            have hTR2 : Hid (TR w wr Br N CL (if s + 1 < N then midL (cst l) J N (s + 1) 0 else tabL (cst l) J N)) := by
              have h2 := hTR.out
              rw [← hE.out] at h2
              by_cases h3 : s + 1 < N
              · rw [if_pos h3, ← midL_next _ h3]; exact h2
              · rw [if_neg h3, ← midL_end _ (show s + 1 = N by omega)]; exact h2
            clear hE hTR hJ2 hJ hd2
            go_wp2_with fail
            go_roundw
            case rel => exact ⟨s + 1, by omega, by omega, by go_num, hTR2.out⟩
            case measure => simp [intOf]; omega
          have hJI : (J : Int) < (n : Int) := by omega
          have hJ0 : (0 : Int) ≤ (J : Int) := Int.natCast_nonneg _
          have hJ64 : (J : Int) ≤ 64 := by omega
          have hdp := div_pow s J
          have hbt := bit_of s J
          obtain ⟨q, hq⟩ : ∃ q, s / 2 ^ J = q := ⟨_, rfl⟩
          have hqs : q ≤ s := by rw [← hq]; exact Nat.div_le_self _ _
          rw [hq] at hdp hbt
          have hba := bit_and q (by omega)
          have gJ : IntKind.i64.wrap ((J : Int) + 1) = ((J + 1 : Nat) : Int) := by rw [show (J : Int) + 1 = ((J + 1 : Nat) : Int) by omega]; exact i64_nat (by omega)
          clear hq
          by_cases hq1 : q % 2 = 1
          · rw [hq1] at hba
            have bJ : s.testBit J = true := by rw [hbt]; exact decide_eq_true hq1
            have hlen := midL_len (cst l) (n := n) (N := N) (s := s) (upT (cst l) (bestT (cst l) n) s i d) hlt
            have hub : ∀ d, -1 ≤ upT (cst l) (bestT (cst l) n) s i d ∧ upT (cst l) (bestT (cst l) n) s i d ≤ 100000006 * 256 := by
              intro d
              induction d with
              | zero => show -1 ≤ (-1 : Int) ∧ (-1 : Int) ≤ _; omega
              | succ d ihd =>
                refine stepT_bd (hcb.out _ _).2 (fun hb h1 h2 => ?_) ihd
                obtain ⟨_, r2, _, _⟩ := rest_eq (show s < 256 by omega) l2 (testBit_lt8 (by omega) hb) (by omega) l1 hb
                have h3 := bestT_bd hcb.out n _ (show restN s i (i + 1 + d) < 256 by omega)
                have h4 := hcb.out i (i + 1 + d)
                omega
            have hpt : Hid (Calls Tryd.prog 42 #[.int .i64 (s : Int), .int .i64 (i : Int), .int .i64 (J : Int), .pointer (some ⟨w.heap.size + 1, 0, none⟩), .pointer (some ⟨Br + 1, 0, none⟩)] wr fun e w' => e = .returned (.tuple #[]) ∧ TR w w' Br N CL (midL (cst l) n N s (upT (cst l) (bestT (cst l) n) s i (d + 1)))) := by
              have h := ptry (cst l) (w.heap.size + 1) (Br + 1) Br CL _ s i J wr hTR.out.tb.c hTR.out.r (by rw [hlen]; exact hTR.out.b) (by rw [hlen]; omega) (by rw [hlen]; exact hlt) (by omega) (by omega) l1 bJ (hCO.out.2 i J (Or.inl (by omega)) (by omega) hJn) (hcb.out i J) (mid_bd hcb.out (by omega) (hub d))
              refine h.mono fun e w' ⟨h1, h2⟩ => ⟨h1, ?_⟩
              have h3 := hTR.out.grown h2
              rw [tryL_mid (by omega) l2 (by omega) (by omega) l1 bJ] at h3
              show TR w w' Br N CL (midL (cst l) n N s (stepT (cst l) (bestT (cst l) n) s i (upT (cst l) (bestT (cst l) n) s i d) (i + 1 + d)))
              rw [hJ]; exact h3
            clear hub hlen hbt bJ hE hq1
            go_wp2_with fail
            go_at_call 42
            refine hpt.out.mono ?_
            rintro e w' ⟨rfl, hTR2⟩
            replace hTR2 := Lib.hid hTR2
            clear hpt
            go_wp2_with fail
            go_roundw
            case rel => exact ⟨d + 1, by have := hJ2.out; omega, by rw [hJ2.out]; go_num, hTR2.out⟩
            case measure => simp [intOf]; omega
          · have hq0 : q % 2 = 0 := by omega
            rw [hq0] at hba
            have bJ : s.testBit J = false := by rw [hbt]; exact decide_eq_false hq1
            have hTR2 : Hid (TR w wr Br N CL (midL (cst l) n N s (upT (cst l) (bestT (cst l) n) s i (d + 1)))) := by
              show TR w wr Br N CL (midL (cst l) n N s (stepT (cst l) (bestT (cst l) n) s i (upT (cst l) (bestT (cst l) n) s i d) (i + 1 + d)))
              rw [hJ]
              unfold stepT
              rw [if_neg (fun h => by rw [bJ] at h; cases h.1)]
              exact hTR.out
            clear hbt bJ hE hq1 hTR
            go_wp2_with fail
            go_roundw
            case rel => exact ⟨d + 1, by have := hJ2.out; omega, by rw [hJ2.out]; go_num, hTR2.out⟩
            case measure => simp [intOf]; omega
end Go.Proofs.YtjjjdoealagpcaaDoor
