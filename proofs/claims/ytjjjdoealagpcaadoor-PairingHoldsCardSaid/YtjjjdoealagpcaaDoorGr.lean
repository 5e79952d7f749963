/- Layer 43: Pair of the program. -/
import Derived.Test.YtjjjdoealagpcaaDoorGq
import Derived.BigRegion
import Derived.Deep.CutRange
import Derived.Deep.CutBlock
namespace Go.Proofs.YtjjjdoealagpcaaDoor
open Go Go.RowKit
set_option linter.unusedSimpArgs false
set_option linter.unusedVariables false
attribute [local go_sem ↓] Go.wp_at_zero Go.wp_at_succ
theorem boolRow : RowOf Tryd.prog 28 4 1 1 :=
  RowOf.mk' (z := .bool false) Tryd.underlying28 (by kernel_rfl) (by decide) (by decide) rfl
theorem rep_bools (n : Nat) : Array.replicate n (Value.bool false) = ((List.replicate n false).map Value.bool).toArray := by simp
theorem made_bools (n : Nat) : madeCells #[.bool false] n = Array.replicate n (Value.bool false) := by
  apply Array.ext
  · simp [size_madeCells]
  · intro i h1 h2
    simp [madeCells, Nat.mod_one]
theorem run_make_b (W : World) (n : Nat) (hn : n ≤ 1000) : (Instr.makeSlice 28 (.int .i64 (n : Int)) (.int .i64 (n : Int))).run Tryd.prog W = .ok (.slice (some ⟨W.heap.size, 0, none⟩) n n) (W.alloc (.cells (Array.replicate n (.bool false)) 4)) := by
  obtain ⟨ht, h0, hb, i, z, hi, hz, hsz, hby, hzs⟩ := boolRow
  have hzv : z = .bool false := by
    have h2 : (Tryd.prog.info? 4).map (·.zero) = some (some (.bool false)) := by kernel_rfl
    rw [hi, Option.map_some, hz] at h2
    simpa using h2
  have h := run_make (P := Tryd.prog) W 28 4 i z ht hi hz .i64 .i64 (n : Int) (n : Int) (by omega) (Int.le_refl _) (by rw [hby]; omega) (by omega)
  rw [hsz, hzv, show (Value.bool false).cells = #[.bool false] from rfl] at h
  rw [← made_bools]
  simpa using h
/-- what Pair leaves, if all is well -/
structure PairR (l : List Ent) (e : Ending) (w' : World) : Prop where
  out : ∃ Bo Bw : Nat, e = .returned (.tuple #[.agg #[.slice (some ⟨Bo, 0, none⟩) l.length l.length, .slice (some ⟨Bw, 0, none⟩) l.length l.length], .int .i64 0]) ∧ IRow w' Bo 3 (resO l) ∧ BRow w' Bw 4 (resW l)
def PairP (l : List Ent) (e : Ending) (w w' : World) : Prop :=
  (bst l (fullS l) = -1 → e = .returned (.tuple #[.agg #[.slice none 0 0, .slice none 0 0], .int .i64 9])) ∧ (bst l (fullS l) ≠ -1 → PairR l e w') ∧ Below w.heap.size w w'
/-- memory while the table is read -/
structure PA (w wr : World) (l : List Ent) (Br Bc Bo Bw Bp : Nat) (TL CL : List Int) (O : List Int) (Wt : List Bool) : Prop where
  t : IRow wr Br 3 TL
  c : IRow wr Bc 64 CL
  o : IRow wr Bo 3 O
  v : BRow wr Bw 4 Wt
  p : wr.heap[Bp]? = some (.cells #[.slice (some ⟨Bo, 0, none⟩) l.length l.length, .slice (some ⟨Bw, 0, none⟩) l.length l.length] 30)
  r : wr.heap[w.heap.size]? = some (.cells #[.slice none 0 0, .slice none 0 0] 30)
  below : Below w.heap.size w wr
  d : w.heap.size < Br ∧ Br < Bc ∧ Bc < Bo ∧ Bc < Bw ∧ Bc < Bp ∧ Bo ≠ Bw ∧ Bo ≠ Bp ∧ Bw ≠ Bp
theorem PA.next {w wr w' : World} {l : List Ent} {Br Bc Bo Bw Bp : Nat} {TL CL O : List Int} {Wt : List Bool} (h : PA w wr l Br Bc Bo Bw Bp TL CL O Wt) (hb : Below wr.heap.size wr w') : PA w w' l Br Bc Bo Bw Bp TL CL O Wt :=
  ⟨h.t.next hb, h.c.next hb, h.o.next hb, h.v.next hb, (hb.block _ (Array.getElem?_eq_some_iff.1 h.p).1).trans h.p, (hb.block _ (Array.getElem?_eq_some_iff.1 h.r).1).trans h.r, h.below.trans (hb.mono h.below.size), h.d⟩
theorem PA.setO {w wr : World} {l : List Ent} {Br Bc Bo Bw Bp : Nat} {TL CL O : List Int} {Wt : List Bool} (h : PA w wr l Br Bc Bo Bw Bp TL CL O Wt) (i : Nat) (x : Int) : PA w (wr.setCell ⟨Bo, i, none⟩ (.int .i64 x)) l Br Bc Bo Bw Bp TL CL (O.set i x) Wt := by
  have hd := h.d
  have hb : ∀ k, k ≠ Bo → (wr.setCell ⟨Bo, i, none⟩ (.int .i64 x)).heap[k]? = wr.heap[k]? := fun k hk => heap_setCell_other wr ⟨Bo, i, none⟩ k _ hk
  exact ⟨h.t.of_block (hb _ (by omega)), h.c.of_block (hb _ (by omega)), h.o.set i x, h.v.of_block (hb _ (by omega)), (hb _ (by omega)).trans h.p, (hb _ (by omega)).trans h.r, h.below.setCell (p := ⟨Bo, i, none⟩) (by show w.heap.size ≤ Bo; omega) _, hd⟩
theorem PA.setW {w wr : World} {l : List Ent} {Br Bc Bo Bw Bp : Nat} {TL CL O : List Int} {Wt : List Bool} (h : PA w wr l Br Bc Bo Bw Bp TL CL O Wt) (i : Nat) (x : Bool) : PA w (wr.setCell ⟨Bw, i, none⟩ (.bool x)) l Br Bc Bo Bw Bp TL CL O (Wt.set i x) := by
  have hd := h.d
  have hb : ∀ k, k ≠ Bw → (wr.setCell ⟨Bw, i, none⟩ (.bool x)).heap[k]? = wr.heap[k]? := fun k hk => heap_setCell_other wr ⟨Bw, i, none⟩ k _ hk
  exact ⟨h.t.of_block (hb _ (by omega)), h.c.of_block (hb _ (by omega)), h.o.of_block (hb _ (by omega)), h.v.set i x, (hb _ (by omega)).trans h.p, (hb _ (by omega)).trans h.r, h.below.setCell (p := ⟨Bw, i, none⟩) (by show w.heap.size ≤ Bw; omega) _, hd⟩
theorem PA.drewN {w wr : World} {l : List Ent} {Br Bc Bo Bw Bp : Nat} {TL CL O : List Int} {Wt : List Bool} (h : PA w wr l Br Bc Bo Bw Bp TL CL O Wt) (n : Nat) : PA w (wr.drewN n) l Br Bc Bo Bw Bp TL CL O Wt := h.next (below_drewN (Below.refl _ _) n)
theorem h3 (w : World) (X Y Z : Obj) : (((w.alloc X).alloc Y).alloc Z).heap[w.heap.size]? = some X ∧ (((w.alloc X).alloc Y).alloc Z).heap[w.heap.size + 1]? = some Y ∧ (((w.alloc X).alloc Y).alloc Z).heap[w.heap.size + 1 + 1]? = some Z ∧ Below w.heap.size w (((w.alloc X).alloc Y).alloc Z) := by
  have e1 : (w.alloc X).heap.size = w.heap.size + 1 := by simp
  have e2 : ((w.alloc X).alloc Y).heap.size = w.heap.size + 1 + 1 := by simp
  refine ⟨?_, ?_, ?_, ?_⟩
  · rw [heap_alloc_old _ _ (by omega), heap_alloc2_old]
  · rw [heap_alloc_old _ _ (by omega), heap_alloc2_new]
  · have := heap_alloc_new ((w.alloc X).alloc Y) Z
    rwa [e2] at this
  · exact (((Below.refl _ _).alloc (Nat.le_refl _) _).alloc (by omega) _).alloc (by omega) _
theorem PA.start {w w3 wc : World} {l : List Ent} {Br Bc Bo Bw Bp : Nat} {TL CL : List Int} (ht : IRow w3 Br 3 TL) (hc : IRow w3 Bc 64 CL) (hr : w3.heap[w.heap.size]? = some (.cells #[.slice none 0 0, .slice none 0 0] 30)) (hb : Below w.heap.size w w3) (hd : w.heap.size < Br ∧ Br < Bc)
    (hO : wc.heap[Bo]? = some (.cells (Array.replicate l.length (.int .i64 0)) 3)) (hW : wc.heap[Bw]? = some (.cells (Array.replicate l.length (.bool false)) 4)) (hP : wc.heap[Bp]? = some (.cells #[.slice (some ⟨Bo, 0, none⟩) l.length l.length, .slice (some ⟨Bw, 0, none⟩) l.length l.length] 30)) (hw : Below w3.heap.size w3 wc) (h1 : w3.heap.size ≤ Bo ∧ w3.heap.size ≤ Bw ∧ w3.heap.size ≤ Bp ∧ Bo ≠ Bw ∧ Bo ≠ Bp ∧ Bw ≠ Bp) :
    PA w wc l Br Bc Bo Bw Bp TL CL (List.replicate l.length 0) (List.replicate l.length false) := by
  have hcl := hc.lt
  exact ⟨ht.next hw, hc.next hw, ⟨by rw [hO, rep_ints]⟩, ⟨by rw [hW, rep_bools]⟩, hP, (hw.block _ (Array.getElem?_eq_some_iff.1 hr).1).trans hr, hb.trans (hw.mono hb.size), by omega⟩
set_option maxRecDepth 100000 in
set_option maxHeartbeats 4000000 in
theorem pPair_bad (A : Option Addr) (l : List Ent) (c : Nat) (w : World) (hF : FH w A l c) (hv : ¬ okF l) :
    Calls Tryd.prog 13 #[.slice A l.length c] w fun e w' => e = .returned (.tuple #[.agg #[.slice none 0 0, .slice none 0 0], .int .i64 2]) ∧ Below w.heap.size w w' := by
  have hb0 : Hid (Below w.heap.size w (w.alloc (.cells #[.slice none 0 0, .slice none 0 0] 30))) := (Below.refl _ _).alloc (Nat.le_refl _) _
  have hV := Lib.hid (hF.next hb0.out).pvalid
  rw [fB_false hv] at hV
  have q0 : (w.alloc (.cells #[.slice none 0 0, .slice none 0 0] 30)).cell? ⟨w.heap.size, 0, none⟩ = some (.slice none 0 0) := by simp
  have q1 : (w.alloc (.cells #[.slice none 0 0, .slice none 0 0] 30)).cell? ⟨w.heap.size, 1, none⟩ = some (.slice none 0 0) := by simp
  have hlt0 : w.heap.size < (w.alloc (.cells #[.slice none 0 0, .slice none 0 0] 30)).heap.size := by simp
  have z0 : ∀ k, (w.alloc (.cells #[.slice none 0 0, .slice none 0 0] 30)).frozen? ⟨w.heap.size, k, none⟩ = false := fun k => frozen_of_row _ _ _ _ _ (heap_alloc_new w _)
  clear hF hv
  go_enter Tryd.func13, Tryd.ntmps13
  go_upto_region 1 with fail
  generalize w.alloc (.cells #[.slice none 0 0, .slice none 0 0] 30) = w0 at *
  go_wp2_with fail
  go_at_call 10
  refine hV.out.mono ?_
  rintro e w1 ⟨rfl, hb1⟩
  replace q0 := (hb1.cell (p := ⟨w.heap.size, 0, none⟩) hlt0).trans q0
  replace q1 := (hb1.cell (p := ⟨w.heap.size, 1, none⟩) hlt0).trans q1
  have f0 := (hb1.frozen (p := ⟨w.heap.size, 0, none⟩) hlt0).trans (z0 0)
  have f1 := (hb1.frozen (p := ⟨w.heap.size, 1, none⟩) hlt0).trans (z0 1)
  have hb2 := Lib.hid (hb0.out.trans (hb1.mono hb0.out.size))
  clear hb1 z0
  go_wp2_with fail
  refine bodyPost_ret (v := .tuple #[.agg #[.slice none 0 0, .slice none 0 0], .int .i64 2]) (by simp [results, Tryd.results13, go_sem, q0, q1]) rfl ⟨rfl, ?_⟩
  exact (hb2.out.setCell (p := ⟨w.heap.size, 0, none⟩) (Nat.le_refl _) _).setCell (p := ⟨w.heap.size, 1, none⟩) (Nat.le_refl _) _
theorem O1.one (w : World) (x : Int) : O1 iEnc 1 w.heap.size 3 w (w.alloc (.cells #[.int .i64 x] 3)) (some ⟨w.heap.size, 0, none⟩) 1 [x] :=
  ⟨⟨rfl, Or.inr ⟨w.heap.size, 1, #[.int .i64 x], rfl, Nat.le_refl _, heap_alloc_new w _, Nat.le_refl _, by unfold maxLen; omega, rfl, rfl⟩⟩, (Below.refl _ _).alloc (Nat.le_refl _) _, by simp⟩
/-- the partners under way: the last one of all first -/
def preL (m i d : Nat) : List Int := (m : Int) :: (List.range' (i + 1) d).map fun q : Nat => (q : Int)
theorem preL_len (m i d : Nat) : (preL m i d).length = d + 1 := by simp [preL]
theorem preL_succ (m i d : Nat) : preL m i d ++ [((i + 1 + d : Nat) : Int)] = preL m i (d + 1) := by
  unfold preL
  rw [List.cons_append, List.range'_concat, List.map_append]
  simp
def ordI (len i : Nat) : List Int := (ordL len i).map fun q : Nat => (q : Int)
theorem ordI_len (len i : Nat) : (ordI len i).length = (ordL len i).length := by unfold ordI; rw [List.length_map]
theorem ordI_odd {len i : Nat} (h : len % 2 = 1) : preL len i (len - (i + 1)) = ordI len i := by
  unfold preL ordI ordL
  rw [if_pos h]; rfl
theorem ordI_even {len i : Nat} (h : len % 2 = 0) (hi : i + 1 < len) : ((List.range' (i + 1) (len - 1 - (i + 1))).map fun q : Nat => (q : Int)) ++ [((len - 1 : Nat) : Int)] = ordI len i := by
  unfold ordI ordL
  rw [if_neg (by omega)]
  obtain ⟨d, hd⟩ : ∃ d, len - (i + 1) = d + 1 := ⟨len - (i + 1) - 1, by omega⟩
  rw [hd, show len - 1 - (i + 1) = d by omega, List.range'_concat, List.map_append, show len - 1 = i + 1 + 1 * d by omega]
  rfl
theorem step_app1 {ops : Array Oper} {o : Oper} {a : Act} {w : World} {K : Act → World → Prop} {Q : Exit → Act → World → Prop} {E : Prop} (hgd : o.guard = none) (s x : Operand)
    (ho : o.op = .call { callee := .builtin .append, args := #[s, x], argTypes := #[23, 23] }) (g off n c : Nat) (L : List Int) (y : Int) (ab ao cx : Nat) (cur : Array Value) (hrow : w.heap[g]? = some (.cells cur 3)) (hcur : off + c ≤ cur.size) (hL : L.length = n) (hn : n ≤ c) (hc : n ≤ 100000) (hat : ∀ k y, L[k]? = some y → cur[off + k]? = some (Value.int .i64 y)) (hy : w.cell? ⟨ab, ao, none⟩ = some (.int .i64 y))
    (hs : a.eval s = .slice (some ⟨g, off, none⟩) n c) (hx : a.eval x = .slice (some ⟨ab, ao, none⟩) 1 cx)
    (h : ∀ (A' : Option Addr) (c' : Nat) (w' : World), RecAt iEnc 1 w' w'.heap.size A' (L ++ [y]) → w.grownBy w' (some g) → K (a.put o.dst (.slice A' (L ++ [y]).length c')) w') :
    if Region.wanted o (yielded ops a.tmps) = true then Oper.wp Tryd.prog o a w K Q else E := by
  have hw : Region.wanted o (yielded ops a.tmps) = true := by simp [Region.wanted, hgd]
  rw [if_pos hw]
  obtain ⟨A', c', w', hr, h2, h3⟩ := run_app1 w o.type g off n c L y ab ao cx cur hrow hcur hL hn hc hat hy
  unfold Oper.wp execOp
  simp only [ho, resolve, invoke, builtin, Sem.run_bind, Sem.run_pure, Result.andThen_ok, List.map_toArray, List.map_cons, List.map_nil, hs, hx, hr]
  have e : n + 1 = (L ++ [y]).length := by rw [List.length_append, hL]; rfl
  rw [e]
  exact h A' c' w' h2 h3
theorem ordL_len {len i : Nat} (h : i < len) : (ordL len i).length ≤ len := by
  unfold ordL
  split
  · rw [List.length_cons, List.length_range']; omega
  · rw [List.length_range']; omega
theorem low_lt {C : Nat → Nat → Int} {n s : Nat} (hn8 : n ≤ 8) (hs : s < 2 ^ n) (h0 : s ≠ 0) (hb : bestT C n s ≠ -1) : lowE s + 1 < n := by
  have hs2 : s < 256 := Nat.lt_of_lt_of_le hs (full_lt hn8)
  have he := bestT_eq C n s hs2
  unfold entT at he
  rw [if_neg h0] at he
  split at he
  · rw [he] at hb
    obtain ⟨j, h1, h2, h3, h4, h5, h6⟩ := upT_reached _ hb
    have := bit_lt hs h3
    omega
  · exact absurd he hb
end Go.Proofs.YtjjjdoealagpcaaDoor
