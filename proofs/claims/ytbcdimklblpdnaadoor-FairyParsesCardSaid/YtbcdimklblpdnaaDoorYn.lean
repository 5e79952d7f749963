/- Layer 27: the program's sort of steps over a row of its own. -/
import Derived.Test.YtbcdimklblpdnaaDoorYm
namespace Go.Proofs.YtbcdimklblpdnaaDoor
open Go Go.RowKit
set_option linter.unusedSimpArgs false
set_option linter.unusedVariables false
set_option maxHeartbeats 1000000 in
theorem pcmp (x y : St) (W : World) : Calls Tryd.prog 45 #[.agg #[.int .i64 x.files, .int .i64 x.ranks], .agg #[.int .i64 y.files, .int .i64 y.ranks]] W fun e w' => e = .returned (.int .i64 (cfS x y)) ∧ ∃ q os', w' = Sort.grow (W.drewN q) os' := by
  go_enter Tryd.func45, Tryd.ntmps45
  go_wp2_with fail
  go_ret
  exact ⟨rfl, 0, _, by rw [Sort.alloc_eq_grow, Sort.alloc_eq_grow, Sort.grow_grow]; rfl⟩
theorem flatK_st (l : List St) : Sort.flatK sEnc 2 l.toArray = (flatR sEnc l).toArray := by
  apply Array.ext_getElem?
  intro t
  have hs : (flatR sEnc l).length = l.length * 2 := flatR_length sEnc_len l
  by_cases ht : t < l.length * 2
  · have hk : t / 2 < l.length := by omega
    have h1 := flatR_get sEnc_len l (t / 2) l[t / 2] (t % 2) (List.getElem?_eq_getElem hk) (Nat.mod_lt _ (by omega))
    rw [Nat.div_add_mod' t 2] at h1
    have hz : t < (Sort.flatK sEnc 2 l.toArray).size := by rw [Sort.size_flatK]; simpa using ht
    have h2 := Sort.get_flatK sEnc 2 l.toArray t (by simpa using ht)
    rw [getElem!_pos _ t hz] at h2
    rw [Array.getElem?_eq_getElem hz, h2, List.getElem?_toArray, h1]
    have e1 : (l.toArray[t / 2]! : St) = l[t / 2] := by
      rw [getElem!_pos _ (t / 2) (by simpa using hk)]; rfl
    rw [e1]
    have hm : t % 2 < (sEnc l[t / 2]).length := by rw [sEnc_len]; exact Nat.mod_lt _ (by omega)
    rw [getElem!_pos _ (t % 2) hm, List.getElem?_eq_getElem hm]
  · rw [Array.getElem?_eq_none (by rw [Sort.size_flatK]; simpa using (by omega : l.length * 2 ≤ t)), List.getElem?_toArray, List.getElem?_eq_none (by omega)]
theorem heap_sortedV {w : World} {g n : Nat} {os : Array Obj} {cur : Array Value} {e : TypeId} {fr : Nat × Nat} (d : Array Value) (hb : w.heap[g]? = some (.cells cur e fr)) :
    (Sort.grow (Sort.putRow id (Sort.ahead w n) g 0 d) os).heap[g]? = some (.cells (Sort.putCells id 0 d cur) e fr) := by
  have hg : g < w.heap.size := (Array.getElem?_eq_some_iff.1 hb).1
  rw [Sort.heap_grow_old _ _ (by simpa using hg)]
  simp [Sort.putRow, Sort.mapBlock, Sort.ahead, Array.getElem?_modify, hb, Sort.onCells]
theorem grownBy_sortedV {w : World} {g n : Nat} {os : Array Obj} (d : Array Value) : w.grownBy (Sort.grow (Sort.putRow id (Sort.ahead w n) g 0 d) os) (some g) := by
  refine ⟨rfl, rfl, rfl, by simp, fun k hk hne => ?_⟩
  rw [Sort.heap_grow_old _ _ (by simpa using hk)]
  have : g ≠ k := fun e => hne (by rw [e])
  simp [Sort.putRow, Sort.mapBlock, Sort.ahead, Array.getElem?_modify, this]
theorem take_putCellsV (cur : Array Value) (ts : List Value) (h : ts.length ≤ cur.size) : (Sort.putCells id 0 ts.toArray cur).toList.take ts.length = ts := by
  apply List.ext_getElem?
  intro j
  by_cases hj : j < ts.length
  · rw [List.getElem?_take_of_lt hj, Array.getElem?_toList]
    simp [Sort.putCells, hj, show j < cur.size by omega]
  · rw [List.getElem?_take_eq_none (by omega), List.getElem?_eq_none (by omega)]
theorem holds_st {base c g : Nat} {T : TypeId} {w0 w : World} {l : List St} (h : O1 sEnc 2 base T w0 w (some ⟨g, 0, none⟩) c l) (h0 : 0 < l.length) : Sort.HoldsK sEnc 2 w g 0 l.toArray := by
  rcases h.own.2 with ⟨h1, _⟩ | ⟨g', cap, cur, hv, hg, hb, hn, hcap, hsz, htk⟩
  · cases h1
  cases hv
  intro j hj
  rw [flatK_st] at hj ⊢
  have hj' : j < l.length * 2 := by
    rw [← flatR_length sEnc_len l]; simpa using hj
  refine ⟨?_, by simp [World.frozen?, hb]⟩
  have h2 := World.ownsRow.cellAt h.own j (by omega)
  rw [Nat.zero_add, h2]
  rw [getElem!_pos _ j hj]
  simp [List.getElem?_eq_getElem (show j < (flatR sEnc l).length by rw [flatR_length sEnc_len]; exact hj')]
theorem O1.sorted {base c g : Nat} {T : TypeId} {w0 w : World} {l m : List St} (h : O1 sEnc 2 base T w0 w (some ⟨g, 0, none⟩) c l) (hm : m.length = l.length) (n : Nat) (os : Array Obj) : O1 sEnc 2 base T w0 (sortWorldK sEnc 2 w g 0 n m.toArray os) (some ⟨g, 0, none⟩) c m := by
  rcases h.own.2 with ⟨h1, _⟩ | ⟨g', cap, cur, hv, hg, hb, hn, hcap, hsz, htk⟩
  · cases h1
  cases hv
  have hw : sortWorldK sEnc 2 w g 0 n m.toArray os = Sort.grow (Sort.putRow id (Sort.ahead w n) g 0 (flatR sEnc m).toArray) os := by
    rw [← flatK_st]; rfl
  rw [hw]
  have hfl : (flatR sEnc m).length = m.length * 2 := flatR_length sEnc_len m
  have hgr : w.grownBy (Sort.grow (Sort.putRow id (Sort.ahead w n) g 0 (flatR sEnc m).toArray) os) (some g) := grownBy_sortedV _
  refine ⟨⟨hfl, .inr ⟨g, c, _, rfl, hg, heap_sortedV _ hb, by omega, hcap, by simp [Sort.putCells, hsz], ?_⟩⟩, h.below.grown hgr h.size (fun k hk => by cases hk; exact hg), Nat.le_trans h.size hgr.size⟩
  have := take_putCellsV cur (flatR sEnc m) (by rw [hfl, hsz, hm]; exact Nat.mul_le_mul_right 2 hn)
  rw [hfl] at this
  exact this
set_option maxHeartbeats 1000000 in
theorem psort {base c : Nat} {w0 w : World} {A : Option Addr} {l : List St} (h : O1 sEnc 2 base 43 w0 w A c l) (h0 : 0 < l.length) (h12 : l.length ≤ 12) :
    Calls Tryd.prog 44 #[.slice A l.length c, .func (.func 45) #[] #[]] w fun e w' => e = .returned (.tuple #[]) ∧ O1 sEnc 2 base 43 w0 w' A c (sortS l) := by
  obtain ⟨g, rfl, hg, hgl⟩ := O1.form h h0
  have eg : ∀ args w, (callFunc 45 args).run Tryd.prog w = .ok (.enter 45 args) w := enters_of Tryd.func45 (by kernel_rfl) rfl
  have hcmp : CmpLays Tryd.prog 45 #[] sEnc 2 cfS g 0 l.toArray.size w := fun _ _ _ _ x y => pcmp x y _
  have hlen : ∀ (n : Nat) (W : World), n ≤ 12 → Calls Tryd.prog 64 #[.int .u64 n] W fun e w' => (∃ l : Int, e = .returned (.int .i64 l)) ∧ w' = W := fun n W hn => (Any.bits_Len sh_bitsLen n W (by omega) (by omega)).mono fun _ _ ⟨he, hw⟩ => ⟨⟨_, he⟩, hw⟩
  have hcon := AnyQ.slices_SortFunc_small sh_sortSt 2 Tryd.isAgg43 Tryd.sizeOf43 sEnc sEnc_len sEnc_one cfS 45 #[] g 0 c l.toArray w eg hcmp (holds_st h h0) hgl (by simpa using h12) hlen
  refine hcon.mono ?_
  rintro e w' ⟨rfl, n, os, rfl⟩
  refine ⟨rfl, ?_⟩
  rw [show l.toArray.size = l.length by simp, sortA_eq]
  have := h.sorted (m := sortS l) (sortS_len l) n os
  rwa [show (sortS l).toArray = sortA l by simp [sortS]] at this
end Go.Proofs.YtbcdimklblpdnaaDoor
