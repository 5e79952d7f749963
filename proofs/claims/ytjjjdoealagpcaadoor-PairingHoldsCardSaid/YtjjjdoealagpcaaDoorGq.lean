/- Layer 43: how Pair reads the table, plain; rows of bools; append onto a part of a row. -/
import Derived.Test.YtjjjdoealagpcaaDoorGp
import Derived.Deep.AppendSrc
namespace Go.Proofs.YtjjjdoealagpcaaDoor
open Go Go.RowKit
set_option linter.unusedSimpArgs false
set_option linter.unusedVariables false
/-- a block that holds a row of bools -/
structure BRow (w : World) (B : Nat) (T : TypeId) (L : List Bool) : Prop where
  row : w.heap[B]? = some (.cells (L.map Value.bool).toArray T)
section
variable {w w' : World} {B : Nat} {T : TypeId} {L : List Bool}
theorem BRow.cell (h : BRow w B T L) {k : Nat} {x : Bool} (hk : L[k]? = some x) : w.cell? ⟨B, k, none⟩ = some (.bool x) := by
  rw [cell_of_row _ _ _ _ _ _ h.row]
  simp [hk]
theorem BRow.fr (h : BRow w B T L) (k : Nat) : w.frozen? ⟨B, k, none⟩ = false := frozen_of_row _ _ _ _ _ h.row
theorem BRow.lt (h : BRow w B T L) : B < w.heap.size := (Array.getElem?_eq_some_iff.1 h.row).1
theorem BRow.of_block (h : BRow w B T L) (hb : w'.heap[B]? = w.heap[B]?) : BRow w' B T L := ⟨hb.trans h.row⟩
theorem BRow.next (h : BRow w B T L) (hb : Below w.heap.size w w') : BRow w' B T L := h.of_block (hb.block B h.lt)
theorem BRow.other (h : BRow w B T L) {a : Addr} (hne : B ≠ a.block) (v : Value) : BRow (w.setCell a v) B T L := h.of_block (heap_setCell_other w a B v hne)
theorem BRow.set (h : BRow w B T L) (i : Nat) (x : Bool) : BRow (w.setCell ⟨B, i, none⟩ (.bool x)) B T (L.set i x) := by
  refine ⟨?_⟩
  rw [heap_setCell_same w B i _ T _ h.row]
  simp [List.map_set]
end
/-- one number appended onto a part of a row -/
theorem run_app1 (W : World) (ty : TypeId) (g off n c : Nat) (L : List Int) (x : Int) (ab ao cx : Nat) (cur : Array Value) (hrow : W.heap[g]? = some (.cells cur 3)) (hcur : off + c ≤ cur.size) (hL : L.length = n) (hn : n ≤ c) (hc : n ≤ 100000) (hat : ∀ k y, L[k]? = some y → cur[off + k]? = some (Value.int .i64 y)) (hx : W.cell? ⟨ab, ao, none⟩ = some (.int .i64 x)) :
    ∃ A' c' w', (Builtin.append_ #[23, 23] ty #[.slice (some ⟨g, off, none⟩) n c, .slice (some ⟨ab, ao, none⟩) 1 cx]).run Tryd.prog W = .ok (.slice A' ((n + 1 : Nat)) c') w' ∧ RecAt iEnc 1 w' w'.heap.size A' (L ++ [x]) ∧ W.grownBy w' (some g) := by
  obtain ⟨ht, h0, hb, i, z, hi, hz, hsz, hby, hzs⟩ := intRow
  have hglt : g < W.heap.size := (Array.getElem?_eq_some_iff.1 hrow).1
  have hadd : ∀ (b o j : Nat), (⟨b, o, none⟩ : Addr).add j = ⟨b, o + j, none⟩ := fun b o j => by unfold Addr.add; split <;> simp_all
  have hsrc : Src Tryd.prog 1 23 (.slice (some ⟨ab, ao, none⟩) 1 cx) 1 [.int .i64 x] W := Src.ofSlice W Tryd.underlying23 ⟨ab, ao, none⟩ 1 cx [.int .i64 x] rfl (fun j u hu => by
    match j, hu with
    | 0, hu =>
      obtain rfl := Option.some.inj hu
      rw [hadd]; exact hx
    | (j + 1), hu => simp at hu) (fun u hu => by simp at hu; subst hu; rfl)
  by_cases hroom : n + 1 ≤ c
  · have hce : W.cell? ⟨g, off + n, none⟩ = cur[off + n]? := cell_of_row _ _ _ _ _ _ hrow
    have h := run_append_room_src (P := Tryd.prog) W 23 23 ty 3 i ht hi g off n c (.slice (some ⟨ab, ao, none⟩) 1 cx) 1 [.int .i64 x] (by rw [hsz]; exact hsrc) hroom (fun j hj => by
      have : j = 0 := by simpa using hj
      subst this
      rw [hsz, Nat.mul_one, Nat.add_zero, hce]
      simp; omega) (fun j hj => frozen_of_row _ _ _ _ _ hrow)
    rw [hsz, Nat.mul_one] at h
    have hset : W.setCells g (off + n) [.int .i64 x] = W.setCell ⟨g, off + n, none⟩ (.int .i64 x) := rfl
    rw [hset] at h
    refine ⟨_, _, _, h, ?_, rfl, rfl, rfl, by simp, fun k hk hne => heap_setCell_other W ⟨g, off + n, none⟩ k _ (fun e => hne (by rw [e]))⟩
    intro _
    refine ⟨g, off, rfl, by simpa using hglt, fun k y hy j u hu => ?_⟩
    match j, hu with
    | 0, hu =>
      obtain rfl := Option.some.inj hu
      rw [cell_of_row _ _ _ _ _ _ (heap_setCell_same W g (off + n) _ _ (.int .i64 x) hrow), Nat.mul_one, Nat.add_zero, Array.getElem?_setIfInBounds]
      by_cases hk : k < n
      · rw [if_neg (by omega)]
        rw [List.getElem?_append_left (by omega)] at hy
        exact hat k y hy
      · have hkn : k = n := by
          have := (List.getElem?_eq_some_iff.1 hy).1
          rw [List.length_append, hL] at this
          simp at this
          omega
        subst hkn
        rw [List.getElem?_append_right (by omega), hL, Nat.sub_self] at hy
        obtain rfl := Option.some.inj hy
        rw [if_pos rfl, if_pos (by omega)]
    | (j + 1), hu => simp [iEnc] at hu
  · have hcell : ∀ (j : Nat) (u : Value), (L.map (Value.int .i64))[j]? = some u → W.cell? ((⟨g, off, none⟩ : Addr).add j) = some u := fun j u hu => by
      rw [hadd, cell_of_row _ _ _ _ _ _ hrow]
      rw [List.getElem?_map] at hu
      cases hy : L[j]? with
      | none => rw [hy] at hu; cases hu
      | some y =>
        rw [hy] at hu
        obtain rfl := Option.some.inj hu
        exact hat j y hy
    have hfc := run_firstCells_some (P := Tryd.prog) W.drew 1 n ⟨g, off, none⟩ n c (L.map (Value.int .i64)) (by simp [hL]) (by simpa using hcell)
    have h := run_append_grow_src (P := Tryd.prog) W 23 23 ty 3 i z ht hi hz (some ⟨g, off, none⟩) n c (L.map (Value.int .i64)) (by rw [hsz]; exact hfc) (.slice (some ⟨ab, ao, none⟩) 1 cx) 1 [.int .i64 x] (by rw [hsz]; exact hsrc) (by omega) (by omega) (by
      rw [hby]
      have := nextslicecap_le (need := n + 1) (old := c) (by omega)
      omega)
    refine ⟨_, _, _, h, ?_, rfl, rfl, rfl, by simp, fun k hk hne => heap_alloc_old W.drew _ hk⟩
    intro _
    refine ⟨W.heap.size, 0, rfl, by simp, fun k y hy j u hu => ?_⟩
    match j, hu with
    | 0, hu =>
      obtain rfl := Option.some.inj hu
      rw [show W.heap.size = W.drew.heap.size from rfl, cell_of_row _ _ _ _ _ _ (heap_alloc_new W.drew _)]
      simp only [Nat.zero_add, Nat.mul_one, Nat.add_zero]
      have hkl := (List.getElem?_eq_some_iff.1 hy).1
      rw [Array.getElem?_append_left (by simpa using hkl)]
      simp only [List.getElem?_toArray]
      rw [show L.map (Value.int .i64) ++ [Value.int .i64 x] = (L ++ [x]).map (Value.int .i64) by simp, List.getElem?_map, hy]; rfl
    | (j + 1), hu => simp [iEnc] at hu
/-! how Pair reads the table -/
/-- the partners of the lowest element, in order -/
def ordL (len i : Nat) : List Nat := if len % 2 = 1 then len :: List.range' (i + 1) (len - (i + 1)) else List.range' (i + 1) (len - (i + 1))
/-- does this partner reach the lowest cost? -/
def okJ (C : Nat → Nat → Int) (T : Nat → Int) (s i j : Nat) : Bool := s.testBit j && (C i j != -1) && (T (restN s i j) != -1) && (C i j + T (restN s i j) == T s)
def pickJ (C : Nat → Nat → Int) (T : Nat → Int) (len s : Nat) : Option Nat := (ordL len (lowE s)).find? (okJ C T s (lowE s))
def pickL (C : Nat → Nat → Int) (T : Nat → Int) (len : Nat) : Nat → Nat → List (Nat × Nat)
  | 0, _ => []
  | k + 1, s => if s = 0 then [] else match pickJ C T len s with
    | none => []
    | some j => (lowE s, j) :: pickL C T len k (restN s (lowE s) j)
theorem pickL_zero (C : Nat → Nat → Int) (T : Nat → Int) (len k : Nat) : pickL C T len k 0 = [] := by
  cases k with
  | zero => rfl
  | succ k => exact if_pos rfl
/-- the opponents -/
def putO (len : Nat) (O : List Int) (p : Nat × Nat) : List Int := if p.2 = len then O.set p.1 (-1) else (O.set p.1 (p.2 : Int)).set p.2 (p.1 : Int)
def en (l : List Ent) (i : Nat) : Ent := l[i]?.getD default
theorem en_eq {l : List Ent} {i : Nat} {x : Ent} (h : l[i]? = some x) : en l i = x := by unfold en; rw [h]; rfl
/-- who plays White -/
def whI (l : List Ent) (i j : Nat) : Int := whiteI (en l i) (en l j) i j
def putW (l : List Ent) (W : List Bool) (p : Nat × Nat) : List Bool := if p.2 = l.length then W else (W.set p.1 (whI l p.1 p.2 == (p.1 : Int))).set p.2 (whI l p.1 p.2 == (p.2 : Int))
def bst (l : List Ent) : Nat → Int := bestT (cst l) (szE l)
def fullS (l : List Ent) : Nat := 2 ^ szE l - 1
def pairsL (l : List Ent) : List (Nat × Nat) := pickL (cst l) (bst l) l.length (fullS l) (fullS l)
def resO (l : List Ent) : List Int := (pairsL l).foldl (putO l.length) (List.replicate l.length 0)
def resW (l : List Ent) : List Bool := (pairsL l).foldl (putW l) (List.replicate l.length false)
theorem mem_ordL {len i j : Nat} (hi : i < len) (h : j ∈ ordL len i) : i < j ∧ j ≤ len ∧ (len % 2 = 0 → j < len) := by
  unfold ordL at h
  split at h
  · rcases List.mem_cons.1 h with rfl | h
    · exact ⟨hi, Nat.le_refl _, by omega⟩
    · rw [List.mem_range'] at h
      obtain ⟨k, hk, rfl⟩ := h
      omega
  · rw [List.mem_range'] at h
    obtain ⟨k, hk, rfl⟩ := h
    omega
theorem ordL_mem {len n i j : Nat} (hn : n = len + len % 2) (hij : i < j) (hj : j < n) : j ∈ ordL len i := by
  unfold ordL
  split
  · by_cases e : j = len
    · subst e; exact List.mem_cons_self
    · exact List.mem_cons_of_mem _ (List.mem_range'.2 ⟨j - (i + 1), by omega, by omega⟩)
  · exact List.mem_range'.2 ⟨j - (i + 1), by omega, by omega⟩
theorem okJ_iff {C : Nat → Nat → Int} {T : Nat → Int} {s i j : Nat} : okJ C T s i j = true ↔ s.testBit j = true ∧ C i j ≠ -1 ∧ T (restN s i j) ≠ -1 ∧ C i j + T (restN s i j) = T s := by
  unfold okJ
  rw [Bool.and_eq_true, Bool.and_eq_true, Bool.and_eq_true, bne_iff_ne, bne_iff_ne, beq_iff_eq]
  constructor
  · rintro ⟨⟨⟨a, b⟩, c⟩, d⟩; exact ⟨a, b, c, d⟩
  · rintro ⟨a, b, c, d⟩; exact ⟨⟨⟨a, b⟩, c⟩, d⟩
/-- what the table has at a set is reached by some partner -/
theorem upT_reached {C : Nat → Nat → Int} {T : Nat → Int} {s i : Nat} : ∀ d, upT C T s i d ≠ -1 → ∃ j, i < j ∧ j < i + 1 + d ∧ s.testBit j = true ∧ C i j ≠ -1 ∧ T (restN s i j) ≠ -1 ∧ C i j + T (restN s i j) = upT C T s i d := by
  intro d
  induction d with
  | zero => intro h; exact absurd rfl h
  | succ d ih =>
    intro h
    show ∃ j, _ ∧ _ ∧ _ ∧ _ ∧ _ ∧ _ = stepT C T s i (upT C T s i d) (i + 1 + d)
    have h' : stepT C T s i (upT C T s i d) (i + 1 + d) ≠ -1 := h
    unfold stepT at h' ⊢
    split
    · rename_i hh
      exact ⟨i + 1 + d, by omega, by omega, hh.1, hh.2.1, hh.2.2.1, rfl⟩
    · rename_i hh
      rw [if_neg hh] at h'
      obtain ⟨j, h1, h2, h3⟩ := ih h'
      exact ⟨j, h1, by omega, h3⟩
theorem full_lt {n : Nat} (hn : n ≤ 8) : 2 ^ n ≤ 256 := by
  have h1 : 2 ^ n ≤ 2 ^ 8 := Nat.pow_le_pow_right (show 2 > 0 by decide) hn
  omega
theorem bit_lt {n s j : Nat} (hs : s < 2 ^ n) (h : s.testBit j = true) : j < n := by
  apply Nat.lt_of_not_le
  intro h8
  have h2 : 2 ^ n ≤ 2 ^ j := Nat.pow_le_pow_right (show 2 > 0 by decide) h8
  rw [Nat.testBit_lt_two_pow (by omega)] at h
  cases h
theorem pickJ_some {C : Nat → Nat → Int} {len n s : Nat} (hn : n = len + len % 2) (hn8 : n ≤ 8) (hs : s < 2 ^ n) (h0 : s ≠ 0) (hb : bestT C n s ≠ -1) : ∃ j, pickJ C (bestT C n) len s = some j := by
  have hs2 : s < 256 := Nat.lt_of_lt_of_le hs (full_lt hn8)
  have he := bestT_eq C n s hs2
  unfold entT at he
  rw [if_neg h0] at he
  split at he
  · rw [he] at hb
    obtain ⟨j, h1, h2, h3, h4, h5, h6⟩ := upT_reached _ hb
    have hln := bit_lt hs (low_in hs2 h0).1
    have hok : okJ C (bestT C n) s (lowE s) j = true := okJ_iff.2 ⟨h3, h4, h5, by rw [h6, ← he]⟩
    have hm := ordL_mem (j := j) hn h1 (by omega)
    cases hf : pickJ C (bestT C n) len s with
    | some j => exact ⟨j, rfl⟩
    | none =>
      unfold pickJ at hf
      rw [List.find?_eq_none] at hf
      exact absurd hok (hf j hm)
  · exact absurd he hb
theorem pickJ_out {C : Nat → Nat → Int} {T : Nat → Int} {len s j : Nat} (h : pickJ C T len s = some j) : j ∈ ordL len (lowE s) ∧ okJ C T s (lowE s) j = true := ⟨List.mem_of_find?_eq_some h, List.find?_some h⟩
/-- the first one that fits -/
theorem find_first {α : Type} {p : α → Bool} : ∀ {l : List α} {k : Nat} {x : α}, l[k]? = some x → p x = true → (∀ (j : Nat) (y : α), j < k → l[j]? = some y → p y = false) → l.find? p = some x
  | [], k, x, h, _, _ => by simp at h
  | a :: l, 0, x, h, hp, _ => by
    obtain rfl : a = x := by simpa using h
    rw [List.find?_cons_of_pos hp]
  | a :: l, k + 1, x, h, hp, hno => by
    have ha := hno 0 a (Nat.succ_pos _) rfl
    rw [List.find?_cons_of_neg (by rw [ha]; decide)]
    exact find_first (k := k) (by simpa using h) hp (fun j y hj hy => hno (j + 1) y (by omega) (by simpa using hy))
theorem putO_len (len : Nat) (O : List Int) (p : Nat × Nat) : (putO len O p).length = O.length := by unfold putO; split <;> simp
theorem putW_len (l : List Ent) (W : List Bool) (p : Nat × Nat) : (putW l W p).length = W.length := by unfold putW; split <;> simp
end Go.Proofs.YtjjjdoealagpcaaDoor
