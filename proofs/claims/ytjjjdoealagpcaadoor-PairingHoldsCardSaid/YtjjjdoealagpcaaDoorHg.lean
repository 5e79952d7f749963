/- Layer 43: all pairings, plain; rows of rows in memory. -/
import Derived.Test.YtjjjdoealagpcaaDoorHd
namespace Go.Proofs.YtjjjdoealagpcaaDoor
open Go Go.RowKit
set_option linter.unusedSimpArgs false
set_option linter.unusedVariables false
/-- the first entrant without an opponent -/
def fst2 (now : List Int) : Nat := now.findIdx (fun x => x == -2)
def allW : Nat → List Int → Bool → List (List Int)
  | 0, now, free => if free then [] else [now]
  | m + 1, now, free => if fst2 now = now.length then (if free then [] else [now]) else
      (if free then allW m (now.set (fst2 now) (-1)) false else []) ++
        (List.range' (fst2 now + 1) (now.length - (fst2 now + 1))).flatMap fun k => if now.getD k 0 = -2 then allW m ((now.set (fst2 now) (k : Int)).set k (fst2 now : Int)) free else []
def grpW (m : Nat) (now : List Int) (free : Bool) (i k : Nat) : List (List Int) := if now.getD k 0 = -2 then allW m ((now.set i (k : Int)).set k (i : Int)) free else []
def partW (m : Nat) (now : List Int) (free : Bool) (i d : Nat) : List (List Int) := (if free then allW m (now.set i (-1)) false else []) ++ (List.range' (i + 1) d).flatMap (grpW m now free i)
theorem partW_zero (m : Nat) (now : List Int) (free : Bool) (i : Nat) : partW m now free i 0 = if free then allW m (now.set i (-1)) false else [] := by unfold partW; simp
theorem partW_succ (m : Nat) (now : List Int) (free : Bool) (i d : Nat) : partW m now free i (d + 1) = partW m now free i d ++ grpW m now free i (i + 1 + d) := by
  unfold partW
  rw [List.range'_concat, List.flatMap_append]
  simp
theorem allW_full (m : Nat) {now : List Int} {free : Bool} (h : fst2 now = now.length) : allW m now free = if free then [] else [now] := by
  cases m with
  | zero => rfl
  | succ m => exact if_pos h
theorem allW_part (m : Nat) {now : List Int} {free : Bool} {i : Nat} (hi : fst2 now = i) (h : i < now.length) : allW (m + 1) now free = partW m now free i (now.length - (i + 1)) := by
  subst hi
  unfold allW
  rw [if_neg (by omega)]
  rfl
theorem fst2_is {now : List Int} {i : Nat} (hi : now[i]? = some (-2)) (hlt : ∀ (j : Nat) (x : Int), j < i → now[j]? = some x → x ≠ -2) : fst2 now = i := by
  have hil := (List.getElem?_eq_some_iff.1 hi).1
  unfold fst2
  rcases Nat.lt_trichotomy (now.findIdx (fun x => x == -2)) i with h | h | h
  · have hq : now.findIdx (fun x => x == -2) < now.length := by omega
    have h1 := List.findIdx_getElem (xs := now) (p := fun x => x == -2) (w := hq)
    rw [beq_iff_eq] at h1
    exact absurd h1 (hlt _ _ h (List.getElem?_eq_getElem hq))
  · exact h
  · have h1 := List.not_of_lt_findIdx h
    have h2 := (List.getElem?_eq_some_iff.1 hi).2
    rw [h2] at h1
    simp at h1
theorem fst2_none {now : List Int} (h : ∀ (j : Nat) (x : Int), now[j]? = some x → x ≠ -2) : fst2 now = now.length := by
  unfold fst2
  rw [List.findIdx_eq_length]
  intro x hx
  obtain ⟨j, hj⟩ := List.getElem?_of_mem hx
  rw [beq_eq_false_iff_ne]
  exact h j x hj
/-- is there one without an opponent? -/
theorem fst2_or (now : List Int) : (∀ (j : Nat) (x : Int), now[j]? = some x → x ≠ -2) ∨ ∃ i : Nat, now[i]? = some (-2) ∧ ∀ (j : Nat) (x : Int), j < i → now[j]? = some x → x ≠ -2 := by
  by_cases h : fst2 now < now.length
  · refine Or.inr ⟨fst2 now, ?_, fun j x hj hx => ?_⟩
    · have h1 := List.findIdx_getElem (xs := now) (p := fun x => x == -2) (w := h)
      rw [List.getElem?_eq_getElem h]
      rw [beq_iff_eq] at h1
      exact congrArg some h1
    · have h1 := List.not_of_lt_findIdx (xs := now) (p := fun x => x == -2) hj
      obtain ⟨hl, h2⟩ := List.getElem?_eq_some_iff.1 hx
      rw [h2] at h1
      simpa using h1
  · refine Or.inl fun j x hx he => ?_
    obtain ⟨hl, h2⟩ := List.getElem?_eq_some_iff.1 hx
    have h1 : now.findIdx (fun x => x == -2) < now.length := List.findIdx_lt_length_of_exists ⟨now[j], List.getElem_mem hl, by rw [h2, he]; rfl⟩
    exact h h1
theorem flat_len {α β : Type} (f : α → List β) (M : Nat) : ∀ (l : List α), (∀ x ∈ l, (f x).length ≤ M) → (l.flatMap f).length ≤ l.length * M
  | [], _ => by simp
  | x :: l, h => by
    have h1 := flat_len f M l (fun y hy => h y (List.mem_cons_of_mem _ hy))
    have h2 := h x List.mem_cons_self
    rw [List.flatMap_cons, List.length_append, List.length_cons, Nat.add_mul, Nat.one_mul]
    omega
theorem partW_le {m : Nat} {now : List Int} {free : Bool} {i d M : Nat} (h : ∀ now' free', now'.length = now.length → (allW m now' free').length ≤ M) : (partW m now free i d).length ≤ (d + 1) * M := by
  unfold partW
  rw [List.length_append, Nat.add_mul, Nat.one_mul]
  have h1 := flat_len (grpW m now free i) M (List.range' (i + 1) d) (fun k _ => by
    unfold grpW
    split
    · exact h _ _ (by simp)
    · exact Nat.zero_le _)
  rw [List.length_range'] at h1
  have h2 : (if free then allW m (now.set i (-1)) false else []).length ≤ M := by
    split
    · exact h _ _ (by simp)
    · exact Nat.zero_le _
  omega
theorem allW_le : ∀ (m : Nat) (now : List Int) (free : Bool), now.length ≤ 7 → (allW m now free).length ≤ 7 ^ m
  | 0, now, free, _ => by unfold allW; split <;> simp
  | m + 1, now, free, hl => by
    have h1 : 1 ≤ 7 ^ (m + 1) := Nat.one_le_pow _ _ (by decide)
    by_cases h : fst2 now < now.length
    · rw [allW_part m rfl h]
      have h2 := partW_le (m := m) (now := now) (free := free) (i := fst2 now) (d := now.length - (fst2 now + 1)) (M := 7 ^ m) (fun now' free' hl' => allW_le m now' free' (by omega))
      have h3 : (now.length - (fst2 now + 1) + 1) * 7 ^ m ≤ 7 * 7 ^ m := Nat.mul_le_mul_right _ (by omega)
      rw [Nat.pow_succ]
      omega
    · have h4 : fst2 now ≤ now.length := List.findIdx_le_length
      rw [allW_full (m + 1) (by omega)]
      split
      · exact Nat.zero_le _
      · exact h1
theorem partW_bd {m : Nat} {now : List Int} {free : Bool} {i d : Nat} (hl : now.length ≤ 7) (hm : m ≤ 6) (hd : i + 1 + d ≤ now.length) : (partW m now free i d).length ≤ 823543 := by
  have h2 := partW_le (m := m) (now := now) (free := free) (i := i) (d := d) (M := 7 ^ m) (fun now' free' hl' => allW_le m now' free' (by omega))
  have h3 : 7 ^ m ≤ 7 ^ 6 := Nat.pow_le_pow_right (by decide) hm
  have h4 : (d + 1) * 7 ^ m ≤ 7 * 7 ^ 6 := Nat.mul_le_mul (by omega) h3
  have h5 : 7 * 7 ^ 6 = 823543 := by decide
  omega
theorem cnt_set {now : List Int} {i : Nat} {x : Int} (hi : now[i]? = some (-2)) (hx : x ≠ -2) : (now.set i x).count (-2) + 1 = now.count (-2) := by
  obtain ⟨hl, h2⟩ := List.getElem?_eq_some_iff.1 hi
  have h1 : 0 < now.count (-2) := List.count_pos_iff.2 (List.mem_of_getElem? hi)
  rw [List.count_set hl, h2]
  have e : (x == (-2 : Int)) = false := by rw [beq_eq_false_iff_ne]; exact hx
  simp [e]
  omega
theorem cnt_le {now : List Int} {i : Nat} {x : Int} (hx : x ≠ -2) : (now.set i x).count (-2) ≤ now.count (-2) := by
  by_cases hl : i < now.length
  · rw [List.count_set hl]
    have e : (x == (-2 : Int)) = false := by rw [beq_eq_false_iff_ne]; exact hx
    rw [e]
    simp
  · rw [List.set_eq_of_length_le (by omega)]
    exact Nat.le_refl _
/-! rows in memory -/
structure TRow (w : World) (b : Nat) (l : List Int) : Prop where
  row : ∃ arr, w.heap[b]? = some (.cells arr 3) ∧ ∀ (k : Nat) (x : Int), l[k]? = some x → arr[k]? = some (Value.int .i64 x)
theorem TRow.lt {w : World} {b : Nat} {l : List Int} (h : TRow w b l) : b < w.heap.size := by
  obtain ⟨arr, h1, _⟩ := h.row
  exact (Array.getElem?_eq_some_iff.1 h1).1
theorem TRow.cell {w : World} {b : Nat} {l : List Int} (h : TRow w b l) {k : Nat} {x : Int} (hk : l[k]? = some x) : w.cell? ⟨b, k, none⟩ = some (.int .i64 x) := by
  obtain ⟨arr, h1, h2⟩ := h.row
  rw [cell_of_row _ _ _ _ _ _ h1]
  exact h2 k x hk
theorem TRow.of_block {w w' : World} {b : Nat} {l : List Int} (h : TRow w b l) (hb : w'.heap[b]? = w.heap[b]?) : TRow w' b l := by
  obtain ⟨arr, h1, h2⟩ := h.row
  exact ⟨arr, hb.trans h1, h2⟩
theorem TRow.next {w w' : World} {b : Nat} {l : List Int} (h : TRow w b l) (hb : Below w.heap.size w w') : TRow w' b l := h.of_block (hb.block b h.lt)
theorem TRow.recs {w : World} {b : Nat} {l : List Int} (h : TRow w b l) : RecAt iEnc 1 w w.heap.size (some ⟨b, 0, none⟩) l := fun _ => by
  refine ⟨b, 0, rfl, h.lt, fun k x hx j u hu => ?_⟩
  match j, hu with
  | 0, hu =>
    rw [show u = .int .i64 x from (Option.some.inj hu).symm, Nat.mul_one, Nat.zero_add, Nat.add_zero]
    exact h.cell hx
  | (j + 1), hu => simp [iEnc] at hu
theorem O1.trow {base : Nat} {w0 w : World} {g c : Nat} {l : List Int} (h : O1 iEnc 1 base 3 w0 w (some ⟨g, 0, none⟩) c l) : TRow w g l := by
  rcases h.own.2 with ⟨h1, _⟩ | ⟨g', cap, cur, hv, hb, hh, hle, _, hsz, htk⟩
  · cases h1
  · simp only [Value.slice.injEq, Option.some.injEq, Addr.mk.injEq] at hv
    obtain ⟨⟨rfl, _, _⟩, _, rfl⟩ := hv
    refine ⟨cur, hh, fun k x hx => ?_⟩
    have hk := (List.getElem?_eq_some_iff.1 hx).1
    rw [flat1 (f := iEnc) (g := fun x => Value.int .i64 x) (fun _ => rfl), Nat.mul_one] at htk
    have h2 : (cur.toList.take l.length)[k]? = some (Value.int .i64 x) := by rw [htk, List.getElem?_map, hx]; rfl
    rw [List.getElem?_take_of_lt hk] at h2
    simpa using h2
/-- a row of the list of all pairings -/
structure Wy where
  b : Nat
  c : Nat
  l : List Int
def wEnc (n : Nat) (y : Wy) : List Value := [.slice (some ⟨y.b, 0, none⟩) n y.c]
theorem wEnc_len (n : Nat) (y : Wy) : (wEnc n y).length = 1 := rfl
theorem wEnc_one (n : Nat) (y : Wy) : ∀ u ∈ wEnc n y, u.oneCell' = true := by
  intro u hu
  simp [wEnc] at hu
  subst hu
  rfl
theorem wayRow : RowOf Tryd.prog 70 23 1 24 :=
  ⟨Tryd.underlying70, by decide, by decide, _, _, rfl, rfl, by kernel_rfl, by kernel_rfl, by kernel_rfl⟩
/-- the rows of all pairings, as they are handed back -/
structure WR (w : World) (R : Option Addr) (n : Nat) (ys : List Wy) (ws : List (List Int)) : Prop where
  row : RecAt (wEnc n) 1 w w.heap.size R ys
  rows : ∀ y ∈ ys, TRow w y.b y.l
  ls : ys.map (fun y => y.l) = ws
structure AllP (n : Nat) (ws : List (List Int)) (e : Ending) (w w' : World) : Prop where
  out : ∃ (R : Option Addr) (c : Nat) (ys : List Wy), e = .returned (.slice R ys.length c) ∧ WR w' R n ys ws
  below : Below w.heap.size w w'
/-- the rows so far, of one's own -/
structure WO (w0 w : World) (A : Option Addr) (n c : Nat) (ys : List Wy) (ws : List (List Int)) : Prop where
  own : O1 (wEnc n) 1 w0.heap.size 23 w0 w A c ys
  rows : ∀ y ∈ ys, TRow w y.b y.l
  ls : ys.map (fun y => y.l) = ws
theorem WO.next {w0 w w' : World} {A : Option Addr} {n c : Nat} {ys : List Wy} {ws : List (List Int)} (h : WO w0 w A n c ys ws) (hb : Below w.heap.size w w') : WO w0 w' A n c ys ws := ⟨h.own.next hb, fun y hy => (h.rows y hy).next hb, h.ls⟩
theorem WO.nil (w : World) (n : Nat) : WO w w none n 0 [] [] := ⟨O1.nil (Below.refl _ _) (Nat.le_refl _), fun y hy => absurd hy (List.not_mem_nil), rfl⟩
theorem TRow.app {w0 w w' : World} {A : Option Addr} {n c b : Nat} {ys : List Wy} {l : List Int} (hO : O1 (wEnc n) 1 w0.heap.size 23 w0 w A c ys) (hg : w.grownBy w' (Value.slice A ys.length c).ownBlock) (h : TRow w b l) : TRow w' b l := by
  obtain ⟨_, _, _, _, hblk⟩ := hg
  refine h.of_block (hblk b h.lt ?_)
  rcases hO.own.2 with ⟨h1, _⟩ | ⟨g', cap, cur, hv, hb, hh, _⟩
  · rw [h1]; simp [Value.ownBlock]
  · rw [hv]
    intro e
    have e2 : b = g' := by simpa [Value.ownBlock] using e
    subst e2
    obtain ⟨arr, h3, _⟩ := h.row
    rw [hh] at h3
    have h4 := Option.some.inj h3
    simp at h4
theorem WO.app {w0 w w' : World} {A A' R : Option Addr} {n c c' : Nat} {ys ys2 : List Wy} {ws ws2 : List (List Int)} (h : WO w0 w A n c ys ws) (h2 : WR w R n ys2 ws2)
    (hown : w'.ownsRow w0.heap.size 23 1 (.slice A' (ys ++ ys2).length c') (ys ++ ys2).length (flatR (wEnc n) (ys ++ ys2))) (hg : w.grownBy w' (Value.slice A ys.length c).ownBlock) : WO w0 w' A' n c' (ys ++ ys2) (ws ++ ws2) :=
  ⟨h.own.app hown hg, fun y hy => (List.mem_append.1 hy).elim (fun hy => (h.rows y hy).app h.own hg) (fun hy => (h2.rows y hy).app h.own hg), by rw [List.map_append, h.ls, h2.ls]⟩
end Go.Proofs.YtjjjdoealagpcaaDoor
