/- Layer 43: rows of entrants of one's own; the field in which two change places, in memory. -/
import Derived.Test.YtjjjdoealagpcaaDoorHs
import Derived.Test.YtjjjdoealagpcaaDoorHm
import Derived.Test.YtjjjdoealagpcaaDoorHr
namespace Go.Proofs.YtjjjdoealagpcaaDoor
open Go Go.RowKit
set_option linter.unusedSimpArgs false
set_option linter.unusedVariables false
theorem eEnc_one (x : Ent) : ∀ u ∈ eEnc x, u.oneCell' = true := by
  intro u hu
  simp only [eEnc, List.mem_cons, List.not_mem_nil, or_false] at hu
  rcases hu with rfl | rfl | rfl | rfl | rfl | rfl | rfl | rfl <;> rfl
theorem entRow : RowOf Tryd.prog 22 25 8 88 :=
  RowOf.mk' (z := .agg #[.string ⟨#[]⟩, .int .i64 0, .int .i64 0, .int .i64 0, .int .i64 0, .int .i64 0, .bool false, .slice none 0 0]) Tryd.underlying22 (by kernel_rfl) (by decide) (by decide) rfl
theorem flat_set8 (e : Ent) : ∀ (L : List Ent) (k : Nat), (((((((((flatR eEnc L).set (k * 8) (.string e.name)).set (k * 8 + 1) (.int .i64 e.rating)).set (k * 8 + 2) (.int .i64 e.score)).set (k * 8 + 3) (.int .i64 e.whites)).set (k * 8 + 4) (.int .i64 e.blacks)).set (k * 8 + 5) (.int .i64 e.last)).set (k * 8 + 6) (.bool e.bye)).set (k * 8 + 7) (.slice e.mA e.met.length e.mc)) = flatR eEnc (L.set k e)
  | [], k => rfl
  | y :: L, 0 => rfl
  | y :: L, k + 1 => by
    have ih := flat_set8 e L k
    show _ = eEnc y ++ flatR eEnc (L.set k e)
    rw [← ih]
    rw [show (k + 1) * 8 = k * 8 + 8 by omega]
    rfl
theorem O1.set8 {base : Nat} {T : TypeId} {w0 W : World} {g c : Nat} {L : List Ent} (h : O1 eEnc 8 base T w0 W (some ⟨g, 0, none⟩) c L) (k : Nat) (e : Ent) : O1 eEnc 8 base T w0 ((((((((W.setCell ⟨g, k * 8, none⟩ (.string e.name)).setCell ⟨g, k * 8 + 1, none⟩ (.int .i64 e.rating)).setCell ⟨g, k * 8 + 2, none⟩ (.int .i64 e.score)).setCell ⟨g, k * 8 + 3, none⟩ (.int .i64 e.whites)).setCell ⟨g, k * 8 + 4, none⟩ (.int .i64 e.blacks)).setCell ⟨g, k * 8 + 5, none⟩ (.int .i64 e.last)).setCell ⟨g, k * 8 + 6, none⟩ (.bool e.bye)).setCell ⟨g, k * 8 + 7, none⟩ (.slice e.mA e.met.length e.mc)) (some ⟨g, 0, none⟩) c (L.set k e) := by
  have one : ∀ {W : World} {xs : List Value} (hw : W.ownsRow base T 8 (.slice (some ⟨g, 0, none⟩) L.length c) L.length xs ∧ Below base w0 W ∧ base ≤ W.heap.size) (j : Nat) (u : Value),
      (W.setCell ⟨g, j, none⟩ u).ownsRow base T 8 (.slice (some ⟨g, 0, none⟩) L.length c) L.length (xs.set j u) ∧ Below base w0 (W.setCell ⟨g, j, none⟩ u) ∧ base ≤ (W.setCell ⟨g, j, none⟩ u).heap.size := by
    intro W xs hw j u
    obtain ⟨h1, h2⟩ := World.ownsRow.stored hw.1 j u
    exact ⟨h1, hw.2.1.grown h2 hw.2.2 (fun k hk => (World.ownsRow.lt hw.1 k hk).1), Nat.le_trans hw.2.2 h2.size⟩
  obtain ⟨r1, r2, r3⟩ := (one (one (one (one (one (one (one (one ⟨h.own, h.below, h.size⟩ (k * 8) (.string e.name)) (k * 8 + 1) (.int .i64 e.rating)) (k * 8 + 2) (.int .i64 e.score)) (k * 8 + 3) (.int .i64 e.whites)) (k * 8 + 4) (.int .i64 e.blacks)) (k * 8 + 5) (.int .i64 e.last)) (k * 8 + 6) (.bool e.bye)) (k * 8 + 7) (.slice e.mA e.met.length e.mc))
  refine ⟨?_, r2, r3⟩
  unfold Own1
  rw [List.length_set, ← flat_set8 e L k]
  exact r1
theorem flat_set7 (e : Ent) (M : List Int) (A : Option Addr) (c : Nat) : ∀ (L : List Ent) (k : Nat), L[k]? = some e → (flatR eEnc L).set (k * 8 + 7) (.slice A M.length c) = flatR eEnc (L.set k { e with met := M, mA := A, mc := c })
  | [], k, h => by simp at h
  | y :: L, 0, h => by
    obtain rfl : y = e := by simpa using h
    rfl
  | y :: L, k + 1, h => by
    have ih := flat_set7 e M A c L k (by simpa using h)
    show _ = eEnc y ++ flatR eEnc (L.set k _)
    rw [← ih]
    rw [show (k + 1) * 8 = k * 8 + 8 by omega]
    rfl
theorem O1.set7 {base : Nat} {T : TypeId} {w0 W : World} {g c : Nat} {L : List Ent} (h : O1 eEnc 8 base T w0 W (some ⟨g, 0, none⟩) c L) {k : Nat} {e : Ent} (hk : L[k]? = some e) (M : List Int) (A : Option Addr) (c2 : Nat) :
    O1 eEnc 8 base T w0 (W.setCell ⟨g, k * 8 + 7, none⟩ (.slice A M.length c2)) (some ⟨g, 0, none⟩) c (L.set k { e with met := M, mA := A, mc := c2 }) := by
  obtain ⟨h1, h2⟩ := World.ownsRow.stored h.own (k * 8 + 7) (.slice A M.length c2)
  refine ⟨?_, h.below.grown h2 h.size (fun k hk => (World.ownsRow.lt h.own k hk).1), Nat.le_trans h.size h2.size⟩
  unfold Own1
  rw [List.length_set, ← flat_set7 e M A c2 L k hk]
  exact h1
/-- the field in which two change places, while the lists are made anew -/
structure SW (wb wr : World) (l E : List Ent) (g c2 x y i : Nat) : Prop where
  own : O1 eEnc 8 wb.heap.size 25 wb wr (some ⟨g, 0, none⟩) c2 E
  hg : wb.heap.size ≤ g
  len : E.length = l.length
  same : ∀ j, j < l.length → SameE (en E j) (en l (sw x y j))
  done : ∀ j, j < l.length → j < i → (en E j).met = nwM l x y j l.length
  todo : ∀ j, j < l.length → i ≤ j → (en E j).met = (en l (sw x y j)).met
  rows : ∀ e ∈ E, 0 < e.met.length → ∃ b off, e.mA = some ⟨b, off, none⟩ ∧ b < wr.heap.size ∧ b ≠ g ∧ ∀ (k : Nat) (n : Int), e.met[k]? = some n → wr.cell? ⟨b, off + k, none⟩ = some (.int .i64 n)
theorem en_set {l : List Ent} {k j : Nat} {e : Ent} (hk : k < l.length) : en (l.set k e) j = if k = j then e else en l j := by
  unfold en
  rw [List.getElem?_set]
  by_cases h : k = j
  · rw [if_pos h, if_pos h]
    rw [if_pos (by omega)]; rfl
  · rw [if_neg h, if_neg h]
theorem SW.start {wb wr : World} {l : List Ent} {A : Option Addr} {c g c2 x y : Nat} (hF : FH wb A l c) (hg : wb.heap.size ≤ g) (hx : x < l.length) (hy : y < l.length) (h : O1 eEnc 8 wb.heap.size 25 wb wr (some ⟨g, 0, none⟩) c2 ((l.set x (en l y)).set y (en l x))) :
    SW wb wr l ((l.set x (en l y)).set y (en l x)) g c2 x y 0 := by
  have he : ∀ j, en ((l.set x (en l y)).set y (en l x)) j = en l (sw x y j) := fun j => by
    rw [en_set (by rw [List.length_set]; exact hy), en_set hx]
    unfold sw
    by_cases h1 : y = j
    · subst h1
      rw [if_pos rfl]
      by_cases h2 : y = x
      · subst h2; rw [if_pos rfl]
      · rw [if_neg h2, if_pos rfl]
    · rw [if_neg h1]
      by_cases h2 : x = j
      · subst h2; rw [if_pos rfl, if_pos rfl]
      · rw [if_neg h2, if_neg (fun h => h2 h.symm), if_neg (fun h => h1 h.symm)]
  refine ⟨h, hg, by simp, fun j hj => by rw [he]; exact ⟨rfl, rfl, rfl, rfl, rfl, rfl, rfl⟩, fun j hj h0 => absurd h0 (Nat.not_lt_zero _), fun j hj _ => by rw [he], fun e hm hp => ?_⟩
  obtain ⟨j, hj⟩ := List.getElem?_of_mem hm
  have hjl := (List.getElem?_eq_some_iff.1 hj).1
  simp only [List.length_set] at hjl
  have e1 := en_eq hj
  rw [he] at e1
  have hin : e ∈ l := by rw [← e1]; exact List.mem_of_getElem? (en_get (sw_lt hx hy hjl))
  obtain ⟨b, off, ea, hb, hc⟩ := hF.fld.met e hin hp
  refine ⟨b, off, ea, Nat.lt_of_lt_of_le hb h.size, by omega, fun k n hn => ?_⟩
  have := hc k n hn 0 _ rfl
  rw [Nat.mul_one] at this
  exact (h.below.cell (p := ⟨b, off + k, none⟩) hb).trans this
theorem SW.next {wb wr w' : World} {l E : List Ent} {g c2 x y i : Nat} (h : SW wb wr l E g c2 x y i) (hb : Below wr.heap.size wr w') : SW wb w' l E g c2 x y i :=
  ⟨h.own.next hb, h.hg, h.len, h.same, h.done, h.todo, fun e he hp => by
    obtain ⟨b, off, ea, hlt, hne, hc⟩ := h.rows e he hp
    exact ⟨b, off, ea, Nat.lt_of_lt_of_le hlt hb.size, hne, fun k n hn => (hb.cell (p := ⟨b, off + k, none⟩) hlt).trans (hc k n hn)⟩⟩
theorem SW.step {wb wr w0 : World} {l E : List Ent} {g c2 x y i c3 : Nat} {A3 : Option Addr} {B3 : Nat} (h : SW wb wr l E g c2 x y i) (hi : i < l.length) (hB : g < B3)
    (hM : O1 iEnc 1 B3 3 w0 wr A3 c3 (nwM l x y i l.length)) :
    SW wb (wr.setCell ⟨g, i * 8 + 7, none⟩ (.slice A3 (nwM l x y i l.length).length c3)) l (E.set i { en E i with met := nwM l x y i l.length, mA := A3, mc := c3 }) g c2 x y (i + 1) := by
  have hl := h.len
  have hEi : E[i]? = some (en E i) := en_get (by omega)
  have hother : ∀ b k, b ≠ g → (wr.setCell ⟨g, i * 8 + 7, none⟩ (.slice A3 (nwM l x y i l.length).length c3)).cell? ⟨b, k, none⟩ = wr.cell? ⟨b, k, none⟩ := fun b k hb => World.cell?_setCell_far _ _ _ _ (Ne.symm hb)
  refine ⟨h.own.set7 hEi _ _ _, h.hg, by rw [List.length_set]; exact hl, fun j hj => ?_, fun j hj hj2 => ?_, fun j hj hj2 => ?_, fun e he hp => ?_⟩
  · rw [en_set (by omega)]
    by_cases e : i = j
    · subst e
      rw [if_pos rfl]
      have := h.same i hj
      exact ⟨this.name, this.rating, this.score, this.whites, this.blacks, this.last, this.bye⟩
    · rw [if_neg e]; exact h.same j hj
  · rw [en_set (by omega)]
    by_cases e : i = j
    · subst e; rw [if_pos rfl]
    · rw [if_neg e]; exact h.done j hj (by omega)
  · rw [en_set (by omega), if_neg (by omega)]
    exact h.todo j hj (by omega)
  · rcases List.mem_or_eq_of_mem_set he with he | rfl
    · obtain ⟨b, off, ea, hlt, hne, hc⟩ := h.rows e he hp
      exact ⟨b, off, ea, by rw [nblk_set]; exact hlt, hne, fun k n hn => by rw [hother _ _ hne]; exact hc k n hn⟩
    · have hp' : 0 < (nwM l x y i l.length).length := hp
      obtain ⟨b, rfl, hb1, hb2⟩ := hM.form hp'
      refine ⟨b, 0, rfl, by rw [nblk_set]; exact hb2, by omega, fun k n hn => ?_⟩
      rw [hother _ _ (by omega), Nat.zero_add]
      exact hM.cell1 (g := fun x => Value.int .i64 x) (fun _ => rfl) hn
theorem SW.fin {wb wr : World} {l E : List Ent} {A : Option Addr} {c g c2 x y : Nat} (h : SW wb wr l E g c2 x y l.length) (hF : FH wb A l c) (hx : x < l.length) (hy : y < l.length) : SwF x y l E ∧ FH wr (some ⟨g, 0, none⟩) E c2 := by
  have hl := h.len
  have hsw : SwF x y l E := ⟨hl, hx, hy, h.same, fun i hi => h.done i hi hi⟩
  have hmem : ∀ e ∈ E, ∃ i, i < l.length ∧ en E i = e := fun e he => by
    obtain ⟨i, hi⟩ := List.getElem?_of_mem he
    exact ⟨i, by have := (List.getElem?_eq_some_iff.1 hi).1; omega, en_eq hi⟩
  refine ⟨hsw, ⟨⟨h.own.recs eEnc_len, fun e he hp => ?_⟩, own_cap h.own.own (by omega), by have := hF.len; omega, fun e he => ?_, fun e he => ?_⟩⟩
  · obtain ⟨b, off, ea, hlt, _, hc⟩ := h.rows e he hp
    refine ⟨b, off, ea, hlt, fun k n hn j u hu => ?_⟩
    match j, hu with
    | 0, hu =>
      rw [show u = .int .i64 n from (Option.some.inj hu).symm, Nat.mul_one, Nat.add_zero]
      exact hc k n hn
    | (j + 1), hu => simp [iEnc] at hu
  · obtain ⟨i, hi, rfl⟩ := hmem e he
    rw [(h.same i hi).name]
    exact hF.nm _ (List.mem_of_getElem? (en_get (sw_lt hx hy hi)))
  · obtain ⟨i, hi, rfl⟩ := hmem e he
    rw [h.done i hi hi]
    have := nwM_le l x y i l.length
    have := hF.len
    omega
end Go.Proofs.YtjjjdoealagpcaaDoor
