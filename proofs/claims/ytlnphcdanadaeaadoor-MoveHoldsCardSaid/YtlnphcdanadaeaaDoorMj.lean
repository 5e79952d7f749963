/- Layer 7: the moves of a text, the program's. -/
import Derived.Test.YtlnphcdanadaeaaDoorMi
namespace Go.Proofs.YtlnphcdanadaeaaDoor
open Go.RowKit
set_option linter.unusedSimpArgs false
set_option linter.unusedVariables false

/-- the words of a text, parted by blanks -/
def wordsB (s : ByteArray) : List ByteArray := Lib.splitB sp 0 (Lib.countB s sp) s
theorem wordsB_len (s : ByteArray) : (wordsB s).length = Lib.countB s sp + 1 := Lib.splitB_all sp (by decide) 0 _ s rfl
theorem split_size (sep : ByteArray) : ∀ (k : Nat) (s : ByteArray) (t : ByteArray), t ∈ Lib.splitB sep 0 k s → t.size ≤ s.size
  | 0, s, t, h => by rw [Lib.splitB_zero] at h; simp only [List.mem_cons, List.not_mem_nil, or_false] at h; rw [h]; exact Nat.le_refl _
  | k + 1, s, t, h => by
    rcases Lib.indexB_cases s sep with hix | ⟨i, hix, _⟩
    · rw [Lib.splitB_miss sep 0 _ s hix] at h; simp only [List.mem_cons, List.not_mem_nil, or_false] at h; rw [h]; exact Nat.le_refl _
    · rw [Lib.splitB_hit sep 0 k s i hix] at h
      simp only [List.mem_cons] at h
      rcases h with rfl | h
      · rw [ByteArray.size_extract]; omega
      · have := split_size sep k _ t h
        rw [ByteArray.size_extract] at this; omega
theorem words_size {s t : ByteArray} (h : t ∈ wordsB s) : t.size ≤ s.size := split_size sp _ s t h
/-- a word is the text of a move; the move -/
def okS (f r : Int) (t : ByteArray) : Bool := (mvS f r t).1
def mvOf (f r : Int) (t : ByteArray) : Mv := (mvS f r t).2
theorem mres_f (a b p : Int) : mres false a b p = .tuple #[.agg #[.int .i64 0, .int .i64 0, .int .i8 0], .int .i64 6] := rfl
theorem mres_t (a b p : Int) : mres true a b p = .tuple #[.agg #[.int .i64 a, .int .i64 b, .int .i8 p], .int .i64 0] := rfl
/-- what ParseLine returns at words that are at most 1000 -/
def PLpost (f r : Int) (ws : List ByteArray) (e : Ending) (w' : World) : Prop :=
  (∃ (i : Nat) (t : ByteArray), ws[i]? = some t ∧ (∀ (j : Nat) (t' : ByteArray), j < i → ws[j]? = some t' → okS f r t' = true) ∧ okS f r t = false ∧ e = .returned (.tuple #[.slice none 0 0, .int .i64 i, .int .i64 6])) ∨
  ((∀ t, t ∈ ws → okS f r t = true) ∧ ∃ A c, e = .returned (.tuple #[.slice A (ws.map (mvOf f r)).length c, .int .i64 0, .int .i64 0]) ∧ RecAt mEnc 3 w' w'.heap.size A (ws.map (mvOf f r)))
theorem emp_ne {s : ByteArray} (h : s ≠ ⟨#[]⟩) : s.toList.isEmpty = false := by
  cases h2 : s.toList.isEmpty with
  | false => rfl
  | true => exact absurd (list_eq ((List.isEmpty_iff.1 h2).trans (by rw [ByteArray.toList_eq]))) h
theorem recs_mv' (w : World) (B : Nat) (hB : B = w.heap.size) (m : Mv) (t : TypeId) : RecAt mEnc 3 (w.alloc (.cells #[.int .i64 m.1, .int .i64 m.2.1, .int .i8 m.2.2] t)) (w.alloc (.cells #[.int .i64 m.1, .int .i64 m.2.1, .int .i8 m.2.2] t)).heap.size (some ⟨B, 0, none⟩) [m] := by
  subst hB; exact recs_mv w m t
theorem ppl_sz (f r : Int) (s : ByteArray) (w : World) (h : szB f r = false) :
    Calls Tryd.prog 18 #[.agg #[.int .i64 f, .int .i64 r], .string s] w fun e w' => e = .returned (.tuple #[.slice none 0 0, .int .i64 0, .int .i64 2]) ∧ Below w.heap.size w w' := by
  have hK := Lib.hid (BK.first f r w 23)
  have c0 := hK.out.c0
  have c1 := hK.out.c1
  go_enter Tryd.func18, Tryd.ntmps18
  go_wp2_with (go_at_call 28; refine (pvsize _ _ _).mono ?_; rintro e w1 ⟨rfl, hbw⟩; rw [h]; replace hK := Lib.hid (hK.out.next hbw); clear hbw)
  go_ret3
  exact ⟨rfl, hK.out.below⟩
theorem ppl_nil (f r : Int) (w : World) (h : szB f r = true) :
    Calls Tryd.prog 18 #[.agg #[.int .i64 f, .int .i64 r], .string ⟨#[]⟩] w fun e w' => e = .returned (.tuple #[.slice none 0 0, .int .i64 0, .int .i64 0]) ∧ Below w.heap.size w w' := by
  have hK := Lib.hid (BK.first f r w 23)
  have c0 := hK.out.c0
  have c1 := hK.out.c1
  go_enter Tryd.func18, Tryd.ntmps18
  go_wp2_with (go_at_call 28; refine (pvsize _ _ _).mono ?_; rintro e w1 ⟨rfl, hbw⟩; rw [h]; replace hK := Lib.hid (hK.out.next hbw); clear hbw)
  go_ret3
  exact ⟨rfl, hK.out.below⟩
theorem alloc_cells (w : World) (ws : List ByteArray) (t : TypeId) (j : Nat) (x : ByteArray) (h : ws[j]? = some x) : (w.alloc (.cells (ws.map Value.string).toArray t)).cell? ⟨w.heap.size, j, none⟩ = some (.string x) := by
  have h2 := heap_alloc_new w (.cells (ws.map Value.string).toArray t)
  rw [cell_of_row _ _ _ _ _ _ h2]
  simp [h]
/-- strings.Split at a blank gives these words -/
def SplitIs (s : ByteArray) (ws : List ByteArray) (W : World) : Prop := Calls Tryd.prog 33 #[.string s, .string sp] W fun e w' =>
  e = .returned (.slice (some ⟨W.heap.size, 0, none⟩) ws.length ws.length) ∧ Below W.heap.size W w' ∧ W.heap.size < w'.heap.size ∧ Hid (∀ (j : Nat) (x : ByteArray), ws[j]? = some x → w'.cell? ⟨W.heap.size, j, none⟩ = some (.string x))
theorem psplit (s : ByteArray) (m : Int) (W : World) (hs : s.size < 4294967281) (hm : W.cell? ⟨1, 0, none⟩ = some (.int .i64 m)) : SplitIs s (wordsB s) W := by
  refine (sh_strings_Split s sp m W hs hm (by decide)).mono ?_
  rintro e w' ⟨rfl, rfl⟩
  rw [wordsB_len]
  refine ⟨rfl, (Below.refl _ _).alloc (Nat.le_refl _) _, by rw [World.size_alloc]; omega, fun j x hx => alloc_cells W (wordsB s) _ j x hx⟩
theorem ppl_far (f r : Int) (s : ByteArray) (ws : List ByteArray) (w : World) (h : szB f r = true) (h0 : s ≠ ⟨#[]⟩) (hsp : ∀ W, Below w.heap.size w W → SplitIs s ws W) (hl : 1000 < ws.length) (hm : ws.length ≤ maxLen) :
    Calls Tryd.prog 18 #[.agg #[.int .i64 f, .int .i64 r], .string s] w fun e w' => e = .returned (.tuple #[.slice none 0 0, .int .i64 0, .int .i64 2]) ∧ Below w.heap.size w w' := by
  have hK := Lib.hid (BK.first f r w 23)
  have c0 := hK.out.c0
  have c1 := hK.out.c1
  have hne := emp_ne h0
  have hspH := Lib.hid hsp
  have hl' : (1000 : Int) < (ws.length : Int) := by omega
  clear hsp h0
  go_enter Tryd.func18, Tryd.ntmps18
  go_wp2_with (first
    | (go_at_call 28; refine (pvsize _ _ _).mono ?_; rintro e w1 ⟨rfl, hbw⟩; rw [h]; replace hK := Lib.hid (hK.out.next hbw); clear hbw)
    | (go_at_call 33; refine (hspH.out _ hK.out.below).mono ?_; rintro e w2 ⟨rfl, hbw, hlt2, hcells⟩; replace hK := Lib.hid (hK.out.next hbw); clear hbw))
  go_ret3
  exact ⟨rfl, hK.out.below⟩
set_option maxHeartbeats 1000000 in
theorem ppl_in (f r : Int) (s : ByteArray) (ws : List ByteArray) (w : World) (h : szB f r = true) (h0 : s ≠ ⟨#[]⟩) (hsp : ∀ W, Below w.heap.size w W → SplitIs s ws W) (hl : ws.length ≤ 1000) (hwz : ∀ t, t ∈ ws → t.size ≤ maxLen) (hk : PC.KindsAt w) (hpos : 0 < w.heap.size) :
    Calls Tryd.prog 18 #[.agg #[.int .i64 f, .int .i64 r], .string s] w fun e w' => PLpost f r ws e w' ∧ Below w.heap.size w w' := by
  have hK := Lib.hid (BK.first f r w 23)
  have c0 := hK.out.c0
  have c1 := hK.out.c1
  have hne := emp_ne h0
  have hspH := Lib.hid hsp
  have hkH := Lib.hid hk
  have hwzH := Lib.hid hwz
  have hl' : ((1000 : Int) < (ws.length : Int)) = False := by simp; omega
  clear hsp h0 hk hwz
  obtain ⟨out, hout⟩ : ∃ out, ws.map (mvOf f r) = out := ⟨_, rfl⟩
  replace hout := Lib.hid hout
  have hol : Hid (out.length = ws.length) := by show _ = _; rw [← hout.out, List.length_map]
  go_enter Tryd.func18, Tryd.ntmps18
  go_wp2_with (first
    | (go_at_call 28; refine (pvsize _ _ _).mono ?_; rintro e w1 ⟨rfl, hbw⟩; rw [h]; replace hK := Lib.hid (hK.out.next hbw); clear hbw)
    | (go_at_call 33; refine (hspH.out _ hK.out.below).mono ?_; rintro e w2 ⟨rfl, hbw, hlt2, hcells⟩; have hgt := hK.out.lt; replace hK := Lib.hid (hK.out.next hbw); clear hbw))
  generalize w1.heap.size = Bw at *
  go_loopw [8, 25] (fun s i wr => ∃ (k : Nat) (A' : Option Addr) (c' : Nat), k ≤ ws.length ∧ i = .int .i64 k ∧ s = .slice A' (tk k out).length c' ∧ Hid (∀ (j : Nat) (t : ByteArray), j < k → ws[j]? = some t → okS f r t = true) ∧ Hid (O1 mEnc 3 w2.heap.size 27 w2 wr A' c' (tk k out))) (fun _ i _ => ws.length - (intOf i).toNat)
  case atStart => exact ⟨0, none, 0, by omega, rfl, rfl, fun j m hj => absurd hj (Nat.not_lt_zero _), ⟨owns_nil, Below.refl _ _, Nat.le_refl _⟩⟩
  case round =>
    obtain ⟨k, A', c', hk, rfl, rfl, hgood, hO⟩ := hrel
    have c0 := (hO.out.below.cell (p := ⟨w.heap.size, 0, none⟩) hK.out.lt).trans hK.out.c0
    have c1 := (hO.out.below.cell (p := ⟨w.heap.size, 1, none⟩) hK.out.lt).trans hK.out.c1
    by_cases hkn : k < ws.length
    · obtain ⟨t, ht⟩ : ∃ t, ws[k]? = some t := ⟨_, List.getElem?_eq_getElem hkn⟩
      have m0 := (hO.out.below.cell (p := ⟨Bw, k, none⟩) hlt2).trans (hcells.out k t ht)
      have htz := hwzH.out t (List.mem_of_getElem? ht)
      replace ht := Lib.hid ht
      have hkW : Hid (PC.KindsAt wr) := hkH.out.below hpos (hK.out.below.trans (hO.out.below.mono (Nat.le_of_lt hK.out.lt)))
      have hpW : 0 < wr.heap.size := by have := hO.out.size; have := hK.out.lt; omega
      obtain ⟨a, b, p, habp⟩ : ∃ a b p, mvOf f r t = (a, b, p) := ⟨_, _, _, rfl⟩
      have hsu : Hid (tk k out ++ [(a, b, p)] = tk (k + 1) out) := by
        show _ = _
        unfold tk
        rw [List.take_add_one, show out[k]? = some (a, b, p) by rw [← hout.out, List.getElem?_map, ht.out, ← habp]; rfl]; rfl
      have htl : Hid ((tk k out).length ≤ 1000) := by show _ ≤ _; unfold tk; rw [List.length_take, hol.out]; omega
      have hpm : Hid (∀ W, W = wr → Calls Tryd.prog 13 #[.agg #[.int .i64 f, .int .i64 r], .string t] W fun e w' => e = .returned (mres (okS f r t) a b p) ∧ Below W.heap.size W w') := by
        rintro W rfl
        refine (pmp f r t _ h htz hkW.out hpW).mono ?_
        rintro e w' ⟨rfl, hb⟩
        refine ⟨?_, hb⟩
        show Ending.returned (mres (okS f r t) (mvOf f r t).1 (mvOf f r t).2.1 (mvOf f r t).2.2) = _
        rw [habp]
      replace habp := Lib.hid habp
      rcases hv : okS f r t with _ | _
      · go_wp2_with (go_at_call 13; refine (hpm.out _ rfl).mono ?_; rintro e w5 ⟨rfl, hbw⟩; rw [hv, mres_f]; replace hO := Lib.hid (hO.out.next hbw); clear hbw)
        go_ret3
        exact ⟨.inl ⟨k, t, ht.out, hgood.out, hv, rfl⟩, hK.out.below.trans ((hO.out.alloc _).below.mono (Nat.le_of_lt hK.out.lt))⟩
      · go_wp2_with (first
          | (go_at_call 13; refine (hpm.out _ rfl).mono ?_; rintro e w5 ⟨rfl, hbw⟩; rw [hv, mres_t]; replace hO := Lib.hid (hO.out.next hbw); clear hbw)
          | (at_builtin; refine wpList_append_recs moveRow mEnc_len mEnc_one rfl _ _ rfl w2.heap.size A' c' (tk k out) rfl ((hO.out.alloc _).alloc _).own _ 1 [(a, b, p)] rfl (recs_mv' (w5.alloc _) _ (by simp) (a, b, p) _) (by have := htl.out; simp only [List.length_cons, List.length_nil]; omega) ((hO.out.alloc _).alloc _).size ?_; intro A2 c2 w6 hown hg _; rw [hsu.out] at hown ⊢; have hO' := Lib.hid (((hO.out.alloc _).alloc _).app hown hg); clear hown hg))
        go_roundw
        case rel =>
          refine ⟨k + 1, A2, c2, by omega, by go_num, rfl, fun j m' hj hm' => ?_, hO'.out⟩
          by_cases hjk : j < k
          · exact hgood.out j m' hjk hm'
          · obtain rfl : j = k := by omega
            rw [ht.out] at hm'
            rw [← Option.some.inj hm']
            exact hv
        case measure => simp [intOf]; omega
    · obtain rfl : k = ws.length := by omega
      have htk : tk ws.length out = out := List.take_of_length_le (by rw [hol.out]; exact Nat.le_refl _)
      rw [htk] at hO ⊢
      go_wp2_with fail
      go_ret3
      refine ⟨.inr ⟨fun t ht => ?_, A', c', by rw [hout.out]; rfl, by rw [hout.out]; exact RecAt.of_own mEnc_len rfl hO.out.own⟩, hK.out.below.trans (hO.out.below.mono (Nat.le_of_lt hK.out.lt))⟩
      obtain ⟨j, hj, rfl⟩ := List.getElem_of_mem ht
      exact hgood.out j _ hj (List.getElem?_eq_getElem hj)
end Go.Proofs.YtlnphcdanadaeaaDoor
