/- Layer 35: the reference's reading of a tree that is known. -/
import Derived.Test.YteaclphankckiaaTae
import Derived.Test.YteaclphankckiaaTz
namespace Go.Proofs.Yteaclphankckiaa
open Go Go.RowKit
set_option linter.unusedSimpArgs false
set_option linter.unusedVariables false

/-- the line that has been begun, and how many are whole, after k bytes -/
def scn (s : ByteArray) : Nat → List UInt8 × Nat
  | 0 => ([], 0)
  | k + 1 => if s.data.getD k 0 = 10 then ([], (scn s k).2 + 1) else ((scn s k).1 ++ [s.data.getD k 0], (scn s k).2)
def lnB (s : ByteArray) (k : Nat) : ByteArray := ⟨(scn s k).1.toArray⟩
theorem scn_nl {s : ByteArray} {k : Nat} (h : s.data.getD k 0 = 10) : scn s (k + 1) = ([], (scn s k).2 + 1) := if_pos h
theorem scn_ch {s : ByteArray} {k : Nat} (h : s.data.getD k 0 ≠ 10) : scn s (k + 1) = ((scn s k).1 ++ [s.data.getD k 0], (scn s k).2) := if_neg h
theorem scn_len (s : ByteArray) : ∀ k, (scn s k).1.length ≤ k
  | 0 => Nat.le_refl _
  | k + 1 => by
    have ih := scn_len s k
    by_cases h : s.data.getD k 0 = 10
    · rw [scn_nl h]; exact Nat.zero_le _
    · rw [scn_ch h, List.length_append]
      show (scn s k).1.length + 1 ≤ _
      omega
theorem scn_cnt (s : ByteArray) : ∀ k, (scn s k).2 ≤ (scn s (k + 1)).2 := fun k => by
  by_cases h : s.data.getD k 0 = 10
  · rw [scn_nl h]; exact Nat.le_succ _
  · rw [scn_ch h]; exact Nat.le_refl _
theorem scn_mono (s : ByteArray) : ∀ {j k}, j ≤ k → (scn s j).2 ≤ (scn s k).2
  | j, 0, h => by rw [Nat.le_zero.1 h]; exact Nat.le_refl _
  | j, k + 1, h => by
    by_cases e : j = k + 1
    · rw [e]; exact Nat.le_refl _
    · exact Nat.le_trans (scn_mono s (by omega)) (scn_cnt s k)
/-- a line: its number, its move's text, its node -/
abbrev LnT := Nat × ByteArray × Nd
def lnOk (f q : Int) (m : Nat) (e : LnT) : Bool := decide (1 ≤ e.1) && (decide (e.1 ≤ m + 1) && (decide (0 < e.2.1.size) && (decide (e.2.1.size ≤ 100) && (decide (mvS f q e.2.1 = (true, e.2.2.2.1, e.2.2.2.2.1, e.2.2.2.2.2)) && decide (e.2.2.1 = (e.1 : Int))))))
/-- a text has these lines -/
def isText (f q : Int) (s : ByteArray) (L : List LnT) : Bool :=
  decide (L.length < 9) && (decide (s.size ≤ 500) && (decide (scn s s.size = ([], L.length)) && ((List.range s.size).all fun k => if s.data.getD k 0 = 10 then (match L[(scn s k).2]? with | some e => decide ((scn s k).1 = (hdB e.1 ++ e.2.1).data.toList) && lnOk f q (scn s k).2 e | none => false) else true)))
def ndsL (L : List LnT) : List Nd := L.map (·.2.2)
theorem isText_out {f q : Int} {s : ByteArray} {L : List LnT} (h : isText f q s L = true) : L.length < 9 ∧ s.size ≤ 500 ∧ scn s s.size = ([], L.length) ∧
    ∀ k, k < s.size → s.data.getD k 0 = 10 → ∃ e, L[(scn s k).2]? = some e ∧ hdB e.1 ++ e.2.1 = lnB s k ∧ 1 ≤ e.1 ∧ e.1 ≤ (scn s k).2 + 1 ∧ 0 < e.2.1.size ∧ e.2.1.size ≤ 100 ∧ mvS f q e.2.1 = (true, e.2.2.2.1, e.2.2.2.2.1, e.2.2.2.2.2) ∧ e.2.2.1 = (e.1 : Int) := by
  unfold isText at h
  simp only [Bool.and_eq_true, decide_eq_true_iff, List.all_eq_true, List.mem_range] at h
  obtain ⟨h1, h2, h3, h4⟩ := h
  refine ⟨h1, h2, h3, fun k hk hc => ?_⟩
  have h5 := h4 k hk
  rw [if_pos hc] at h5
  cases he : L[(scn s k).2]? with
  | none => rw [he] at h5; cases h5
  | some e =>
    rw [he] at h5
    have h6 : (decide ((scn s k).1 = (hdB e.1 ++ e.2.1).data.toList) && lnOk f q (scn s k).2 e) = true := h5
    unfold lnOk at h6
    simp only [Bool.and_eq_true, decide_eq_true_iff] at h6
    obtain ⟨g1, g2, g3, g4, g5, g6, g7⟩ := h6
    refine ⟨e, rfl, ?_, g2, g3, g4, g5, g6, g7⟩
    refine ba_eq ?_
    rw [← g1]
    rfl
theorem lnB_ch {s : ByteArray} {k : Nat} (hk : k < s.size) (h : s.data.getD k 0 ≠ 10) : lnB s k ++ s.extract k (k + 1) = lnB s (k + 1) := by
  refine ba_eq ?_
  show (lnB s k ++ s.extract k (k + 1)).data.toList = (scn s (k + 1)).1.toArray.toList
  have hk' : k < s.data.toList.length := hk
  rw [scn_ch h, ByteArray.data_append, Array.toList_append, ByteArray.data_extract, Array.toList_extract]
  show (scn s k).1 ++ List.take (k + 1 - k) (List.drop k s.data.toList) = (scn s k).1 ++ [s.data.getD k 0]
  congr 1
  rw [show k + 1 - k = 1 by omega, List.drop_eq_getElem_cons hk']
  have : s.data.getD k 0 = s.data.toList[k] := by
    rw [Array.getD_eq_getD_getElem?]
    have hk2 : k < s.data.size := hk
    rw [Array.getElem?_eq_getElem hk2]
    rfl
  rw [this]
  rfl
theorem getD_at {s : ByteArray} {k : Nat} (hk : k < s.size) : s.data.getD k 0 = s[k]'hk := by
  have hk2 : k < s.data.size := hk
  rw [Array.getD_eq_getD_getElem?, Array.getElem?_eq_getElem hk2]
  rfl
theorem recs_nd (w : World) (x : Nd) (t : TypeId) {b : Nat} (hb : b = w.heap.size) : RecAt nEnc 4 (w.alloc (.cells #[.int .i64 x.1, .int .i64 x.2.1, .int .i64 x.2.2.1, .int .i8 x.2.2.2] t)) (w.alloc (.cells #[.int .i64 x.1, .int .i64 x.2.1, .int .i64 x.2.2.1, .int .i8 x.2.2.2] t)).heap.size (some ⟨b, 0, none⟩) [x] := by
  subst hb
  intro _
  have h2 := heap_alloc_new w (.cells #[.int .i64 x.1, .int .i64 x.2.1, .int .i64 x.2.2.1, .int .i8 x.2.2.2] t)
  refine ⟨w.heap.size, 0, rfl, by simp, fun k y hk j u hu => ?_⟩
  have hk0 : k = 0 := by have := (List.getElem?_eq_some_iff.1 hk).1; simp at this; omega
  subst hk0
  obtain rfl : x = y := by simpa using hk
  match j, hu with
  | 0, hu => rw [show u = .int .i64 x.1 from (Option.some.inj hu).symm, cell_of_row _ _ _ _ _ _ h2]; rfl
  | 1, hu => rw [show u = .int .i64 x.2.1 from (Option.some.inj hu).symm, cell_of_row _ _ _ _ _ _ h2]; rfl
  | 2, hu => rw [show u = .int .i64 x.2.2.1 from (Option.some.inj hu).symm, cell_of_row _ _ _ _ _ _ h2]; rfl
  | 3, hu => rw [show u = .int .i8 x.2.2.2 from (Option.some.inj hu).symm, cell_of_row _ _ _ _ _ _ h2]; rfl
  | (j + 4), hu => simp [nEnc] at hu
theorem back_take {t : List Nd} {m : Nat} : back (t.take (m + 1)) m = back t m := by
  unfold back
  rw [List.take_take, Nat.min_eq_left (Nat.le_succ m)]
def PTreeP (f q : Int) (L : List LnT) (w : World) (e : Ending) (w' : World) : Prop := ∃ A c, e = .returned (.tuple #[.slice A (ndsL L).length c, .int .i64 0, .int .i64 0]) ∧ O1 nEnc 4 w.heap.size 59 w w' A c (ndsL L)
set_option maxRecDepth 100000 in
set_option maxHeartbeats 4000000 in
theorem rptree (f q : Int) (s : ByteArray) (L : List LnT) (w : World) (hz : szB f q = true) (hok : okK f q (ndsL L) (ndsL L).length = true) (hs : isText f q s L = true) :
    Calls Try.prog 45 #[.agg #[.int .i64 f, .int .i64 q], .string s] w (PTreeP f q L w) := by
  obtain ⟨hLl, hsl, hse, hsn⟩ := isText_out hs
  have hnl : (ndsL L).length = L.length := List.length_map ..
  have hS := Lib.hid (Sz2.new w f q 23)
  have hb1 : Hid (Below w.heap.size w (w.alloc (.cells #[.int .i64 f, .int .i64 q] 23))) := (Below.refl _ _).alloc (Nat.le_refl _) _
  have hs1 : w.heap.size < (w.alloc (.cells #[.int .i64 f, .int .i64 q] 23)).heap.size := by simp
  have hseH := Lib.hid hse
  have hsnH := Lib.hid hsn
  have hokH := Lib.hid hok
  have hzH := Lib.hid hz
  replace hnl := Lib.hid hnl
  have hcnt : Hid (∀ k, k ≤ s.size → (scn s k).2 ≤ L.length) := fun k hk => by
    have h := scn_mono s hk
    rw [hse] at h
    exact h
  have hszI : (s.size : Int) ≤ 500 := by omega
  clear hse hsn hs hok
  go_enter Try.func45, Try.ntmps45
  go_upto_region 1 with fail
  generalize w.alloc (.cells #[.int .i64 f, .int .i64 q] 23) = w1 at *
  have c0 := hS.out.c0
  have c1 := hS.out.c1
  go_wp2_with (go_at_call 55; refine (rsize _ _ _).mono ?_; rintro e w2 ⟨rfl, hbv⟩; rw [hz]; replace hbv := Lib.hid hbv)
  have hb2 := Lib.hid (hb1.out.trans (hbv.out.mono (by omega)))
  have hS2 := Lib.hid (hS.out.next hbv.out)
  have hs2 : w.heap.size < w2.heap.size := hS2.out.lt
  clear c0 c1 hS hb1 hbv hs1 hz
  go_loopw [7, 8, 9] (fun s7 s8 s9 wr => ∃ (k m : Nat) (A : Option Addr) (c : Nat) (T : List Nd) (line : ByteArray), k ≤ s.size ∧ s9 = .int .i64 k ∧ Hid ((scn s k).2 = m) ∧ Hid ((ndsL L).take m = T) ∧ Hid (lnB s k = line) ∧ m ≤ L.length ∧ s7 = .slice A T.length c ∧ s8 = .string line ∧ Hid (O1 nEnc 4 w2.heap.size 59 w2 wr A c T)) (fun _ _ s9 _ => s.size - (intOf s9).toNat)
  case atStart => exact ⟨0, 0, none, 0, [], ⟨#[]⟩, Nat.zero_le _, rfl, rfl, rfl, rfl, Nat.zero_le _, rfl, rfl, O1.nil (Below.refl _ _) (Nat.le_refl _)⟩
  case round =>
    obtain ⟨k, m, A, c, T, line, hk, rfl, hm, hT, hline, hmL, rfl, rfl, hO⟩ := hrel
    have hTl : T.length = m := by rw [← hT.out, List.length_take, hnl.out]; omega
    have hll : line.size ≤ k := by rw [← hline.out]; exact scn_len s k
    by_cases hkn : k < s.size
    · have hk0 : (0 : Int) ≤ (k : Int) := Int.natCast_nonneg _
      have hkI : (k : Int) < (s.size : Int) := by omega
      have hgd := getD_at hkn
      by_cases hc : s.data.getD k 0 = 10
      · have hcb : (((s[k]'hkn).toNat : Int) != 10) = false := by rw [← hgd, hc]; rfl
        obtain ⟨e, he, h1, h2, h3, h4, h5, h6, h7⟩ := hsnH.out k hkn hc
        rw [hm.out] at he h3
        rw [hline.out] at h1
        have hsc := Lib.hid (scn_nl hc)
        have hx : (ndsL L)[m]? = some e.2.2 := by unfold ndsL; rw [List.getElem?_map, he]; rfl
        have hml : m < L.length := (List.getElem?_eq_some_iff.1 he).1
        obtain ⟨d, r, p, a, b, pr⟩ := e
        have h7' : p = (d : Int) := h7
        subst h7'
        have hnode : Hid (∀ W, Calls Try.prog 56 #[.agg #[.int .i64 f, .int .i64 q], .string line, .int .i64 ((m : Int) + 1)] W fun e w' => e = .returned (.tuple #[.agg #[.int .i64 (d : Int), .int .i64 a, .int .i64 b, .int .i8 pr], .bool true]) ∧ Below W.heap.size W w') := fun W =>
          rnode f q d (m + 1) line r a b pr W hzH.out h2 h3 (by omega) h1 h4 h5 h6
        obtain ⟨t0, t1⟩ := okK_ply hokH.out (show m ≤ (ndsL L).length by rw [hnl.out]; omega)
        have hch := okK_chain hokH.out (show m ≤ (ndsL L).length by rw [hnl.out]; omega)
        have hnb := okK_at hokH.out (show m < (ndsL L).length by rw [hnl.out]; omega) hx
        have hfb : fitB (back (ndsL L) m) ((d : Int), a, b, pr) = true := by
          have h := hnb
          unfold nodeB at h
          rw [Bool.and_eq_true] at h
          exact h.2
        obtain ⟨T2, hT2⟩ : ∃ T2, T ++ [((d : Int), a, b, pr)] = T2 := ⟨_, rfl⟩
        have hT2t : (ndsL L).take (m + 1) = T2 := by rw [List.take_add_one, hT.out, hx, ← hT2]; rfl
        have hT2l : T2.length = m + 1 := by rw [← hT2, List.length_append, hTl]; rfl
        have hT2x : T2[m]? = some ((d : Int), a, b, pr) := by rw [← hT2, List.getElem?_append_right (by omega), hTl, Nat.sub_self]; rfl
        have hbt : back T2 m = back (ndsL L) m := by rw [← hT2t]; exact back_take
        have hfit : Hid (∀ W A c, RecAt nEnc 4 W W.heap.size A T2 → T2.length ≤ c → Calls Try.prog 57 #[.slice A T2.length c, .int .i64 (m : Int)] W fun e w' => e = .returned (.bool true) ∧ Below W.heap.size W w') := fun W A c hR hc2 => by
          have h := rfits A T2 c m _ W hR (by omega) hc2 hT2x (by rw [hbt]; exact hch) (by rw [hbt]; exact t0) (by rw [hbt]; omega)
          rw [hbt, hfb] at h
          exact h
        have hm1 : (m : Int) ≤ 9 := by omega
        have hm0 : (0 : Int) ≤ (m : Int) := Int.natCast_nonneg _
        have hwm : IntKind.i64.wrap ((T2.length : Int) - 1) = (m : Int) := by rw [hT2l, show ((m + 1 : Nat) : Int) - 1 = (m : Int) by omega]; exact IntWalk.i64_in _ (by omega)
        have hTlH := Lib.hid hTl
        have hTlI : (T.length : Int) = (m : Int) := by omega
        have c0 := (hS2.out.next hO.out.below).c0
        have c1 := (hS2.out.next hO.out.below).c1
        replace hT2 := Lib.hid hT2
        replace hT2l := Lib.hid hT2l
        replace hTlI := Lib.hid hTlI
        have hcase : Hid (∀ W, Calls Try.prog 56 #[.agg #[.int .i64 f, .int .i64 q], .string line, .int .i64 ((T.length : Int) + 1)] W fun e w' => e = .returned (.tuple #[.agg #[.int .i64 (d : Int), .int .i64 a, .int .i64 b, .int .i8 pr], .bool true]) ∧ Below W.heap.size W w') := fun W => by rw [hTlI.out]; exact hnode.out W
        have hTb : T.length ≤ 10 := by omega
        have hT2b : T2.length ≤ 10 := by have := hT2l.out; omega
        clear hc hgd he h1 h2 h3 h4 h5 h6 h7 hx t0 t1 hch hnb hfb hT2x hbt hTl hnode
        replace hT2t := Lib.hid hT2t
        go_upto_region 11 with (go_at_call 56; refine (hcase.out _).mono ?_; rintro e w5 ⟨rfl, hbv⟩; replace hbv := Lib.hid hbv; replace hO := Lib.hid (hO.out.next hbv.out); clear c0 c1)
        have hQ6 := Lib.hid (Qd.new w5 ((d : Int), a, b, pr) 59)
        have hO6 := Lib.hid (hO.out.alloc (.cells #[.int .i64 (d : Int), .int .i64 a, .int .i64 b, .int .i8 pr] 59))
        generalize w5.alloc (.cells #[.int .i64 (d : Int), .int .i64 a, .int .i64 b, .int .i8 pr] 59) = w6 at *
        generalize w5.heap.size = BX at *
        have x0 : w6.cell? ⟨BX, 0, none⟩ = some (.int .i64 (d : Int)) := hQ6.out.c0
        have x1 : w6.cell? ⟨BX, 1, none⟩ = some (.int .i64 a) := hQ6.out.c1
        have x2 : w6.cell? ⟨BX, 2, none⟩ = some (.int .i64 b) := hQ6.out.c2
        have x3 : w6.cell? ⟨BX, 3, none⟩ = some (.int .i8 pr) := hQ6.out.c3
        go_upto_region 12 with (at_builtin; refine wpList_append_recs nodeRow nEnc_len nEnc_one rfl _ _ rfl w2.heap.size A c T rfl (World.ownsRow.alloc hO6.out.own _) _ 1 [((d : Int), a, b, pr)] rfl (recs_nd _ ((d : Int), a, b, pr) _ rfl) (by simp only [List.length_cons, List.length_nil]; omega) (hO6.out.alloc _).size ?_; intro A7 c7 w7 hown7 hg7 _; rw [hT2.out] at hown7 ⊢; have hO7 := Lib.hid ((hO6.out.alloc _).app hown7 hg7); clear hown7 hg7)
        have hrec7 := Lib.hid (hO7.out.recs nEnc_len)
        have hcap7 := own_cap0 hO7.out.own
        clear x0 x1 x2 x3
        go_wp2_with (go_at_call 57; refine (hfit.out _ A7 c7 hrec7.out hcap7).mono ?_; rintro e w8 ⟨rfl, hb8⟩; replace hO7 := Lib.hid (hO7.out.next hb8); clear hb8)
        go_roundw
        case rel => exact ⟨k + 1, m + 1, A7, c7, T2, ⟨#[]⟩, by omega, by go_num, (by show (scn s (k + 1)).2 = _; rw [hsc.out, hm.out]), hT2t.out, (by show lnB s (k + 1) = _; unfold lnB; rw [hsc.out]), hml, rfl, rfl, hO7⟩
        case measure => simp [intOf]; omega
      · have hcb : (((s[k]'hkn).toNat : Int) != 10) = true := by
          rw [bne_iff_ne]
          intro e
          refine hc ?_
          rw [hgd]
          have : (s[k]'hkn).toNat = 10 := by omega
          exact UInt8.toNat_inj.1 this
        have hsc := Lib.hid (scn_ch hc)
        obtain ⟨line2, hline2⟩ : ∃ line2, lnB s (k + 1) = line2 := ⟨_, rfl⟩
        have hcat : line ++ s.extract k (k + 1) = line2 := by rw [← hline.out, lnB_ch hkn hc, hline2]
        have hes : (s.extract k (k + 1)).size = 1 := by rw [ByteArray.size_extract]; omega
        have hkk : k ≤ k + 1 := Nat.le_succ k
        have hk1n : k + 1 ≤ s.size := hkn
        have hwk : IntKind.i64.wrap ((k : Int) + 1) = ((k + 1 : Nat) : Int) := IntWalk.i64_in _ (by omega)
        clear hc hgd
        replace hline2 := Lib.hid hline2
        go_wp2_with fail
        go_roundw
        case rel => exact ⟨k + 1, m, A, c, T, line2, by omega, by go_num, (by show (scn s (k + 1)).2 = _; rw [hsc.out, hm.out]), hT, hline2, hmL, rfl, rfl, hO⟩
        case measure => simp [intOf]; omega
    · have hke : k = s.size := by omega
      subst hke
      have hm2 : m = L.length := by have h := hm.out; rw [hseH.out] at h; exact h.symm
      have hT2 : T = ndsL L := by rw [← hT.out, hm2]; exact List.take_of_length_le (Nat.le_of_eq hnl.out)
      have hl2 : line = ⟨#[]⟩ := by rw [← hline.out]; unfold lnB; rw [hseH.out]
      subst hl2
      have hfin : Hid (PTreeP f q L w (.returned (.tuple #[.slice A T.length c, .int .i64 0, .int .i64 0])) wr) := ⟨A, c, by rw [hT2], by rw [← hT2]; exact hO.out.lower (by omega) hb2.out⟩
      clear hm2 hT2
      go_wp2_with fail
      go_ret3
      exact hfin.out
end Go.Proofs.Yteaclphankckiaa
