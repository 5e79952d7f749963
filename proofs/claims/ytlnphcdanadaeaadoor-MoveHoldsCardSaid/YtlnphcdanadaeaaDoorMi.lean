/- Layer 7: the text of a list of moves, the program's. -/
import Derived.Test.YtlnphcdanadaeaaDoorMh
import Derived.Test.YtlnphcdanadaeaaDoorOx
import Derived.Test.YtlnphcdanadaeaaDoorMsh
namespace Go.Proofs.YtlnphcdanadaeaaDoor
open Go.RowKit
set_option linter.unusedSimpArgs false
set_option linter.unusedVariables false

/-- the first k of a list -/
def tk {α : Type} (k : Nat) (l : List α) : List α := l.take k
/-- a move: from, to, the promotion -/
abbrev Mv := Int × Int × Int
def mEnc (g : Mv) : List Value := [.int .i64 g.1, .int .i64 g.2.1, .int .i8 g.2.2]
theorem mEnc_len (g : Mv) : (mEnc g).length = 3 := rfl
theorem mEnc_one (g : Mv) : ∀ u ∈ mEnc g, u.oneCell' = true := by
  intro u hu
  simp only [mEnc, List.mem_cons, List.not_mem_nil, or_false] at hu
  rcases hu with rfl | rfl | rfl <;> rfl
theorem moveRow : RowOf Tryd.prog 40 27 3 24 :=
  RowOf.mk' (z := .agg #[.int .i64 0, .int .i64 0, .int .i8 0]) Tryd.underlying40 (by kernel_rfl) (by decide) (by decide) rfl
def sEnc (n : ByteArray) : List Value := [.string n]
theorem sEnc_len (n : ByteArray) : (sEnc n).length = 1 := rfl
theorem sEnc_one (n : ByteArray) : ∀ u ∈ sEnc n, u.oneCell' = true := by
  intro u hu
  simp only [sEnc, List.mem_cons, List.not_mem_nil, or_false] at hu
  subst hu; rfl
theorem strRow : RowOf Tryd.prog 47 9 1 16 :=
  RowOf.mk' (z := .string ⟨#[]⟩) Tryd.underlying47 (by kernel_rfl) (by decide) (by decide) rfl
theorem recs_str (w : World) (x : ByteArray) (t : TypeId) : RecAt sEnc 1 (w.alloc (.cells #[.string x] t)) (w.alloc (.cells #[.string x] t)).heap.size (some ⟨w.heap.size, 0, none⟩) [x] := by
  intro _
  refine ⟨w.heap.size, 0, rfl, by simp, fun k y hk j u hu => ?_⟩
  have hk0 : k = 0 := by have := (List.getElem?_eq_some_iff.1 hk).1; simp at this; omega
  subst hk0
  obtain rfl : x = y := by simpa using hk
  match j, hu with
  | 0, hu => rw [show u = .string x from (Option.some.inj hu).symm]; simp
  | (j + 1), hu => simp [sEnc] at hu
theorem recs_mv (w : World) (m : Mv) (t : TypeId) : RecAt mEnc 3 (w.alloc (.cells #[.int .i64 m.1, .int .i64 m.2.1, .int .i8 m.2.2] t)) (w.alloc (.cells #[.int .i64 m.1, .int .i64 m.2.1, .int .i8 m.2.2] t)).heap.size (some ⟨w.heap.size, 0, none⟩) [m] := by
  intro _
  refine ⟨w.heap.size, 0, rfl, by simp, fun k z hk j u hu => ?_⟩
  have hk0 : k = 0 := by have := (List.getElem?_eq_some_iff.1 hk).1; simp at this; omega
  subst hk0
  obtain rfl : m = z := by simpa using hk
  match j, hu with
  | 0, hu => rw [show u = .int .i64 m.1 from (Option.some.inj hu).symm]; simp
  | 1, hu => rw [show u = .int .i64 m.2.1 from (Option.some.inj hu).symm]; simp
  | 2, hu => rw [show u = .int .i8 m.2.2 from (Option.some.inj hu).symm]; simp
  | (j + 3), hu => simp [mEnc] at hu
section
variable {α : Type} {f : α → List Value} {size : Nat}
/-- a row of one's own; below the base nothing has turned -/
structure O1 (f : α → List Value) (size : Nat) (base : Nat) (e : TypeId) (w0 w : World) (A : Option Addr) (c : Nat) (l : List α) : Prop where
  own : Own1 f size base e w A c l
  below : Below base w0 w
  size : base ≤ w.heap.size
variable {base : Nat} {e : TypeId} {w0 w w' : World} {A A' : Option Addr} {c c' : Nat} {l l' : List α}
theorem O1.alloc (h : O1 f size base e w0 w A c l) (o : Obj) : O1 f size base e w0 (w.alloc o) A c l :=
  ⟨World.ownsRow.alloc h.own o, h.below.alloc h.size o, Nat.le_trans h.size (by simp)⟩
theorem grown_of_below (hb : Below w.heap.size w w') : w.grownBy w' none := ⟨hb.os, hb.tape, hb.output, hb.size, fun k hk _ => hb.block k hk⟩
theorem O1.next (h : O1 f size base e w0 w A c l) (hb : Below w.heap.size w w') : O1 f size base e w0 w' A c l :=
  ⟨World.ownsRow.kept h.own (grown_of_below hb) (by cases hv : (Value.slice A l.length c).ownBlock <;> simp), h.below.trans (hb.mono h.size), Nat.le_trans h.size hb.size⟩
theorem O1.app (h : O1 f size base e w0 w A c l) (hown : w'.ownsRow base e size (.slice A' l'.length c') l'.length (flatR f l')) (hg : w.grownBy w' (Value.slice A l.length c).ownBlock) : O1 f size base e w0 w' A' c' l' :=
  ⟨hown, h.below.grown hg h.size (fun k hk => (World.ownsRow.lt h.own k hk).1), Nat.le_trans h.size hg.size⟩
end
theorem own_cap {α : Type} {f : α → List Value} {size base : Nat} {e : TypeId} {w : World} {A : Option Addr} {c : Nat} {l : List α} (h : Own1 f size base e w A c l) (h0 : 0 < l.length) : l.length ≤ c := by
  rcases h.2 with ⟨_, h1⟩ | ⟨g, cap, cur, hv, _, _, hle, _⟩
  · omega
  · simp only [Value.slice.injEq] at hv
    obtain ⟨_, _, rfl⟩ := hv
    exact hle
/-- the three cells of a record -/
theorem rec3 {w : World} {b off k : Nat} {m : Mv} {l : List Mv} (hc : ∀ (k : Nat) (x : Mv), l[k]? = some x → ∀ (j : Nat) (u : Value), (mEnc x)[j]? = some u → w.cell? ⟨b, off + k * 3 + j, none⟩ = some u) (hm : l[k]? = some m) :
    w.cell? ⟨b, off + k * 3, none⟩ = some (.int .i64 m.1) ∧ w.cell? ⟨b, off + k * 3 + 1, none⟩ = some (.int .i64 m.2.1) ∧ w.cell? ⟨b, off + k * 3 + 2, none⟩ = some (.int .i8 m.2.2) :=
  ⟨hc k m hm 0 _ rfl, hc k m hm 1 _ rfl, hc k m hm 2 _ rfl⟩
/-- the move k of a list is valid -/
def okM (f r : Int) (m : Mv) : Bool := mvB f r m.1 m.2.1 m.2.2
def txt (f : Int) (m : Mv) : ByteArray := mvT f m.1 m.2.1 m.2.2
def lineOk (f r : Int) (l : List Mv) : Bool := szB f r && (decide (l.length ≤ 1000) && l.all (okM f r))
def sp : ByteArray := ⟨#[32]⟩
def joinB (xs : List ByteArray) : ByteArray := ⟨(Lib.join (xs.map (·.data.toList)) [32]).toArray⟩
def lineV (f r : Int) (l : List Mv) : Value := if lineOk f r l then .tuple #[.string (joinB (l.map (txt f))), .int .i64 0] else .tuple #[.string ⟨#[]⟩, .int .i64 2]
theorem lineV_no {f r : Int} {l : List Mv} (h : lineOk f r l = false) : lineV f r l = .tuple #[.string ⟨#[]⟩, .int .i64 2] := by unfold lineV; rw [h]; rfl
theorem lineV_yes {f r : Int} {l : List Mv} (h : lineOk f r l = true) : lineV f r l = .tuple #[.string (joinB (l.map (txt f))), .int .i64 0] := by unfold lineV; rw [h]; rfl
theorem pline_sz (f r : Int) (A : Option Addr) (c : Nat) (l : List Mv) (w : World) (hl : l.length ≤ maxLen) (h : szB f r = false) :
    Calls Tryd.prog 16 #[.agg #[.int .i64 f, .int .i64 r], .slice A l.length c] w fun e w' => e = .returned (.tuple #[.string ⟨#[]⟩, .int .i64 2]) ∧ Below w.heap.size w w' := by
  have hK := Lib.hid (BK.first f r w 23)
  have c0 := hK.out.c0
  have c1 := hK.out.c1
  go_enter Tryd.func16, Tryd.ntmps16
  go_wp2_with (go_at_call 28; refine (pvsize _ _ _).mono ?_; rintro e w1 ⟨rfl, hbw⟩; rw [h]; replace hK := Lib.hid (hK.out.next hbw); clear hbw)
  go_ret2
  exact ⟨rfl, hK.out.below⟩
theorem pline_far (f r : Int) (A : Option Addr) (c : Nat) (l : List Mv) (w : World) (hl : l.length ≤ maxLen) (h : szB f r = true) (h2 : 1000 < l.length) :
    Calls Tryd.prog 16 #[.agg #[.int .i64 f, .int .i64 r], .slice A l.length c] w fun e w' => e = .returned (.tuple #[.string ⟨#[]⟩, .int .i64 2]) ∧ Below w.heap.size w w' := by
  have hK := Lib.hid (BK.first f r w 23)
  have c0 := hK.out.c0
  have c1 := hK.out.c1
  have hl' : (1000 : Int) < (l.length : Int) := by omega
  go_enter Tryd.func16, Tryd.ntmps16
  go_wp2_with (go_at_call 28; refine (pvsize _ _ _).mono ?_; rintro e w1 ⟨rfl, hbw⟩; rw [h]; replace hK := Lib.hid (hK.out.next hbw); clear hbw)
  go_ret2
  exact ⟨rfl, hK.out.below⟩
set_option maxHeartbeats 1000000 in
theorem pline_in (f r : Int) (A : Option Addr) (c : Nat) (l : List Mv) (w : World) (hA : RecAt mEnc 3 w w.heap.size A l) (hk : PC.KindsAt w) (hpos : 0 < w.heap.size) (h : szB f r = true) (h2 : l.length ≤ 1000) (hj : (Lib.join ((l.map (txt f)).map (·.data.toList)) sp.data.toList).length ≤ 140737488355328) :
    Calls Tryd.prog 16 #[.agg #[.int .i64 f, .int .i64 r], .slice A l.length c] w fun e w' => e = .returned (lineV f r l) ∧ Below w.heap.size w w' := by
  have hK := Lib.hid (BK.first f r w 23)
  have c0 := hK.out.c0
  have c1 := hK.out.c1
  have hkH := Lib.hid hk
  have hjH := Lib.hid hj
  have hAH : Hid (RecAt mEnc 3 (w.alloc (.cells #[.int .i64 f, .int .i64 r] 23)) w.heap.size A l) := hA.below (Nat.le_refl _) ((Below.refl _ _).alloc (Nat.le_refl _) _)
  have hgt : ((1000 : Int) < (l.length : Int)) = False := by simp; omega
  clear hk hj hA
  obtain ⟨ws, hws⟩ : ∃ ws, l.map (txt f) = ws := ⟨_, rfl⟩
  replace hws := Lib.hid hws
  have hwl : Hid (ws.length = l.length) := by show _ = _; rw [← hws.out, List.length_map]
  go_enter Tryd.func16, Tryd.ntmps16
  go_wp2_with (go_at_call 28; refine (pvsize _ _ _).mono ?_; rintro e w1 ⟨rfl, hbw⟩; rw [h]; replace hK := Lib.hid (hK.out.next hbw); replace hAH : Hid (RecAt mEnc 3 w1 w.heap.size A l) := hAH.out.below (Nat.le_refl _) (hbw.mono (by simp)); clear hbw)
  have hlt := hK.out.lt
  go_loopw [6, 21] (fun s i wr => ∃ (k : Nat) (A' : Option Addr) (c' : Nat), k ≤ l.length ∧ i = .int .i64 k ∧ s = .slice A' (tk k ws).length c' ∧ Hid (∀ j m, j < k → l[j]? = some m → okM f r m = true) ∧ Hid (O1 sEnc 1 (w.heap.size + 1) 9 w1 wr A' c' (tk k ws))) (fun _ i _ => l.length - (intOf i).toNat)
  case atStart => exact ⟨0, none, 0, by omega, rfl, rfl, fun j m hj => absurd hj (Nat.not_lt_zero _), ⟨owns_nil, Below.refl _ _, hlt⟩⟩
  case round =>
    obtain ⟨k, A', c', hk, rfl, rfl, hgood, hO⟩ := hrel
    have c0 := (hO.out.below.cell (p := ⟨w.heap.size, 0, none⟩) (Nat.lt_succ_self _)).trans hK.out.c0
    have c1 := (hO.out.below.cell (p := ⟨w.heap.size, 1, none⟩) (Nat.lt_succ_self _)).trans hK.out.c1
    by_cases hkn : k < l.length
    · obtain ⟨b, off, rfl, hb, hc⟩ := hAH.out (by omega)
      obtain ⟨m, hm⟩ : ∃ m, l[k]? = some m := ⟨_, List.getElem?_eq_getElem hkn⟩
      obtain ⟨m0, m1, m2⟩ := rec3 hc hm
      replace m0 := (hO.out.below.cell (p := ⟨b, off + k * 3, none⟩) (by show b < _; omega)).trans m0
      replace m1 := (hO.out.below.cell (p := ⟨b, off + k * 3 + 1, none⟩) (by show b < _; omega)).trans m1
      replace m2 := (hO.out.below.cell (p := ⟨b, off + k * 3 + 2, none⟩) (by show b < _; omega)).trans m2
      replace hm := Lib.hid hm
      clear hc
      go_upto_region 7 with fail
      replace hO := Lib.hid (hO.out.alloc (.cells #[.int .i64 m.1, .int .i64 m.2.1, .int .i8 m.2.2] 27))
      have hT := Lib.hid (tri_new wr wr.heap.size (.int .i64 m.1) (.int .i64 m.2.1) (.int .i8 m.2.2) 27 rfl)
      obtain ⟨W6, hW⟩ : ∃ W', wr.alloc (.cells #[.int .i64 m.1, .int .i64 m.2.1, .int .i8 m.2.2] 27) = W' := ⟨_, rfl⟩
      rw [hW] at hO hT ⊢
      clear hW c0 c1 m0 m1 m2
      generalize wr.heap.size = Bm at *
      have c0 := (hO.out.below.cell (p := ⟨w.heap.size, 0, none⟩) (Nat.lt_succ_self _)).trans hK.out.c0
      have c1 := (hO.out.below.cell (p := ⟨w.heap.size, 1, none⟩) (Nat.lt_succ_self _)).trans hK.out.c1
      have k0 := hT.out.c0
      have k1 := hT.out.c1
      have k2 := hT.out.c2
      have hkW : Hid (PC.KindsAt W6) := hkH.out.below hpos (hK.out.below.trans (hO.out.below.mono (by omega)))
      have hpW : 0 < W6.heap.size := by have := hO.out.size; omega
      have hsu : Hid (tk k ws ++ [txt f m] = tk (k + 1) ws) := by
        show _ = _
        unfold tk
        rw [List.take_add_one, show ws[k]? = some (txt f m) by rw [← hws.out, List.getElem?_map, hm.out]; rfl]; rfl
      have htl : Hid ((tk k ws).length ≤ 1000) := by show _ ≤ _; unfold tk; rw [List.length_take, hwl.out]; omega
      rcases hv : mvB f r m.1 m.2.1 m.2.2 with _ | _
      · have hno : Hid (lineOk f r l = false) := by
          show _ = _
          unfold lineOk
          have : l.all (okM f r) = false := by
            rw [List.all_eq_false]
            exact ⟨m, List.mem_of_getElem? hm.out, by rw [show okM f r m = false from hv]; decide⟩
          rw [this]; simp
        go_wp2_with (go_at_call 9; refine (ptext_no _ _ _ _ _ _ hv).mono ?_; rintro e w5 ⟨rfl, hbw⟩; replace hO := Lib.hid (hO.out.next hbw); clear hbw)
        go_ret2
        exact ⟨by rw [lineV_no hno.out]; rfl, hK.out.below.trans (hO.out.below.mono (by omega))⟩
      · go_wp2_with (first
          | (go_at_call 9; refine (ptext_yes _ _ _ _ _ _ hkW.out hv hpW).mono ?_; rintro e w5 ⟨rfl, hbw⟩; replace hO := Lib.hid (hO.out.next hbw); clear hbw)
          | (at_builtin; refine wpList_append_recs strRow sEnc_len sEnc_one rfl _ _ rfl (w.heap.size + 1) A' c' (tk k ws) rfl (hO.out.alloc _).own _ 1 [txt f m] rfl (recs_str _ _ _) (by have := htl.out; simp only [List.length_cons, List.length_nil]; omega) (hO.out.alloc _).size ?_; intro A2 c2 w2 hown hg _; rw [hsu.out] at hown ⊢; have hO' := Lib.hid ((hO.out.alloc _).app hown hg); clear hown hg))
        go_roundw
        case rel =>
          refine ⟨k + 1, A2, c2, by omega, by go_num, rfl, fun j m' hj hm' => ?_, hO'.out⟩
          by_cases hjk : j < k
          · exact hgood.out j m' hjk hm'
          · obtain rfl : j = k := by omega
            rw [hm.out] at hm'
            rw [← Option.some.inj hm']
            exact hv
        case measure => simp [intOf]; omega
    · obtain rfl : k = l.length := by omega
      have htk : tk l.length ws = ws := List.take_of_length_le (by rw [hwl.out]; exact Nat.le_refl _)
      rw [htk] at hO ⊢
      have hyes : Hid (lineOk f r l = true) := by
        show _ = _
        unfold lineOk
        rw [h, decide_eq_true h2, Bool.true_and, Bool.true_and, List.all_eq_true]
        intro m hm
        obtain ⟨j, hj, rfl⟩ := List.getElem_of_mem hm
        exact hgood.out j _ hj (List.getElem?_eq_getElem hj)
      have hval : Hid (lineV f r l = .tuple #[.string (joinB ws), .int .i64 0]) := by show _ = _; rw [lineV_yes hyes.out, hws.out]
      rw [hws.out] at hjH
      by_cases h0 : ws.length = 0
      · have hnil : Hid (ws = []) := List.length_eq_zero_iff.1 h0
        go_wp2_with (go_at_call 32; rw [h0]; refine (sh_strings_Join_none _ _ _ _).mono ?_; rintro e w5 ⟨rfl, rfl⟩)
        go_ret2
        exact ⟨by rw [hval.out, hnil.out]; rfl, hK.out.below.trans (hO.out.below.mono (by omega))⟩
      · obtain ⟨b, off, rfl, hb, hcc⟩ := RecAt.of_own sEnc_len rfl hO.out.own (by omega)
        have hcap := Lib.hid (own_cap hO.out.own (by omega))
        have hcc' : Hid (∀ (j : Nat) x, ws[j]? = some x → wr.cell? ⟨b, off + j, none⟩ = some (.string x)) := fun j x hx => by
          have := hcc j x hx 0 _ rfl
          rwa [Nat.mul_one, Nat.add_zero] at this
        clear hcc
        go_wp2_with (go_at_call 32; refine (sh_strings_Join b off c' ws sp _ hcc'.out hb (by rw [hwl.out]; omega) hcap.out hjH.out).mono ?_; rintro e w5 ⟨rfl, hbw⟩; replace hO := Lib.hid (hO.out.next hbw); clear hbw)
        go_ret2
        exact ⟨by rw [hval.out]; rfl, hK.out.below.trans (hO.out.below.mono (by omega))⟩
end Go.Proofs.YtlnphcdanadaeaaDoor
