/- Layer 27: reach of the program. -/
import Derived.Test.YtbcdimklblpdnaaDoorYs
namespace Go.Proofs.YtbcdimklblpdnaaDoor
open Go Go.RowKit
set_option linter.unusedSimpArgs false
set_option linter.unusedVariables false
theorem recs_keep {α : Type} {g : α → List Value} {size N0 : Nat} {w w' : World} {A : Option Addr} {l : List α} (h : RecAt g size w N0 A l) (hb : Below N0 w w') : RecAt g size w' N0 A l := fun h0 => by
  obtain ⟨b, off, e, hlt, hc⟩ := h h0
  exact ⟨b, off, e, hlt, fun k x hx j u hu => (hb.cell (p := ⟨b, _, none⟩) hlt).trans (hc k x hx j u hu)⟩
/-- a variable of one's own -/
structure C1 (w : World) (B : Nat) (v : Value) : Prop where
  c : w.cell? ⟨B, 0, none⟩ = some v
  fz : w.frozen? ⟨B, 0, none⟩ = false
  lt : B < w.heap.size
theorem C1.new (w : World) (v : Value) (T : TypeId) : C1 (w.alloc (.cells #[v] T)) w.heap.size v :=
  ⟨by rw [cell_of_row _ _ _ _ _ _ (heap_alloc_new w _)]; rfl, by simp only [World.frozen?]; rw [heap_alloc_new w _]; rfl, by simp⟩
theorem C1.next {w w' : World} {B : Nat} {v : Value} (h : C1 w B v) (hb : Below w.heap.size w w') : C1 w' B v :=
  ⟨(hb.cell (p := ⟨B, 0, none⟩) h.lt).trans h.c, by have := h.fz; simp only [World.frozen?] at this ⊢; rw [hb.block B h.lt]; exact this, Nat.lt_of_lt_of_le h.lt hb.size⟩
theorem C1.chg {S : List Nat} {w w' : World} {B : Nat} {v : Value} (h : C1 w B v) (hc : Chg S w w') (hn : B ∉ S) : C1 w' B v :=
  ⟨(hc.cell (p := ⟨B, 0, none⟩) h.lt hn).trans h.c, by have := h.fz; simp only [World.frozen?] at this ⊢; rw [hc.block B h.lt hn]; exact this, Nat.lt_of_lt_of_le h.lt hc.size⟩
theorem VS.of {w : World} {BP BO BM : Nat} {p m : Int} {o : Nat} (h1 : C1 w BP (.int .i64 p)) (h2 : C1 w BO (.int .u64 (o : Int))) (h3 : C1 w BM (.int .i64 m)) (po : BP ≠ BO) (pm : BP ≠ BM) (om : BO ≠ BM) : VS w BP BO BM p o m :=
  ⟨h1.c, h2.c, h3.c, h1.fz, h2.fz, h3.fz, po, pm, om⟩
theorem vs_made (u : World) (a b : Value) (T1 T2 : TypeId) : C1 (((u.alloc (.cells #[.int .u64 ((0 : Nat) : Int)] T1)).alloc (.cells #[a] T2)).alloc (.cells #[b] T2)).drew (u.heap.size + 1) a ∧ C1 (((u.alloc (.cells #[.int .u64 ((0 : Nat) : Int)] T1)).alloc (.cells #[a] T2)).alloc (.cells #[b] T2)).drew u.heap.size (.int .u64 ((0 : Nat) : Int)) ∧ C1 (((u.alloc (.cells #[.int .u64 ((0 : Nat) : Int)] T1)).alloc (.cells #[a] T2)).alloc (.cells #[b] T2)).drew (u.heap.size + 1 + 1) b := by
  obtain ⟨v, hv⟩ : ∃ v, u.alloc (.cells #[.int .u64 ((0 : Nat) : Int)] T1) = v := ⟨_, rfl⟩
  have h1 := C1.new u (.int .u64 ((0 : Nat) : Int)) T1
  have hs : v.heap.size = u.heap.size + 1 := by rw [← hv]; simp
  rw [hv] at h1 ⊢
  have h2 := C1.new v a T2
  obtain ⟨x, hx⟩ : ∃ x, v.alloc (.cells #[a] T2) = x := ⟨_, rfl⟩
  have hbx : Below v.heap.size v x := hx ▸ (Below.refl _ _).alloc (Nat.le_refl _) _
  have hs2 : x.heap.size = u.heap.size + 1 + 1 := by rw [← hx]; simp [hs]
  rw [hx] at h2 ⊢
  have h3 := C1.new x b T2
  have hby : Below x.heap.size x (x.alloc (.cells #[b] T2)).drew := ((Below.refl _ _).alloc (Nat.le_refl _) _).drew
  rw [hs] at h2
  rw [hs2] at h3
  exact ⟨h2.next hby, (h1.next hbx).next hby, ⟨h3.c, h3.fz, h3.lt⟩⟩
/-- the walk with the first visitor -/
theorem pgo1 {f r a : Nat} {sf sr : Int} {ps : List Int} (h : Dir f r a sf sr ps) {BB BF : Nat} {P : Option Addr} {c N0 : Nat} {w : World} (hX : KBd w BB f r P ps.length c) (hP : RecAt pEnc 1 w N0 P ps) (hN : N0 ≤ w.heap.size ∧ N0 ≤ BF) (hB : BB ≠ BF) (hF : C1 w BF (.bool false)) :
    Calls Tryd.prog 67 #[.agg #[.int .i64 (f : Int), .int .i64 (r : Int)], .int .i64 (a : Int), .agg #[.int .i64 sf, .int .i64 sr], .func (.func 69) #[] #[.pointer (some ⟨BB, 0, none⟩), .pointer (some ⟨BF, 0, none⟩)]] w fun e w' => e = .returned (.tuple #[]) ∧ w'.cell? ⟨BF, 0, none⟩ = some (.bool (decide (0 ≤ sqK f r a sf sr 1) && decide (ps.getD (sqK f r a sf sr 1).toNat 0 = 0))) ∧ Chg [BF] w w' := by
  have eg : ∀ args w, (callFunc 69 args).run Tryd.prog w = .ok (.enter 69 args) w := enters_of Tryd.func69 (by kernel_rfl) rfl
  refine pwalk f r a sf sr ps h _ _ [BF] (fun k W => k = 0 ∧ Below w.heap.size w W) (fun W => W.cell? ⟨BF, 0, none⟩ = some (.bool (decide (0 ≤ sqK f r a sf sr 1) && decide (ps.getD (sqK f r a sf sr 1).toNat 0 = 0)))) w eg ?_ ?_ ?_ ?_
  · intro b hb
    simp only [List.mem_cons, List.not_mem_nil, or_false] at hb
    subst hb
    exact hF.lt
  · exact fun W hW => ⟨rfl, hW⟩
  · rintro k W ⟨rfl, hW⟩ hz
    rw [Nat.zero_add] at hz ⊢
    have hzl := h.lt hz
    rw [← h.len] at hzl
    rw [decide_eq_true hz, Bool.true_and]
    obtain ⟨z, hzz⟩ := Int.eq_ofNat_of_zero_le hz
    rw [hzz] at hzl ⊢
    obtain ⟨pc, hpc⟩ : ∃ pc, ps[z]? = some pc := ⟨_, List.getElem?_eq_getElem (by omega)⟩
    have hgd : ps.getD ((z : Int).toNat) 0 = pc := by rw [Int.toNat_natCast, List.getD_eq_getElem?_getD, hpc]; rfl
    rw [hgd]
    obtain ⟨bk, off, hPA, hbk, hc⟩ := recP hP hpc
    have hF2 := hF.next hW
    refine (pvis1 BB BF f r P ps.length c z pc false bk off W (hX.next hW) hPA ((hW.cell (p := ⟨bk, off + z, none⟩) (by show bk < _; omega)).trans hc) (by omega) hF2.c hF2.fz).mono ?_
    rintro e w' ⟨rfl, rfl⟩
    refine ⟨(Chg.refl _ _).setCell (by simp) _ _, .inr ⟨rfl, ?_⟩⟩
    rw [World.cell?_setCell_same' _ _ _ (by rw [hF2.c]; rfl)]
    rfl
  · rintro k W ⟨rfl, hW⟩ hz
    rw [Nat.zero_add] at hz
    rw [decide_eq_false hz, Bool.false_and]
    exact (hF.next hW).c
theorem fl_leap {f r a : Nat} {sf sr : Int} {ps : List Int} : linF f r a sf sr ps 9 1 1 = if sqK f r a sf sr 1 < 0 then [] else [sqK f r a sf sr 1] := by
  show (if (1 : Nat) = 0 then [] else if 0 ≤ sqK f r a sf sr 1 then sqK f r a sf sr 1 :: (if ps.getD (sqK f r a sf sr 1).toNat 0 = 0 then linF f r a sf sr ps 8 0 2 else []) else []) = _
  rw [if_neg (by decide), linF_zero]
  by_cases h : sqK f r a sf sr 1 < 0
  · rw [if_pos h, if_neg (by omega)]
  · rw [if_neg h, if_pos (by omega)]
    split <;> rfl
set_option maxRecDepth 100000 in
set_option maxHeartbeats 1000000 in
theorem preach (x : At) (f r a : Nat) (sf sr : Int) (ps : List Int) (P : Option Addr) (c : Nat) (w : World) (h : Dir f r a sf sr ps) (hP : RecAt pEnc 1 w w.heap.size P ps) (hx : okA x) :
    Calls Tryd.prog 52 #[.agg #[.int .i64 (f : Int), .int .i64 (r : Int), .slice P ps.length c], aV x, .int .i64 (a : Int), .agg #[.int .i64 sf, .int .i64 sr]] w fun e w' => e = .returned (.int .u64 (orL (reachV x f r a sf sr ps) : Nat)) ∧ orL (reachV x f r a sf sr ps) < 18446744073709551616 ∧ Below w.heap.size w w' := by
  obtain ⟨u, hu⟩ : ∃ u, (((w.alloc (.cells #[.int .i64 (f : Int), .int .i64 (r : Int), .slice P ps.length c] 48)).alloc (.cells #[.int .i64 x.kind, .int .i64 x.short, .int .i64 x.long, .int .i64 x.most, .int .i64 x.mode, .int .i64 x.way] 40)).alloc (.cells #[.int .i64 sf, .int .i64 sr] 43)) = u := ⟨_, rfl⟩
  have hbA : Below w.heap.size w (w.alloc (.cells #[.int .i64 (f : Int), .int .i64 (r : Int), .slice P ps.length c] 48)) := (Below.refl _ _).alloc (Nat.le_refl _) _
  have hbB : Below (w.alloc (.cells #[.int .i64 (f : Int), .int .i64 (r : Int), .slice P ps.length c] 48)).heap.size (w.alloc (.cells #[.int .i64 (f : Int), .int .i64 (r : Int), .slice P ps.length c] 48)) ((w.alloc (.cells #[.int .i64 (f : Int), .int .i64 (r : Int), .slice P ps.length c] 48)).alloc (.cells #[.int .i64 x.kind, .int .i64 x.short, .int .i64 x.long, .int .i64 x.most, .int .i64 x.mode, .int .i64 x.way] 40)) := (Below.refl _ _).alloc (Nat.le_refl _) _
  have hbC : Below ((w.alloc (.cells #[.int .i64 (f : Int), .int .i64 (r : Int), .slice P ps.length c] 48)).alloc (.cells #[.int .i64 x.kind, .int .i64 x.short, .int .i64 x.long, .int .i64 x.most, .int .i64 x.mode, .int .i64 x.way] 40)).heap.size ((w.alloc (.cells #[.int .i64 (f : Int), .int .i64 (r : Int), .slice P ps.length c] 48)).alloc (.cells #[.int .i64 x.kind, .int .i64 x.short, .int .i64 x.long, .int .i64 x.most, .int .i64 x.mode, .int .i64 x.way] 40)) (((w.alloc (.cells #[.int .i64 (f : Int), .int .i64 (r : Int), .slice P ps.length c] 48)).alloc (.cells #[.int .i64 x.kind, .int .i64 x.short, .int .i64 x.long, .int .i64 x.most, .int .i64 x.mode, .int .i64 x.way] 40)).alloc (.cells #[.int .i64 sf, .int .i64 sr] 43)) := (Below.refl _ _).alloc (Nat.le_refl _) _
  have e1 : (w.alloc (.cells #[.int .i64 (f : Int), .int .i64 (r : Int), .slice P ps.length c] 48)).heap.size = w.heap.size + 1 := by simp
  have e2 : ((w.alloc (.cells #[.int .i64 (f : Int), .int .i64 (r : Int), .slice P ps.length c] 48)).alloc (.cells #[.int .i64 x.kind, .int .i64 x.short, .int .i64 x.long, .int .i64 x.most, .int .i64 x.mode, .int .i64 x.way] 40)).heap.size = w.heap.size + 1 + 1 := by simp
  have e3 : u.heap.size = w.heap.size + 3 := by rw [← hu]; simp
  have hX0 : KBd u w.heap.size f r P ps.length c := hu ▸ ((KBd.new w f r P ps.length c).next hbB).next hbC
  have hA0 : KA u (w.heap.size + 1) x := by
    have h1 := (KA.new (w.alloc (.cells #[.int .i64 (f : Int), .int .i64 (r : Int), .slice P ps.length c] 48)) x).next hbC
    rw [e1] at h1
    exact hu ▸ h1
  have hS0 : KS u (w.heap.size + 1 + 1) sf sr := by
    have h1 := KS.new ((w.alloc (.cells #[.int .i64 (f : Int), .int .i64 (r : Int), .slice P ps.length c] 48)).alloc (.cells #[.int .i64 x.kind, .int .i64 x.short, .int .i64 x.long, .int .i64 x.most, .int .i64 x.mode, .int .i64 x.way] 40)) sf sr
    rw [e2] at h1
    exact hu ▸ h1
  have hb0 : Below w.heap.size w u := hu ▸ (hbA.trans ((hbB.mono hbA.size).trans (hbC.mono (Nat.le_trans hbA.size hbB.size))))
  have hX := Lib.hid hX0
  have hA := Lib.hid hA0
  have hS := Lib.hid hS0
  have hb1 := Lib.hid hb0
  have hD := Lib.hid h
  have hP0 := Lib.hid hP
  have hxH := Lib.hid hx
  have hmo := hx.2.2.2.2.2
  have e3H := Lib.hid e3
  clear hbA hbB hbC e1 e2 e3 hX0 hA0 hS0 hb0 h hP hx
  obtain ⟨FL, hFL⟩ : ∃ FL, reachV x f r a sf sr ps = FL := ⟨_, rfl⟩
  have hFV : Hid (FL = if x.kind = 2 then linF f r a sf sr ps 9 (if x.most = 0 then 8 else x.most.toNat) 1
    else if x.kind = 3 then (if hurV f r a sf sr ps = 0 then [] else linF f r a sf sr ps 9 1 (hurV f r a sf sr ps + 1))
    else if x.kind = 4 then (if hurV f r a sf sr ps = 0 then [] else linF f r a sf sr ps 9 8 (hurV f r a sf sr ps + 1))
    else if sqK f r a sf sr 1 < 0 then []
    else if x.kind = 5 ∧ ps.getD (legK f r a sf sr).toNat 0 ≠ 0 then [] else [sqK f r a sf sr 1]) := hFL.symm
  rw [hFL]
  clear hFL
  go_enter Tryd.func52, Tryd.ntmps52
  go_upto_region 1 with fail
  obtain ⟨B0, hB0⟩ : ∃ B0, w.heap.size = B0 := ⟨_, rfl⟩
  rw [hB0] at hX hA hS
  simp only [hB0]
  simp only [hu] at *
  have hB0H := Lib.hid hB0
  clear hu hB0
  obtain ⟨x0, x1, x2, _⟩ := hX.out
  obtain ⟨a0, a1, a2, a3, a4, a5, _⟩ := hA.out
  go_upto_region 2 with fail
  go_cut [10, 11] from 13 to 14 (fun s10 s11 wc => ∃ BP BM : Nat, s10 = .pointer (some ⟨BP, 0, none⟩) ∧ s11 = .pointer (some ⟨BM, 0, none⟩) ∧ Hid (VS wc BP u.heap.size BM 0 0 x.most ∧ Below u.heap.size u wc ∧ (u.heap.size < BP ∧ BP < wc.heap.size) ∧ (u.heap.size < BM ∧ BM < wc.heap.size)))
  case first =>
    go_region
    all_goals (go_wp2_with fail; go_meet)
    · obtain ⟨v1, v2, v3⟩ := vs_made u (.int .i64 0) (.int .i64 x.most) 54 3
      have l1 := v1.lt
      have l3 := v3.lt
      refine ⟨_, _, rfl, rfl, ⟨VS.of v1 v2 v3 (by omega) (by omega) (by omega), ?_, ⟨by omega, l1⟩, ⟨by omega, l3⟩⟩⟩
      exact ((((Below.refl _ _).alloc (Nat.le_refl _) _).alloc (by simp) _).alloc (by simp; omega) _).drew
    · obtain ⟨v1, v2, v3⟩ := vs_made u (.int .i64 x.most) (.int .i64 0) 54 3
      have l1 := v1.lt
      have l3 := v3.lt
      refine ⟨_, _, rfl, rfl, ⟨VS.of v3 v2 v1 (by omega) (by omega) (by omega), ?_, ⟨by omega, l3⟩, ⟨by omega, l1⟩⟩⟩
      exact ((((Below.refl _ _).alloc (Nat.le_refl _) _).alloc (by simp) _).alloc (by simp; omega) _).drew
  case rest =>
    obtain ⟨BP, BM, rfl, rfl, hcut⟩ := hcut
    obtain ⟨hV0, hb0, ⟨hp1, hp2⟩, hm1, hm2⟩ := hcut.out
    have hV := Lib.hid hV0
    have hb2 := Lib.hid hb0
    clear hcut hV0 hb0
    obtain ⟨BO, hBO⟩ : ∃ BO, u.heap.size = BO := ⟨_, rfl⟩
    have hsz : Hid (w.heap.size ≤ BO ∧ B0 < BO ∧ B0 + 1 + 1 < BO) := by
      have h1 := e3H.out
      have h2 := hB0H.out
      show _ ∧ _ ∧ _
      omega
    have hgo : Hid (∀ (W : World) (p m : Int), VS W BP BO BM p 0 m → Below u.heap.size u W → wc.heap.size ≤ W.heap.size → ((p = 1 ∧ ∃ left, mRel 0 m left ∧ FL = if hurV f r a sf sr ps = 0 then [] else linF f r a sf sr ps 9 left (hurV f r a sf sr ps + 1)) ∨ (p = 0 ∧ ∃ left, mRel 0 m left ∧ FL = linF f r a sf sr ps 9 left 1)) →
        Calls Tryd.prog 67 #[.agg #[.int .i64 (f : Int), .int .i64 (r : Int)], .int .i64 (a : Int), .agg #[.int .i64 sf, .int .i64 sr], .func (.func 70) #[] #[.pointer (some ⟨BP, 0, none⟩), .pointer (some ⟨B0, 0, none⟩), .pointer (some ⟨BO, 0, none⟩), .pointer (some ⟨BM, 0, none⟩)]] W fun e w' => e = .returned (.tuple #[]) ∧ Hid (FinV BO FL w') ∧ Hid (Below w.heap.size w w')) := fun W p m hv hbw hszw hst => by
      have hsz2 := hsz.out
      have hXw := hX.out.next hbw
      have hbw2 := hb1.out.trans (hbw.mono hb1.out.size)
      refine (pgo hD.out hXw (recs_keep hP0.out hbw2) ⟨hbw2.size, by omega, by omega, by omega⟩ (by simp; omega) ⟨by omega, by have := hbw.size; omega, by omega⟩ hv hst).mono ?_
      rintro e w' ⟨he, h1, h2⟩
      refine ⟨he, h1, hbw2.trans (h2.below hbw2.size ?_)⟩
      intro b hb
      simp only [List.mem_cons, List.not_mem_nil, or_false] at hb
      omega
    have hfin : Hid (∀ W : World, Hid (FinV BO FL W) → W.cell? ⟨BO, 0, none⟩ = some (.int .u64 (orL FL : Nat)) ∧ Hid (orL FL < 18446744073709551616)) := fun W h => ⟨h.out.1, h.out.2⟩
    have hBOH := Lib.hid hBO
    rw [hBO] at hV hp1 hm1 ⊢
    clear x0 x1 x2 a0 a1 a2 a3 a4 a5 hBO
    have hbu : Hid (∀ W, Below BO wc W → KBd W B0 f r P ps.length c ∧ KS W (B0 + 1 + 1) sf sr ∧ KA W (B0 + 1) x ∧ Below u.heap.size u W) := fun W hh => by
      have h2 : Below u.heap.size u W := by
        have h1 := hb2.out
        rw [hBOH.out] at h1 ⊢
        exact h1.trans hh
      exact ⟨hX.out.next h2, hS.out.next h2, hA.out.next h2, h2⟩
    have hkk := hxH.out.1
    have hk : x.kind = 1 ∨ x.kind = 2 ∨ x.kind = 3 ∨ x.kind = 4 ∨ x.kind = 5 := by omega
    rcases hk with hk | hk | hk | hk | hk
    · have q1 : (x.kind == 1) = true := by rw [beq_iff_eq]; exact hk
      have hFe : Hid (FL = linF f r a sf sr ps 9 1 1) := by
        show FL = _
        have h5 : ¬ (x.kind = 5 ∧ ps.getD (legK f r a sf sr).toNat 0 ≠ 0) := fun h => by omega
        rw [hFV.out, if_neg (by omega), if_neg (by omega), if_neg (by omega), if_neg h5, fl_leap]
      have hre : Hid (mRel 0 (1) (1)) := .inl ⟨by decide, by decide, rfl⟩
      have hkH := Lib.hid hk
      obtain ⟨⟨x0, x1, x2, _⟩, ⟨s0, s1, _⟩, ⟨a0, a1, a2, a3, a4, a5, _⟩, _⟩ := hbu.out wc (Below.refl _ _)
      obtain ⟨p0, o0, m0, fp, fo, fm, po, pm, om⟩ := hV.out
      clear hk hFV hkk
      go_upto_region 16 with fail
      have hV1 : Hid (VS (wc.setCell ⟨BM, 0, none⟩ (.int .i64 1)) BP BO BM 0 0 (1)) := (hV.out).setM (m' := 1)
      have hb4 : Hid (Below BO wc (wc.setCell ⟨BM, 0, none⟩ (.int .i64 1))) := ((Below.refl BO wc).setCell (p := ⟨BM, 0, none⟩) (by show BO ≤ BM; omega) (.int .i64 1))
      have hsz4 : Hid (wc.heap.size ≤ (wc.setCell ⟨BM, 0, none⟩ (.int .i64 1)).heap.size) := hb4.out.size
      clear x0 x1 x2 s0 s1 a0 a1 a2 a3 a4 a5 p0 o0 m0 fp fo fm
      generalize wc.setCell ⟨BM, 0, none⟩ (.int .i64 1) = w1 at *
      obtain ⟨⟨x0, x1, x2, _⟩, ⟨s0, s1, _⟩, _, hbu4⟩ := hbu.out w1 hb4.out
      have hc := Lib.hid (hgo.out w1 0 (1) hV1.out hbu4 hsz4.out (.inr ⟨rfl, _, hre.out, hFe.out⟩))
      clear hbu4
      go_wp2_with (go_at_call 67; refine hc.out.mono ?_; rintro e w3 ⟨rfl, hF3, hb3⟩; obtain ⟨oc, ho⟩ := hfin.out w3 hF3)
      go_ret
      exact ⟨rfl, ho.out, hb3.out⟩
    · have q1 : (x.kind == 1) = false := by rw [beq_eq_false_iff_ne]; omega
      have q5 : (x.kind == 5) = false := by rw [beq_eq_false_iff_ne]; omega
      have q3 : (x.kind == 3) = false := by rw [beq_eq_false_iff_ne]; omega
      have q4 : (x.kind == 4) = false := by rw [beq_eq_false_iff_ne]; omega
      have hFe : Hid (FL = linF f r a sf sr ps 9 (if x.most = 0 then 8 else x.most.toNat) 1) := by show FL = _; rw [hFV.out, if_pos hk]
      have hre : Hid (mRel 0 (x.most) ((if x.most = 0 then 8 else x.most.toNat))) := by
        have h7 : x.most ≤ 7 := by have := hmo.2; unfold mostA at this; split at this <;> omega
        show mRel 0 x.most _
        split
        · exact .inr ⟨by omega, by omega, by omega⟩
        · exact .inl ⟨by omega, by omega, by omega⟩
      have hkH := Lib.hid hk
      obtain ⟨⟨x0, x1, x2, _⟩, ⟨s0, s1, _⟩, ⟨a0, a1, a2, a3, a4, a5, _⟩, _⟩ := hbu.out wc (Below.refl _ _)
      obtain ⟨p0, o0, m0, fp, fo, fm, po, pm, om⟩ := hV.out
      clear hk hFV hkk
      go_upto_region 16 with fail
      have hV1 : Hid (VS wc BP BO BM 0 0 (x.most)) := hV.out
      have hb4 : Hid (Below BO wc wc) := (Below.refl BO wc)
      have hsz4 : Hid (wc.heap.size ≤ wc.heap.size) := hb4.out.size
      clear x0 x1 x2 s0 s1 a0 a1 a2 a3 a4 a5 p0 o0 m0 fp fo fm
      obtain ⟨w1, hw1⟩ : ∃ w1, wc = w1 := ⟨_, rfl⟩
      subst hw1
      obtain ⟨⟨x0, x1, x2, _⟩, ⟨s0, s1, _⟩, _, hbu4⟩ := hbu.out wc hb4.out
      have hc := Lib.hid (hgo.out wc 0 (x.most) hV1.out hbu4 hsz4.out (.inr ⟨rfl, _, hre.out, hFe.out⟩))
      clear hbu4
      go_wp2_with (go_at_call 67; refine hc.out.mono ?_; rintro e w3 ⟨rfl, hF3, hb3⟩; obtain ⟨oc, ho⟩ := hfin.out w3 hF3)
      go_ret
      exact ⟨rfl, ho.out, hb3.out⟩
    · have q1 : (x.kind == 1) = false := by rw [beq_eq_false_iff_ne]; omega
      have q5 : (x.kind == 5) = false := by rw [beq_eq_false_iff_ne]; omega
      have q3 : (x.kind == 3) = true := by rw [beq_iff_eq]; exact hk
      have hFe : Hid (FL = if hurV f r a sf sr ps = 0 then [] else linF f r a sf sr ps 9 1 (hurV f r a sf sr ps + 1)) := by show FL = _; rw [hFV.out, if_neg (by omega), if_pos hk]
      have hre : Hid (mRel 0 (1) (1)) := .inl ⟨by decide, by decide, rfl⟩
      have hkH := Lib.hid hk
      obtain ⟨⟨x0, x1, x2, _⟩, ⟨s0, s1, _⟩, ⟨a0, a1, a2, a3, a4, a5, _⟩, _⟩ := hbu.out wc (Below.refl _ _)
      obtain ⟨p0, o0, m0, fp, fo, fm, po, pm, om⟩ := hV.out
      clear hk hFV hkk
      go_upto_region 16 with fail
      have hV1 : Hid (VS ((wc.setCell ⟨BP, 0, none⟩ (.int .i64 1)).setCell ⟨BM, 0, none⟩ (.int .i64 1)) BP BO BM 1 0 (1)) := ((hV.out).setP (p' := 1)).setM (m' := 1)
      have hb4 : Hid (Below BO wc ((wc.setCell ⟨BP, 0, none⟩ (.int .i64 1)).setCell ⟨BM, 0, none⟩ (.int .i64 1))) := (((Below.refl BO wc).setCell (p := ⟨BP, 0, none⟩) (by show BO ≤ BP; omega) (.int .i64 1)).setCell (p := ⟨BM, 0, none⟩) (by show BO ≤ BM; omega) (.int .i64 1))
      have hsz4 : Hid (wc.heap.size ≤ ((wc.setCell ⟨BP, 0, none⟩ (.int .i64 1)).setCell ⟨BM, 0, none⟩ (.int .i64 1)).heap.size) := hb4.out.size
      clear x0 x1 x2 s0 s1 a0 a1 a2 a3 a4 a5 p0 o0 m0 fp fo fm
      generalize (wc.setCell ⟨BP, 0, none⟩ (.int .i64 1)).setCell ⟨BM, 0, none⟩ (.int .i64 1) = w1 at *
      obtain ⟨⟨x0, x1, x2, _⟩, ⟨s0, s1, _⟩, _, hbu4⟩ := hbu.out w1 hb4.out
      have hc := Lib.hid (hgo.out w1 1 (1) hV1.out hbu4 hsz4.out (.inl ⟨rfl, _, hre.out, hFe.out⟩))
      clear hbu4
      go_wp2_with (go_at_call 67; refine hc.out.mono ?_; rintro e w3 ⟨rfl, hF3, hb3⟩; obtain ⟨oc, ho⟩ := hfin.out w3 hF3)
      go_ret
      exact ⟨rfl, ho.out, hb3.out⟩
    · have q1 : (x.kind == 1) = false := by rw [beq_eq_false_iff_ne]; omega
      have q5 : (x.kind == 5) = false := by rw [beq_eq_false_iff_ne]; omega
      have q3 : (x.kind == 3) = false := by rw [beq_eq_false_iff_ne]; omega
      have q4 : (x.kind == 4) = true := by rw [beq_iff_eq]; exact hk
      have hFe : Hid (FL = if hurV f r a sf sr ps = 0 then [] else linF f r a sf sr ps 9 8 (hurV f r a sf sr ps + 1)) := by show FL = _; rw [hFV.out, if_neg (by omega), if_neg (by omega), if_pos hk]
      have hre : Hid (mRel 0 (x.most) (8)) := by
        have h0 : x.most = 0 := by have := hmo.2; have := hmo.1; unfold mostA at *; split at * <;> omega
        rw [h0]
        exact .inr ⟨by decide, by decide, rfl⟩
      have hkH := Lib.hid hk
      obtain ⟨⟨x0, x1, x2, _⟩, ⟨s0, s1, _⟩, ⟨a0, a1, a2, a3, a4, a5, _⟩, _⟩ := hbu.out wc (Below.refl _ _)
      obtain ⟨p0, o0, m0, fp, fo, fm, po, pm, om⟩ := hV.out
      clear hk hFV hkk
      go_upto_region 16 with fail
      have hV1 : Hid (VS (wc.setCell ⟨BP, 0, none⟩ (.int .i64 1)) BP BO BM 1 0 (x.most)) := (hV.out).setP (p' := 1)
      have hb4 : Hid (Below BO wc (wc.setCell ⟨BP, 0, none⟩ (.int .i64 1))) := ((Below.refl BO wc).setCell (p := ⟨BP, 0, none⟩) (by show BO ≤ BP; omega) (.int .i64 1))
      have hsz4 : Hid (wc.heap.size ≤ (wc.setCell ⟨BP, 0, none⟩ (.int .i64 1)).heap.size) := hb4.out.size
      clear x0 x1 x2 s0 s1 a0 a1 a2 a3 a4 a5 p0 o0 m0 fp fo fm
      generalize wc.setCell ⟨BP, 0, none⟩ (.int .i64 1) = w1 at *
      obtain ⟨⟨x0, x1, x2, _⟩, ⟨s0, s1, _⟩, _, hbu4⟩ := hbu.out w1 hb4.out
      have hc := Lib.hid (hgo.out w1 1 (x.most) hV1.out hbu4 hsz4.out (.inl ⟨rfl, _, hre.out, hFe.out⟩))
      clear hbu4
      go_wp2_with (go_at_call 67; refine hc.out.mono ?_; rintro e w3 ⟨rfl, hF3, hb3⟩; obtain ⟨oc, ho⟩ := hfin.out w3 hF3)
      go_ret
      exact ⟨rfl, ho.out, hb3.out⟩
    · have q1 : (x.kind == 1) = false := by rw [beq_eq_false_iff_ne]; omega
      have q5 : (x.kind == 5) = true := by rw [beq_iff_eq]; exact hk
      obtain ⟨fr, hfr⟩ : ∃ fr, (decide (0 ≤ legK f r a sf sr) && decide (ps.getD (legK f r a sf sr).toNat 0 = 0)) = fr := ⟨_, rfl⟩
      have hF0 : Hid (fr = false → FL = []) := fun hf => by
        rw [hf] at hfr
        rw [hFV.out, if_neg (by omega), if_neg (by omega), if_neg (by omega)]
        by_cases h0 : sqK f r a sf sr 1 < 0
        · rw [if_pos h0]
        · rw [if_neg h0]
          rw [decide_eq_true (hD.out.leg_on (by omega)), Bool.true_and] at hfr
          rw [if_pos ⟨hk, of_decide_eq_false hfr⟩]
      have hF1 : Hid (fr = true → FL = linF f r a sf sr ps 9 1 1) := fun hf => by
        rw [hf, Bool.and_eq_true, decide_eq_true_eq, decide_eq_true_eq] at hfr
        rw [hFV.out, if_neg (by omega), if_neg (by omega), if_neg (by omega), fl_leap]
        by_cases h0 : sqK f r a sf sr 1 < 0
        · rw [if_pos h0, if_pos h0]
        · rw [if_neg h0, if_neg h0, if_neg (fun h => h.2 hfr.2)]
      have hkH := Lib.hid hk
      have hfrH := Lib.hid hfr
      clear hk hFV hkk hfr
      obtain ⟨⟨x0, x1, x2, _⟩, ⟨s0, s1, _⟩, ⟨a0, a1, a2, a3, a4, a5, _⟩, _⟩ := hbu.out wc (Below.refl _ _)
      obtain ⟨p0, o0, m0, fp, fo, fm, po, pm, om⟩ := hV.out
      go_upto_region 8 with fail
      have hV1 := Lib.hid (hV.out.setM (m' := 1))
      have hb4 : Hid (Below BO wc (wc.setCell ⟨BM, 0, none⟩ (.int .i64 1))) := (Below.refl BO wc).setCell (p := ⟨BM, 0, none⟩) (by show BO ≤ BM; omega) (.int .i64 1)
      clear x0 x1 x2 s0 s1 a0 a1 a2 a3 a4 a5 p0 o0 m0 fp fo fm
      generalize wc.setCell ⟨BM, 0, none⟩ (.int .i64 1) = w1 at *
      have hs1 := hb4.out.size
      go_upto_region 9 with fail
      have hbn : Hid (Below w1.heap.size w1 (w1.alloc (.cells #[.bool false] 4))) := (Below.refl _ _).alloc (Nat.le_refl _) _
      have hC := Lib.hid (C1.new w1 (.bool false) 4)
      have hV2 := Lib.hid (hV1.out.next (by omega) (by omega) (by omega) hbn.out)
      have hb5 := Lib.hid (hb4.out.trans (hbn.out.mono (by omega)))
      obtain ⟨BF, hBF⟩ : ∃ BF, w1.heap.size = BF := ⟨_, rfl⟩
      rw [hBF] at hC hs1 ⊢
      clear hbn hV1 hb4 hBF
      generalize w1.alloc (.cells #[.bool false] 4) = w2 at *
      have hCl := hC.out.lt
      have hBOw : BO ≤ w2.heap.size := by have := hb5.out.size; omega
      have hS9 : Hid (∀ W, Below BO wc W → W.cell? ⟨B0, 0, none⟩ = some (.int .i64 (f : Int)) ∧ W.cell? ⟨B0, 1, none⟩ = some (.int .i64 (r : Int)) ∧ W.cell? ⟨B0 + 1 + 1, 0, none⟩ = some (.int .i64 sf) ∧ W.cell? ⟨B0 + 1 + 1, 1, none⟩ = some (.int .i64 sr)) := fun W hh => by
        obtain ⟨⟨x0, x1, x2, _⟩, ⟨s0, s1, _⟩, _⟩ := hbu.out W hh
        exact ⟨x0, x1, s0, s1⟩
      obtain ⟨l1, hl1⟩ : ∃ l1, (legV sf sr).1 = l1 := ⟨_, rfl⟩
      obtain ⟨l2, hl2⟩ : ∃ l2, (legV sf sr).2 = l2 := ⟨_, rfl⟩
      have hleg : Hid (∀ W, Calls Tryd.prog 68 #[.agg #[.int .i64 sf, .int .i64 sr]] W fun e w' => e = .returned (.agg #[.int .i64 l1, .int .i64 l2]) ∧ Below W.heap.size W w') := fun W => by
        rw [← hl1, ← hl2]
        exact pleg sf sr W hD.out.s0 hD.out.s1 hD.out.ne
      have hwk : Hid (∀ W, Below w2.heap.size w2 W → Calls Tryd.prog 67 #[.agg #[.int .i64 (f : Int), .int .i64 (r : Int)], .int .i64 (a : Int), .agg #[.int .i64 l1, .int .i64 l2], .func (.func 69) #[] #[.pointer (some ⟨B0, 0, none⟩), .pointer (some ⟨BF, 0, none⟩)]] W fun e w' => e = .returned (.tuple #[]) ∧ Hid (w'.cell? ⟨BF, 0, none⟩ = some (.bool fr)) ∧ Hid (VS w' BP BO BM 0 0 1) ∧ Hid (Below BO wc w')) := fun W hh => by
        rw [← hl1, ← hl2]
        have hbW := hb5.out.trans (hh.mono hBOw)
        have hsz2 := hsz.out
        have hBO2 := hBOH.out
        have hbw2 := hb1.out.trans ((hbu.out W hbW).2.2.2.mono hb1.out.size)
        have hsW := hh.size
        refine (pgo1 (hD.out.legD) (hbu.out W hbW).1 (recs_keep hP0.out hbw2) ⟨hbw2.size, by omega⟩ (show B0 ≠ BF by omega) (hC.out.next hh)).mono ?_
        rintro e w' ⟨he, hc, hg⟩
        refine ⟨he, ?_, ?_, ?_⟩
        · show w'.cell? ⟨BF, 0, none⟩ = some (.bool fr)
          rw [← hfrH.out]
          exact hc
        · have hVW := hV2.out.next (by omega) (by omega) (by omega) hh
          have c1 : C1 W BP (.int .i64 0) := ⟨hVW.p0, hVW.fp, by omega⟩
          have c2 : C1 W BO (.int .u64 ((0 : Nat) : Int)) := ⟨hVW.o0, hVW.fo, by omega⟩
          have c3 : C1 W BM (.int .i64 1) := ⟨hVW.m0, hVW.fm, by omega⟩
          exact VS.of (c1.chg hg (by simp; omega)) (c2.chg hg (by simp; omega)) (c3.chg hg (by simp; omega)) hVW.po hVW.pm hVW.om
        · exact hbW.trans (hg.below (by omega) (by intro b hb; simp only [List.mem_cons, List.not_mem_nil, or_false] at hb; omega))
      clear hl1 hl2
      refine wp_region_held_drew (S := fun W => W.cell? ⟨B0, 0, none⟩ = some (.int .i64 (f : Int)) ∧ W.cell? ⟨B0, 1, none⟩ = some (.int .i64 (r : Int)) ∧ W.cell? ⟨B0 + 1 + 1, 0, none⟩ = some (.int .i64 sf) ∧ W.cell? ⟨B0 + 1 + 1, 1, none⟩ = some (.int .i64 sr)) (by kernel_rfl) (hS9.out _ hb5.out.drew) (fun hHeld => ?_)
      refine wpAnyH_take (i := 0) (v := ?_) rfl (by kernel_rfl) (by kernel_rfl) (by kernel_rfl) (fun _ _ _ h => h) (Or.inl ⟨by rfl, ?_⟩) hHeld ?_
      rotate_left
      · intro W9 hSw; (try dsimp only at hSw); go_simp; (try with_reducible rfl)
      simp only [Act.put, List.getElem_toArray, List.getElem_cons_zero, List.getElem_cons_succ, List.setIfInBounds_toArray, List.set_cons_zero, List.set_cons_succ]
      refine wpAnyH_take (i := 1) (v := ?_) rfl (by kernel_rfl) (by kernel_rfl) (by kernel_rfl) (fun _ _ _ h => h) (Or.inl ⟨by rfl, ?_⟩) hHeld ?_
      rotate_left
      · intro W9 hSw; (try dsimp only at hSw); go_simp; (try with_reducible rfl)
      simp only [Act.put, List.getElem_toArray, List.getElem_cons_zero, List.getElem_cons_succ, List.setIfInBounds_toArray, List.set_cons_zero, List.set_cons_succ]
      refine wpAnyH_take (i := 2) (v := ?_) rfl (by kernel_rfl) (by kernel_rfl) (by kernel_rfl) (fun _ _ _ h => h) (Or.inl ⟨by rfl, ?_⟩) hHeld ?_
      rotate_left
      · intro W9 hSw; (try dsimp only at hSw); go_simp; (try with_reducible rfl)
      simp only [Act.put, List.getElem_toArray, List.getElem_cons_zero, List.getElem_cons_succ, List.setIfInBounds_toArray, List.set_cons_zero, List.set_cons_succ]
      refine wpAnyH_take (i := 3) (v := ?_) rfl (by kernel_rfl) (by kernel_rfl) (by kernel_rfl) (fun _ _ _ h => h) (Or.inl ⟨by rfl, ?_⟩) hHeld ?_
      rotate_left
      · intro W9 hSw; (try dsimp only at hSw); go_simp; (try with_reducible rfl)
      simp only [Act.put, List.getElem_toArray, List.getElem_cons_zero, List.getElem_cons_succ, List.setIfInBounds_toArray, List.set_cons_zero, List.set_cons_succ]
      refine wpAnyH_take (i := 5) (v := ?_) rfl (by kernel_rfl) (by kernel_rfl) (by kernel_rfl) (fun _ _ _ h => h) (Or.inl ⟨by rfl, ?_⟩) hHeld ?_
      rotate_left
      · intro W9 hSw; (try dsimp only at hSw); go_simp; (try with_reducible rfl)
      simp only [Act.put, List.getElem_toArray, List.getElem_cons_zero, List.getElem_cons_succ, List.setIfInBounds_toArray, List.set_cons_zero, List.set_cons_succ]
      refine wpAnyH_ready (rs := [4]) (by kernel_rfl) (by simp) ?_
      refine AllReadyH.cons rfl (fun K hK => ?_) AllReadyH.nil
      go_simp
      go_at_call 68
      refine (hleg.out _).mono ?_
      rintro e w3 ⟨rfl, hb⟩
      have hb6 := Lib.hid (undrew hb)
      clear hb
      refine hK.out _ _ (hS9.out _ (hb5.out.trans (hb6.out.mono hBOw))) (fun hHeld2 => ?_)
      clear hK K hHeld
      have hHeld := hHeld2
      clear hHeld2
      refine wpAnyH_ready (rs := [6]) (by kernel_rfl) (by simp) ?_
      refine AllReadyH.cons rfl (fun K hK => ?_) AllReadyH.nil
      go_simp
      go_at_call 67
      refine (hwk.out _ hb6.out).mono ?_
      rintro e w4 ⟨rfl, hcf, hV4, hb7⟩
      refine hK.out _ _ (hS9.out _ hb7.out) (fun hHeld2 => ?_)
      clear hK K hHeld
      have hHeld := hHeld2
      clear hHeld2
      refine wpAnyH_done (by kernel_rfl) ?_ _
      clear hHeld hS9 hleg hwk hb6
      have cf := hcf.out
      cases fr
      · have hFe := hF0.out rfl
        subst hFe
        have hfe : Hid (Below w.heap.size w w4) := hb1.out.trans ((hbu.out w4 hb7.out).2.2.2.mono hb1.out.size)
        go_wp2_with fail
        go_ret
        exact ⟨rfl, by decide, hfe.out⟩
      · have q3 : (x.kind == 3) = false := by rw [beq_eq_false_iff_ne]; have := hkH.out; omega
        have q4 : (x.kind == 4) = false := by rw [beq_eq_false_iff_ne]; have := hkH.out; omega
        obtain ⟨⟨x0, x1, x2, _⟩, ⟨s0, s1, _⟩, _, hbu4⟩ := hbu.out w4 hb7.out
        have hc := Lib.hid (hgo.out w4 0 1 hV4.out hbu4 hb7.out.size (.inr ⟨rfl, 1, .inl ⟨by decide, by decide, rfl⟩, hF1.out rfl⟩))
        clear hbu4
        go_wp2_with (go_at_call 67; refine hc.out.mono ?_; rintro e w5 ⟨rfl, hF3, hb3⟩; obtain ⟨oc, ho⟩ := hfin.out w5 hF3)
        go_ret
        exact ⟨rfl, ho.out, hb3.out⟩
end Go.Proofs.YtbcdimklblpdnaaDoor
