/- Layer 27: equal atoms, equal steps, equal fairy pieces. -/
import Derived.Test.YtbcdimklblpdnaaDoorYa
import Derived.Laws.StructEq
namespace Go.Proofs.YtbcdimklblpdnaaDoor
open Go Go.RowKit
set_option linter.unusedSimpArgs false
set_option linter.unusedVariables false
/-- a step -/
structure St where
  files : Int
  ranks : Int
  deriving DecidableEq
instance : Inhabited St := ⟨⟨0, 0⟩⟩
abbrev sV (x : St) : Value := .agg #[.int .i64 x.files, .int .i64 x.ranks]
def sEnc (x : St) : List Value := [.int .i64 x.files, .int .i64 x.ranks]
theorem sEnc_len (x : St) : (sEnc x).length = 2 := rfl
theorem sEnc_one (x : St) : ∀ u ∈ sEnc x, u.oneCell' = true := by
  intro u hu
  simp only [sEnc, List.mem_cons, List.not_mem_nil, or_false] at hu
  rcases hu with rfl | rfl <;> rfl
theorem stepRow : RowOf Tryd.prog 33 43 2 16 :=
  RowOf.mk' (z := .agg #[.int .i64 0, .int .i64 0]) Tryd.underlying33 (by kernel_rfl) (by decide) (by decide) rfl
theorem take_step {α : Type} {l : List α} {k : Nat} {x : α} (h : l[k]? = some x) : l.take (k + 1) = l.take k ++ [x] := by rw [List.take_add_one, h]; rfl
theorem eq_at {α : Type} {l m : List α} {k : Nat} {x y : α} (hx : l[k]? = some x) (hy : m[k]? = some y) (h : x ≠ y) : l ≠ m := fun e => by
  rw [e, hy] at hx
  exact h (Option.some.inj hx).symm
theorem recs_next {α : Type} {f : α → List Value} {size : Nat} {w w' : World} {A : Option Addr} {l : List α} (h : RecAt f size w w.heap.size A l) (hb : Below w.heap.size w w') : RecAt f size w' w'.heap.size A l := fun h0 => by
  obtain ⟨b, off, e, hlt, hc⟩ := h h0
  exact ⟨b, off, e, Nat.lt_of_lt_of_le hlt hb.size, fun k x hx j u hu => (hb.cell (p := ⟨b, _, none⟩) hlt).trans (hc k x hx j u hu)⟩
/-- the cells of one -/
structure atoms6 (w : World) (b o : Nat) (x : At) : Prop where
  e0 : w.cell? ⟨b, o, none⟩ = some (.int .i64 x.kind)
  e1 : w.cell? ⟨b, o + 1, none⟩ = some (.int .i64 x.short)
  e2 : w.cell? ⟨b, o + 2, none⟩ = some (.int .i64 x.long)
  e3 : w.cell? ⟨b, o + 3, none⟩ = some (.int .i64 x.most)
  e4 : w.cell? ⟨b, o + 4, none⟩ = some (.int .i64 x.mode)
  e5 : w.cell? ⟨b, o + 5, none⟩ = some (.int .i64 x.way)
theorem atoms6.next {w w' : World} {b o : Nat} {x : At} (h : atoms6 w b o x) (hb : b < w.heap.size) (hB : Below w.heap.size w w') : atoms6 w' b o x :=
  ⟨(hB.cell (p := ⟨b, _, none⟩) hb).trans h.e0, (hB.cell (p := ⟨b, _, none⟩) hb).trans h.e1, (hB.cell (p := ⟨b, _, none⟩) hb).trans h.e2, (hB.cell (p := ⟨b, _, none⟩) hb).trans h.e3, (hB.cell (p := ⟨b, _, none⟩) hb).trans h.e4, (hB.cell (p := ⟨b, _, none⟩) hb).trans h.e5⟩
theorem atoms6_of {w : World} {B : Nat} {A : Option Addr} {l : List At} (h : RecAt aEnc 6 w B A l) {k : Nat} {x : At} (hx : l[k]? = some x) : ∃ b off, A = some ⟨b, off, none⟩ ∧ b < B ∧ atoms6 w b (off + k * 6) x := by
  obtain ⟨b, off, e, hb, hc⟩ := h (by have := (List.getElem?_eq_some_iff.1 hx).1; omega)
  exact ⟨b, off, e, hb, ⟨hc k x hx 0 _ rfl, hc k x hx 1 _ rfl, hc k x hx 2 _ rfl, hc k x hx 3 _ rfl, hc k x hx 4 _ rfl, hc k x hx 5 _ rfl⟩⟩
def atE (x y : At) : Bool := decide (x = y)
theorem atE_yes {x y : At} (h : x = y) : atE x y = true := decide_eq_true h
theorem atE_no {x y : At} (h : x ≠ y) : atE x y = false := decide_eq_false h
theorem eqIn_atE (d : Nat) (x y : At) (w : World) : (Op.equalIn (d + 2) 40 (aV x) (aV y)).run Tryd.prog w = .ok (atE x y) w := by
  have u0 := Tryd.underlying3
  have a0 := Tryd.isAgg3
  have z0 := Tryd.sizeOf3
  have u1 := Tryd.underlying36
  have a1 := Tryd.isAgg36
  have z1 := Tryd.sizeOf36
  have u2 := Tryd.underlying37
  have a2 := Tryd.isAgg37
  have z2 := Tryd.sizeOf37
  have u3 := Tryd.underlying38
  have a3 := Tryd.isAgg38
  have z3 := Tryd.sizeOf38
  have hS : Tryd.prog.underlying 40 = some (.struct (Tryd.prog.fieldsOf 40)) := by kernel_rfl
  have hp : Tryd.prog.stoodInHeld 40 = false := by kernel_rfl
  rw [show d + 2 = (d + 1) + 1 from rfl, run_equalIn_agg w (d + 1) 40 _ _ hS hp]
  simp only [Program.fieldsOf, Tryd.underlying40]
  unfold atE
  obtain ⟨x0, x1, x2, x3, x4, x5⟩ := x
  obtain ⟨y0, y1, y2, y3, y4, y5⟩ := y
  go_simp
  by_cases h0 : x0 = y0 <;> by_cases h1 : x1 = y1 <;> by_cases h2 : x2 = y2 <;> by_cases h3 : x3 = y3 <;> by_cases h4 : x4 = y4 <;> by_cases h5 : x5 = y5 <;> simp [h0, h1, h2, h3, h4, h5]
theorem run_neq_atE (x y : At) (w : World) : (binOp .neq 40 (aV x) (aV y)).run Tryd.prog w = .ok (.bool (!(atE x y))) w := by
  rw [run_neq_struct, show (10000 : Nat) = 9998 + 2 from rfl, eqIn_atE]
  rfl
theorem run_eql_atE (x y : At) (w : World) : (binOp .eql 40 (aV x) (aV y)).run Tryd.prog w = .ok (.bool (atE x y)) w := by
  rw [run_eql_struct, show (10000 : Nat) = 9998 + 2 from rfl, eqIn_atE]
  rfl
/-- the cells of one -/
structure steps2 (w : World) (b o : Nat) (x : St) : Prop where
  e0 : w.cell? ⟨b, o, none⟩ = some (.int .i64 x.files)
  e1 : w.cell? ⟨b, o + 1, none⟩ = some (.int .i64 x.ranks)
theorem steps2.next {w w' : World} {b o : Nat} {x : St} (h : steps2 w b o x) (hb : b < w.heap.size) (hB : Below w.heap.size w w') : steps2 w' b o x :=
  ⟨(hB.cell (p := ⟨b, _, none⟩) hb).trans h.e0, (hB.cell (p := ⟨b, _, none⟩) hb).trans h.e1⟩
theorem steps2_of {w : World} {B : Nat} {A : Option Addr} {l : List St} (h : RecAt sEnc 2 w B A l) {k : Nat} {x : St} (hx : l[k]? = some x) : ∃ b off, A = some ⟨b, off, none⟩ ∧ b < B ∧ steps2 w b (off + k * 2) x := by
  obtain ⟨b, off, e, hb, hc⟩ := h (by have := (List.getElem?_eq_some_iff.1 hx).1; omega)
  exact ⟨b, off, e, hb, ⟨hc k x hx 0 _ rfl, hc k x hx 1 _ rfl⟩⟩
def stE (x y : St) : Bool := decide (x = y)
theorem stE_yes {x y : St} (h : x = y) : stE x y = true := decide_eq_true h
theorem stE_no {x y : St} (h : x ≠ y) : stE x y = false := decide_eq_false h
theorem eqIn_stE (d : Nat) (x y : St) (w : World) : (Op.equalIn (d + 2) 43 (sV x) (sV y)).run Tryd.prog w = .ok (stE x y) w := by
  have u0 := Tryd.underlying3
  have a0 := Tryd.isAgg3
  have z0 := Tryd.sizeOf3
  have hS : Tryd.prog.underlying 43 = some (.struct (Tryd.prog.fieldsOf 43)) := by kernel_rfl
  have hp : Tryd.prog.stoodInHeld 43 = false := by kernel_rfl
  rw [show d + 2 = (d + 1) + 1 from rfl, run_equalIn_agg w (d + 1) 43 _ _ hS hp]
  simp only [Program.fieldsOf, Tryd.underlying43]
  unfold stE
  obtain ⟨x0, x1⟩ := x
  obtain ⟨y0, y1⟩ := y
  go_simp
  by_cases h0 : x0 = y0 <;> by_cases h1 : x1 = y1 <;> simp [h0, h1]
theorem run_neq_stE (x y : St) (w : World) : (binOp .neq 43 (sV x) (sV y)).run Tryd.prog w = .ok (.bool (!(stE x y))) w := by
  rw [run_neq_struct, show (10000 : Nat) = 9998 + 2 from rfl, eqIn_stE]
  rfl
theorem run_eql_stE (x y : St) (w : World) : (binOp .eql 43 (sV x) (sV y)).run Tryd.prog w = .ok (.bool (stE x y)) w := by
  rw [run_eql_struct, show (10000 : Nat) = 9998 + 2 from rfl, eqIn_stE]
  rfl
set_option maxRecDepth 100000 in
set_option maxHeartbeats 2000000 in
theorem rsame (A1 A2 : Option Addr) (c1 c2 : Nat) (l m : List St) (w : World) (h1 : RecAt sEnc 2 w w.heap.size A1 l) (h2 : RecAt sEnc 2 w w.heap.size A2 m) (hl : l.length ≤ 100000) (hm : m.length ≤ 100000) :
    Calls Tryd.prog 10 #[.slice A1 l.length c1, .slice A2 m.length c2] w fun e w' => e = .returned (.bool (decide (l = m))) ∧ Below w.heap.size w w' := by
  by_cases hlm : l.length = m.length
  rotate_left
  · have hlmB : ((l.length : Int) != (m.length : Int)) = true := by rw [bne_iff_ne]; omega
    have hfin : Hid (decide (l = m) = false) := decide_eq_false fun h => hlm (by rw [h])
    clear h1 h2 hlm
    go_enter Tryd.func10, Tryd.ntmps10
    go_wp2_with fail
    go_ret
    exact ⟨rb hfin.out.symm, Below.refl _ _⟩
  have h1H := Lib.hid h1
  have h2H := Lib.hid h2
  have hlmB : ((l.length : Int) != (m.length : Int)) = false := by rw [bne_eq_false_iff_eq]; omega
  have hlmH := Lib.hid hlm
  clear h1 h2 hlm
  go_enter Tryd.func10, Tryd.ntmps10
  go_wp2_with fail
  clear hlmB
  go_loopw [5] (fun s wr => ∃ k : Nat, k ≤ l.length ∧ s = .int .i64 k ∧ Hid (l.take k = m.take k) ∧ Hid (Below w.heap.size w wr)) (fun s _ => l.length - (intOf s).toNat)
  case atStart => exact ⟨0, Nat.zero_le _, rfl, rfl, Below.refl _ _⟩
  case round =>
    obtain ⟨k, hk, rfl, htk, hbr⟩ := hrel
    have hk0 : (0 : Int) ≤ (k : Int) := Int.natCast_nonneg _
    by_cases hkn : k < l.length
    · obtain ⟨x, hx⟩ : ∃ x, l[k]? = some x := ⟨_, List.getElem?_eq_getElem hkn⟩
      obtain ⟨y, hy⟩ : ∃ y, m[k]? = some y := ⟨_, List.getElem?_eq_getElem (by rw [← hlmH.out]; exact hkn)⟩
      obtain ⟨b1, o1, rfl, hb1, e⟩ := steps2_of h1H.out hx
      obtain ⟨b2, o2, rfl, hb2, f⟩ := steps2_of h2H.out hy
      have hkI : (k : Int) < (l.length : Int) := by omega
      have hkM : (k : Int) < (m.length : Int) := by have := hlmH.out; omega
      have htx := Lib.hid (take_step hx)
      have hty := Lib.hid (take_step hy)
      have hneq := Lib.hid (fun h => eq_at hx hy h)
      obtain ⟨e0, e1⟩ := e.next hb1 hbr.out
      obtain ⟨f0, f1⟩ := f.next hb2 hbr.out
      have heq := fun w => run_neq_stE x y w
      clear e f hx hy
      by_cases hxy : x = y
      · have hE := stE_yes hxy
        have hnx : Hid (l.take (k + 1) = m.take (k + 1)) := by show _ = _; rw [htx.out, hty.out, htk.out, hxy]
        replace hxy := Lib.hid hxy
        go_upto_region 6 with fail
        go_quiet (fail)
        go_wp2_with fail
        go_roundw
        case rel => exact ⟨k + 1, by omega, by go_num, hnx, below_drewN hbr.out _⟩
        case measure => simp [intOf]; omega
      · have hE := stE_no hxy
        have hfin : Hid (decide (l = m) = false) := decide_eq_false (hneq.out hxy)
        replace hxy := Lib.hid hxy
        go_upto_region 6 with fail
        go_quiet (fail)
        go_wp2_with fail
        go_ret
        exact ⟨rb hfin.out.symm, below_drewN hbr.out _⟩
    · obtain rfl : k = l.length := by omega
      have hfin : Hid (decide (l = m) = true) := decide_eq_true (by
        have := htk.out
        rw [List.take_length, hlmH.out, List.take_length] at this
        exact this)
      go_wp2_with fail
      go_ret
      exact ⟨rb hfin.out.symm, hbr.out⟩
end Go.Proofs.YtbcdimklblpdnaaDoor
