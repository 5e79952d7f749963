/- Layer 27: sets of atoms in maps; Valid of the program; Equal of both. -/
import Derived.Test.YtbcdimklblpdnaaDoorYc
import Derived.Maps.OwnSet
import Derived.Maps.OwnOps
import Derived.DeepKeys4
namespace Go.Proofs.YtbcdimklblpdnaaDoor
open Go Go.RowKit Go.Maps
set_option linter.unusedSimpArgs false
set_option linter.unusedVariables false
theorem laidOut : laidOutB Tryd.prog = true := by kernel_rfl
theorem atLaw : Keyed Tryd.prog 40 := Keyed.of_law (deep_law_laid laidOut (m := 10) (by decide) (by decide +kernel) (by kernel_rfl) (by kernel_rfl))
/-- the atom's numbers lie in their kinds -/
def wfA (x : At) : Prop := (Lit.int .i64 x.kind).wf = true ∧ (Lit.int .i64 x.short).wf = true ∧ (Lit.int .i64 x.long).wf = true ∧ (Lit.int .i64 x.most).wf = true ∧ (Lit.int .i64 x.mode).wf = true ∧ (Lit.int .i64 x.way).wf = true
theorem atKey2 {x : At} (h : wfA x) : ∃ kl, keyOf Tryd.prog 40 (aV x) = some kl := by
  obtain ⟨h1, h2, h3, h4, h5, h6⟩ := h
  have h3s : 3 ≤ Tryd.prog.types.size := by decide +kernel
  obtain ⟨n, hs⟩ : ∃ n, Tryd.prog.types.size = n + 3 := ⟨Tryd.prog.types.size - 3, by omega⟩
  have hk : Tryd.prog.keyType 40 = true := by kernel_rfl
  have hc : Tryd.prog.cellsOf 40 = 6 := by kernel_rfl
  have hc0 : Tryd.prog.cellsOf 3 = 1 := by kernel_rfl
  have hc1 : Tryd.prog.cellsOf 36 = 1 := by kernel_rfl
  have hc2 : Tryd.prog.cellsOf 37 = 1 := by kernel_rfl
  have hc3 : Tryd.prog.cellsOf 38 = 1 := by kernel_rfl
  have hfm : Value.formed Tryd.prog 40 (aV x) = true := by
    unfold Value.formed aV
    simp only [Tryd.underlying40, hc]
    rfl
  unfold keyOf
  rw [Tryd.underlying40]
  simp only [hk, hfm, Bool.true_and, if_true, hs]
  simp [Program.keyLits, Tryd.underlying40, Tryd.underlying3, Tryd.underlying36, Tryd.underlying37, Tryd.underlying38, hc, hc0, hc1, hc2, hc3, aV, Value.cells, h1, h2, h3, h4, h5, h6]
theorem aV_inj {x y : At} (h : aV x = aV y) : x = y := by
  obtain ⟨a, b, c, d, e, f⟩ := x
  obtain ⟨a', b', c', d', e', f'⟩ := y
  simp [aV] at h
  obtain ⟨h1, h2, h3, h4, h5, h6⟩ := h
  rw [h1, h2, h3, h4, h5, h6]
theorem zeroB (w : World) : (zeroValue 4).run Tryd.prog w = .ok (.bool false) w := by kernel_rfl
theorem plainBool (x : Bool) : plainElem (H := Unit) Tryd.prog 4 (.bool x) = some (.lit (.bool x), []) := plainElem_bool Tryd.underlying4 x
theorem plain_bool_inv {P : Program} {e : TypeId} (he : P.underlying e = some .bool) {v : Value} {z : DataW Unit × List MemPlace} (h : plainElem P e v = some z) : ∃ x, v = .bool x ∧ z = (.lit (.bool x), []) := by
  unfold plainElem at h
  rw [he] at h
  cases v <;> simp at h
  exact ⟨_, rfl, h.symm⟩
/-- block b is a map that holds 'true' at some atoms and nothing else -/
def ASet (w : World) (b n : Nat) (ms : List At) : Prop :=
  ∃ D : DataW Unit, w.ownsMap Tryd.prog 40 (plainElem Tryd.prog 4) b n D ∧ Maps.IsMap D ∧ ∀ m kl, keyOf Tryd.prog 40 (aV m) = some kl → D.atKey kl (.lit (.bool false)) = .lit (.bool (decide (m ∈ ms)))
section
variable {w w' : World} {b n : Nat} {ms : List At}
theorem ASet.made (w : World) : ASet (w.alloc (.map #[] 0)) w.heap.size 0 [] :=
  ⟨.map [], World.ownsMap_made _ _ _ _, Maps.isMap_empty, fun m kl _ => by simp; rfl⟩
theorem ASet.mono (h : ASet w b n ms) {n' : Nat} (hn : n ≤ n') : ASet w b n' ms := by
  obtain ⟨D, h1, h2⟩ := h
  exact ⟨D, h1.mono hn, h2⟩
theorem ASet.lt (h : ASet w b n ms) : b < w.heap.size := by
  obtain ⟨D, h1, _⟩ := h
  exact h1.lt
theorem ASet.of_block (h : ASet w b n ms) (hb : w'.heap[b]? = w.heap[b]?) : ASet w' b n ms := by
  obtain ⟨D, ⟨es, clock, h1, h2⟩, h3⟩ := h
  exact ⟨D, ⟨es, clock, hb.trans h1, h2⟩, h3⟩
theorem ASet.lookup (h : ASet w b n ms) {m : At} (hw : wfA m) : (Instr.lookup 97 (.map (some b)) (aV m) false).run Tryd.prog w = .ok (.bool (decide (m ∈ ms))) w := by
  obtain ⟨D, h1, _, h2⟩ := h
  obtain ⟨kl, hk⟩ := atKey2 hw
  obtain ⟨v, ps, hr, hv⟩ := h1.lookup atLaw Tryd.underlying97 (zeroB w) (plainBool false) hk
  rw [h2 m kl hk] at hv
  obtain ⟨x, rfl, hx⟩ := plain_bool_inv Tryd.underlying4 hv
  simp at hx
  rw [hr, hx.1]
theorem ASet.update (h : ASet w b n ms) {m : At} (hw : wfA m) (hn : n < maxLen) : ∃ w', (Instr.mapUpdate 97 (.map (some b)) (aV m) (.bool true)).run Tryd.prog w = .ok () w' ∧ ASet w' b (n + 1) (m :: ms) ∧ w.grownBy w' (some b) := by
  obtain ⟨D, h1, him, h2⟩ := h
  obtain ⟨kl, hk⟩ := atKey2 hw
  obtain ⟨w', hr, h3, h4⟩ := h1.update atLaw Tryd.underlying97 hn hk (plainBool true)
  refine ⟨w', hr, ⟨_, h3, him.put _ _, fun m' kl' hk' => ?_⟩, h4⟩
  by_cases e : m' = m
  · subst e
    obtain rfl : kl' = kl := Option.some.inj (hk'.symm.trans hk)
    rw [Maps.atKey_put_same him (atLaw.key hk)]
    simp
  · have hne : kl' ≠ kl := fun e2 => e (aV_inj (atLaw.inj hk' (e2 ▸ hk)))
    rw [Maps.atKey_put_other hne, h2 m' kl' hk']
    simp [e]
end
/-- equal fairy pieces -/
def eqFy (s : ByteArray) (l : List At) (s' : ByteArray) (m : List At) : Bool := (s.toList == s'.toList) && decide (l = m)
set_option maxRecDepth 100000 in
set_option maxHeartbeats 4000000 in
theorem requal (s s' : ByteArray) (A A' : Option Addr) (l m : List At) (c c' : Nat) (w : World) (h1 : RecAt aEnc 6 w w.heap.size A l) (h2 : RecAt aEnc 6 w w.heap.size A' m) (hl : l.length ≤ 100000) (hm : m.length ≤ 100000) :
    Calls Tryd.prog 7 #[.agg #[.string s, .slice A l.length c], .agg #[.string s', .slice A' m.length c']] w fun e w' => e = .returned (.bool (eqFy s l s' m)) ∧ Below w.heap.size w w' := by
  obtain ⟨hX, hY, hb1⟩ := KF.two w s s' A A' l.length m.length c c'
  replace h1 := Lib.hid (recs_next h1 hb1)
  replace h2 := Lib.hid (recs_next h2 hb1)
  replace hX := Lib.hid hX
  replace hY := Lib.hid hY
  replace hb1 := Lib.hid hb1
  go_enter Tryd.func7, Tryd.ntmps7
  go_upto_region 1 with fail
  generalize w.heap.size = B0 at hX hY ⊢
  generalize (w.alloc (.cells #[.string s, .slice A l.length c] 25)).alloc (.cells #[.string s', .slice A' m.length c'] 25) = u at *
  have x0 := hX.out.c0
  have x1 := hX.out.c1
  have y0 := hY.out.c0
  have y1 := hY.out.c1
  have hV : Hid (eqFy s l s' m = ((s.toList == s'.toList) && decide (l = m))) := rfl
  by_cases hS : (s.toList == s'.toList) = true
  rotate_left
  · have hSf : (s.toList == s'.toList) = false := by simpa using hS
    have hSn : (s.toList != s'.toList) = true := by show (!(s.toList == s'.toList)) = true; rw [hSf]; rfl
    have hSp : (s.toList = s'.toList) = False := eq_false (fun h => by rw [beq_iff_eq.2 h] at hSf; cases hSf)
    have hfin : Hid (eqFy s l s' m = false) := by rw [hV.out, hSf]; exact rfl
    clear hV hS
    go_wp2_with fail
    go_ret
    exact ⟨rb hfin.out.symm, hb1.out⟩
  have hSn : (s.toList != s'.toList) = false := by show (!(s.toList == s'.toList)) = false; rw [hS]; rfl
  have hSp : (s.toList = s'.toList) = True := eq_true (beq_iff_eq.1 hS)
  rw [hS, Bool.true_and] at hV
  by_cases hlm : l.length = m.length
  rotate_left
  · have hlmB : ((l.length : Int) != (m.length : Int)) = true := by rw [bne_iff_ne]; omega
    have hfin : Hid (eqFy s l s' m = false) := by rw [hV.out]; exact decide_eq_false fun h => hlm (by rw [h])
    clear hlm hV
    go_wp2_with fail
    go_ret
    exact ⟨rb hfin.out.symm, hb1.out⟩
  have hlmB : ((l.length : Int) != (m.length : Int)) = false := by rw [bne_eq_false_iff_eq]; omega
  have hlmH := Lib.hid hlm
  clear hlm
  go_wp2_with fail
  clear hlmB hSn hSp hS x0 x1 y0 y1
  go_loopw [5] (fun i wr => ∃ k : Nat, k ≤ l.length ∧ i = .int .i64 k ∧ Hid (l.take k = m.take k) ∧ Hid (Below u.heap.size u wr)) (fun i _ => l.length - (intOf i).toNat)
  case atStart => exact ⟨0, Nat.zero_le _, rfl, rfl, Below.refl _ _⟩
  case round =>
    obtain ⟨k, hk, rfl, htk, hbr⟩ := hrel
    have hk0 : (0 : Int) ≤ (k : Int) := Int.natCast_nonneg _
    have x1 := (hX.out.next hbr.out).c1
    have y1 := (hY.out.next hbr.out).c1
    by_cases hkn : k < l.length
    · obtain ⟨x, hx⟩ : ∃ x, l[k]? = some x := ⟨_, List.getElem?_eq_getElem hkn⟩
      obtain ⟨y, hy⟩ : ∃ y, m[k]? = some y := ⟨_, List.getElem?_eq_getElem (by rw [← hlmH.out]; exact hkn)⟩
      obtain ⟨b1, o1, rfl, hb1', e⟩ := atoms6_of h1.out hx
      obtain ⟨b2, o2, rfl, hb2', f⟩ := atoms6_of h2.out hy
      have hkI : (k : Int) < (l.length : Int) := by omega
      have hkM : (k : Int) < (m.length : Int) := by have := hlmH.out; omega
      have htx := Lib.hid (take_step hx)
      have hty := Lib.hid (take_step hy)
      have hneq := Lib.hid (fun h => eq_at hx hy h)
      obtain ⟨e0, e1, e2, e3, e4, e5⟩ := e.next hb1' hbr.out
      obtain ⟨f0, f1, f2, f3, f4, f5⟩ := f.next hb2' hbr.out
      have heq := fun w => run_neq_atE x y w
      clear e f hx hy
      by_cases hxy : x = y
      · have hE := atE_yes hxy
        have hnx : Hid (l.take (k + 1) = m.take (k + 1)) := by show _ = _; rw [htx.out, hty.out, htk.out, hxy]
        replace hxy := Lib.hid hxy
        go_upto_region 6 with fail
        go_quiet (fail)
        go_wp2_with fail
        go_roundw
        case rel => exact ⟨k + 1, by omega, by go_num, hnx, below_drewN hbr.out _⟩
        case measure => simp [intOf]; omega
      · have hE := atE_no hxy
        have hfin : Hid (eqFy s l s' m = false) := by rw [hV.out]; exact decide_eq_false (hneq.out hxy)
        replace hxy := Lib.hid hxy
        go_upto_region 6 with fail
        go_quiet (fail)
        go_wp2_with fail
        go_ret
        exact ⟨rb hfin.out.symm, hb1.out.trans ((below_drewN hbr.out _).mono hb1.out.size)⟩
    · obtain rfl : k = l.length := by omega
      have hfin : Hid (eqFy s l s' m = true) := by
        rw [hV.out]
        refine decide_eq_true ?_
        have := htk.out
        rw [List.take_length, hlmH.out, List.take_length] at this
        exact this
      go_wp2_with fail
      go_ret
      exact ⟨rb hfin.out.symm, hb1.out.trans (hbr.out.mono hb1.out.size)⟩
end Go.Proofs.YtbcdimklblpdnaaDoor
