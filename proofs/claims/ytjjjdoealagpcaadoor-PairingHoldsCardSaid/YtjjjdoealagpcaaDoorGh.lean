/- Layer 43: sets of pairs of numbers in a map of the call's own. -/
import Derived.Test.YtjjjdoealagpcaaDoorGa
import Derived.Maps.OwnSet
import Derived.Maps.OwnOps
import Derived.Maps.RangeWalk
import Derived.DeepKeys4
namespace Go.Proofs.YtjjjdoealagpcaaDoor
open Go Go.RowKit Go.Maps
set_option linter.unusedSimpArgs false
set_option linter.unusedVariables false

theorem laidOut : laidOutB Tryd.prog = true := by kernel_rfl
abbrev prV (m : Int × Int) : Value := .agg #[.int .i64 m.1, .int .i64 m.2]
theorem prLaw : Keyed Tryd.prog 62 := Keyed.of_law (deep_law_laid laidOut (m := 10) (by decide) (by decide +kernel) (by kernel_rfl) (by kernel_rfl))
/-- the pair's numbers lie in their kind -/
def wfP (m : Int × Int) : Prop := (Lit.int .i64 m.1).wf = true ∧ (Lit.int .i64 m.2).wf = true
theorem prKey {m : Int × Int} (h : wfP m) : ∃ kl, keyOf Tryd.prog 62 (prV m) = some kl := by
  obtain ⟨h1, h2⟩ := h
  have h3s : 3 ≤ Tryd.prog.types.size := by decide +kernel
  obtain ⟨n, hs⟩ : ∃ n, Tryd.prog.types.size = n + 3 := ⟨Tryd.prog.types.size - 3, by omega⟩
  have hk : Tryd.prog.keyType 62 = true := by kernel_rfl
  have hc : Tryd.prog.cellsOf 62 = 2 := by kernel_rfl
  have hc1 : Tryd.prog.cellsOf 3 = 1 := by kernel_rfl
  have hfm : Value.formed Tryd.prog 62 (prV m) = true := by
    unfold Value.formed prV
    simp only [Tryd.underlying62, hc]
    rfl
  unfold keyOf
  rw [Tryd.underlying62]
  simp only [hk, hfm, Bool.true_and, if_true, hs]
  simp [Program.keyLits, Tryd.underlying62, Tryd.underlying3, hc, hc1, prV, Value.cells, h1, h2, List.range, List.range.loop]
theorem kl_int {d : Nat} {v : Value} {l : List Lit} (h : Tryd.prog.keyLits (d + 1) 3 [v] = some l) : ∃ n, v = .int .i64 n := by
  simp only [Program.keyLits, Tryd.underlying3] at h
  cases v <;> simp at h
  obtain ⟨⟨rfl, _⟩, _⟩ := h
  exact ⟨_, rfl⟩
theorem kl_pair (d : Nat) (a b : Value) : Tryd.prog.keyLits (d + 1) 62 [a, b] = ((Tryd.prog.keyLits d 3 [a]).bind fun x => (Tryd.prog.keyLits d 3 [b]).bind fun y => some [x, y]).map List.flatten := by
  have hc : Tryd.prog.cellsOf 62 = 2 := by kernel_rfl
  have hc1 : Tryd.prog.cellsOf 3 = 1 := by kernel_rfl
  conv => lhs; unfold Program.keyLits
  simp only [Tryd.underlying62, hc, hc1, List.length_cons, List.length_nil, List.range, List.range.loop, List.mapM_cons, List.mapM_nil, Nat.zero_mul, Nat.one_mul, List.drop_zero, List.drop_succ_cons, List.take_succ_cons, List.take_zero]
  rw [if_pos trivial]
  cases Tryd.prog.keyLits d 3 [a] with
  | none => rfl
  | some x => cases Tryd.prog.keyLits d 3 [b] <;> rfl
theorem prKey_inv {v : Value} {kl : Lit} (h : keyOf Tryd.prog 62 v = some kl) : ∃ p : Int × Int, v = prV p := by
  have h3s : 3 ≤ Tryd.prog.types.size := by decide +kernel
  obtain ⟨n, hs⟩ : ∃ n, Tryd.prog.types.size = n + 3 := ⟨Tryd.prog.types.size - 3, by omega⟩
  have hc : Tryd.prog.cellsOf 62 = 2 := by kernel_rfl
  have hc1 : Tryd.prog.cellsOf 3 = 1 := by kernel_rfl
  unfold keyOf at h
  rw [Tryd.underlying62] at h
  dsimp only at h
  split at h
  · rename_i hh
    rw [Bool.and_eq_true] at hh
    have hf := hh.2
    unfold Value.formed at hf
    rw [Tryd.underlying62] at hf
    cases v with
    | agg cs =>
      have hsz : cs.size = 2 := by simpa [hc] using hf
      obtain ⟨a, b, rfl⟩ : ∃ a b, cs = #[a, b] := by
        refine ⟨cs[0], cs[1], ?_⟩
        apply Array.ext
        · simpa using hsz
        · intro i h1 h2
          have : i = 0 ∨ i = 1 := by omega
          rcases this with rfl | rfl <;> rfl
      rw [hs] at h
      rw [show (Value.agg #[a, b]).cells.toList = [a, b] from rfl, kl_pair] at h
      cases hA : Tryd.prog.keyLits (n + 3) 3 [a] with
      | none => simp [hA] at h
      | some la =>
        cases hB : Tryd.prog.keyLits (n + 3) 3 [b] with
        | none => simp [hA, hB] at h
        | some lb =>
          obtain ⟨x, rfl⟩ := kl_int hA
          obtain ⟨y, rfl⟩ := kl_int hB
          exact ⟨(x, y), rfl⟩
    | _ => simp at hf
  · cases h
theorem prV_inj {m m' : Int × Int} (h : prV m = prV m') : m = m' := by
  obtain ⟨a, b⟩ := m
  obtain ⟨a', b'⟩ := m'
  simp [prV] at h
  obtain ⟨h1, h2⟩ := h
  rw [h1, h2]
theorem zeroB (w : World) : (zeroValue 4).run Tryd.prog w = .ok (.bool false) w := by kernel_rfl
theorem plainBool (x : Bool) : plainElem (H := Unit) Tryd.prog 4 (.bool x) = some (.lit (.bool x), []) := plainElem_bool Tryd.underlying4 x
theorem plain_bool_inv {P : Program} {e : TypeId} (he : P.underlying e = some .bool) {v : Value} {z : DataW Unit × List MemPlace} (h : plainElem P e v = some z) : ∃ x, v = .bool x ∧ z = (.lit (.bool x), []) := by
  unfold plainElem at h
  rw [he] at h
  cases v <;> simp at h
  exact ⟨_, rfl, h.symm⟩
/-- what a map reads as that holds 'true' at some pairs and nothing else -/
def SetD (D : DataW Unit) (ms : List (Int × Int)) : Prop := Maps.IsMap D ∧ ∀ m kl zd, keyOf Tryd.prog 62 (prV m) = some kl → D.atKey kl zd = if m ∈ ms then .lit (.bool true) else zd
/-- block b is a map that holds 'true' at some pairs and nothing else -/
def PSet (w : World) (b n : Nat) (ms : List (Int × Int)) : Prop :=
  ∃ D : DataW Unit, w.ownsMap Tryd.prog 62 (plainElem Tryd.prog 4) b n D ∧ SetD D ms
section
variable {w w' : World} {b n : Nat} {ms : List (Int × Int)}
theorem PSet.made (w : World) : PSet (w.alloc (.map #[] 0)) w.heap.size 0 [] :=
  ⟨.map [], World.ownsMap_made _ _ _ _, Maps.isMap_empty, fun m kl zd _ => by simp; rfl⟩
theorem PSet.mono (h : PSet w b n ms) {n' : Nat} (hn : n ≤ n') : PSet w b n' ms := by
  obtain ⟨D, h1, h2⟩ := h
  exact ⟨D, h1.mono hn, h2⟩
theorem PSet.lt (h : PSet w b n ms) : b < w.heap.size := by
  obtain ⟨D, h1, _⟩ := h
  exact h1.lt
/-- the map's block is as it was -/
theorem PSet.of_block (h : PSet w b n ms) (hb : w'.heap[b]? = w.heap[b]?) : PSet w' b n ms := by
  obtain ⟨D, ⟨es, clock, h1, h2⟩, h3⟩ := h
  exact ⟨D, ⟨es, clock, hb.trans h1, h2⟩, h3⟩
theorem PSet.next (h : PSet w b n ms) (hb : Below w.heap.size w w') : PSet w' b n ms := h.of_block (hb.block b h.lt)
theorem PSet.lookup (h : PSet w b n ms) {m : Int × Int} (hw : wfP m) : (Instr.lookup 60 (.map (some b)) (prV m) false).run Tryd.prog w = .ok (.bool (decide (m ∈ ms))) w := by
  obtain ⟨D, h1, _, h2⟩ := h
  obtain ⟨kl, hk⟩ := prKey hw
  obtain ⟨v, ps, hr, hv⟩ := h1.lookup prLaw Tryd.underlying60 (zeroB w) (plainBool false) hk
  rw [h2 m kl _ hk] at hv
  obtain ⟨x, rfl, hx⟩ := plain_bool_inv Tryd.underlying4 hv
  by_cases hm : m ∈ ms
  · rw [if_pos hm] at hx
    simp at hx
    rw [hr, hx.1, decide_eq_true hm]
  · rw [if_neg hm] at hx
    simp at hx
    rw [hr, hx.1, decide_eq_false hm]
theorem PSet.update (h : PSet w b n ms) {m : Int × Int} (hw : wfP m) (hn : n < maxLen) : ∃ w', (Instr.mapUpdate 60 (.map (some b)) (prV m) (.bool true)).run Tryd.prog w = .ok () w' ∧ PSet w' b (n + 1) (m :: ms) ∧ w.grownBy w' (some b) := by
  obtain ⟨D, h1, him, h2⟩ := h
  obtain ⟨kl, hk⟩ := prKey hw
  obtain ⟨w', hr, h3, h4⟩ := h1.update prLaw Tryd.underlying60 hn hk (plainBool true)
  refine ⟨w', hr, ⟨_, h3, him.put _ _, fun m' kl' zd hk' => ?_⟩, h4⟩
  by_cases e : m' = m
  · subst e
    obtain rfl : kl' = kl := Option.some.inj (hk'.symm.trans hk)
    rw [Maps.atKey_put_same him (prLaw.key hk)]
    simp
  · have hne : kl' ≠ kl := fun e2 => e (prV_inj (prLaw.inj hk' (e2 ▸ hk)))
    rw [Maps.atKey_put_other hne, h2 m' kl' zd hk']
    simp [e]
/-- a key that comes up is one of the pairs -/
theorem SetD.mem {D : DataW Unit} (h : SetD D ms) {m : Int × Int} {kl : Lit} {c : Bool} {y : DataW Unit × List MemPlace} (hk : keyOf Tryd.prog 62 (prV m) = some kl) (hy : plainElem Tryd.prog 4 (.bool c) = some y) (hat : ∀ zd, D.atKey kl zd = y.1) : m ∈ ms := by
  by_cases hm : m ∈ ms
  · exact hm
  · rw [plainBool c] at hy
    obtain rfl := Option.some.inj hy
    have h1 := hat (.lit (.bool (!c)))
    rw [h.2 m kl _ hk, if_neg hm] at h1
    simp at h1
end
end Go.Proofs.YtjjjdoealagpcaaDoor
