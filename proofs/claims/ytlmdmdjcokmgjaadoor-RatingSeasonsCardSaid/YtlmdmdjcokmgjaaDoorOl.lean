/- A drawn region whose last operation waits for all the others: the others in whatever order first, then the last. No program in sight. -/
import Derived.Deep.RegionHeld3
namespace Go.Proofs.YtlmdmdjcokmgjaaDoor
open Go
set_option linter.unusedSimpArgs false
set_option linter.unusedVariables false

/-- Q, but N where all is done -/
def AtLast (Q : Exit → Act → World → Prop) (N : Act → World → Prop) : Exit → Act → World → Prop
  | .normal, a, w => N a w
  | e, a, w => Q e a w
section
variable {P : Program} {Q : Exit → Act → World → Prop} {N : Act → World → Prop} {K : Act → World → Prop}
theorem atLast_done {a : Act} {w : World} (h : N a w) : AtLast Q N .normal a w := h
theorem upon_atLast {o : Oper} {a : Act} {r : Result Next} : o.upon P a K (AtLast Q N) r = o.upon P a K Q r := by
  cases r with
  | ok n w => cases n <;> rfl
  | halt x w => cases x <;> rfl
theorem wpOp_atLast {ops ops' : Array Oper} {i : Nat} {a : Act} {w : World} (hi : ops[i]? = ops'[i]?) (hy : ∀ o j b, ops'[i]? = some o → o.guard = some (j, b) → ops[j]? = ops'[j]?) (h : wpOp P ops' (AtLast Q N) i K a w) : wpOp P ops Q i K a w := by
  unfold wpOp at *
  rw [hi]
  cases ho : ops'[i]? with
  | none => rw [ho] at h; exact h
  | some o =>
    rw [ho] at h
    have hw : Region.wanted o (yielded ops a.tmps) = Region.wanted o (yielded ops' a.tmps) := by
      unfold Region.wanted
      cases hg : o.guard with
      | none => rfl
      | some g =>
        obtain ⟨j, b⟩ := g
        show (yielded ops a.tmps j == some b) = (yielded ops' a.tmps j == some b)
        unfold yielded
        rw [hy o j b ho hg]
    show if Region.wanted o (yielded ops a.tmps) = true then _ else _
    rw [hw]
    replace h : if Region.wanted o (yielded ops' a.tmps) = true then o.wp P a w K (AtLast Q N) ∨ (o.asks P a w ∧ LetsOut (AtLast Q N)) else K (a.put o.dst undef) w := h
    split
    · rename_i hh
      rw [if_pos hh] at h
      rcases h with h | h
      · left
        unfold Oper.wp at *
        rw [upon_atLast] at h
        exact h
      · exact .inr h
    · rename_i hh
      rw [if_neg hh] at h
      exact h
/-- every edge and guard points back; the last one waits for all -/
def lastOk (md : Region.Mode) (ops : Array Oper) (last : Oper) : Bool :=
  ((List.range ops.size).all fun i => match ops[i]? with
    | some o => (o.after.toList.all fun e => decide (e.on < i)) && (match o.guard with | none => true | some (j, _) => decide (j < i))
    | none => false) &&
  (((List.range ops.size).all fun i => last.after.toList.any fun e => Region.binds md e && decide (e.on = i)) && last.after.toList.all fun e => decide (e.on < ops.size))
variable {md : Region.Mode} {ops' : Array Oper} {last : Oper}
theorem lastOk_1 (h : lastOk md ops' last = true) {i : Nat} {o : Oper} (ho : ops'[i]? = some o) : (∀ e ∈ o.after, e.on < i) ∧ ∀ j b, o.guard = some (j, b) → j < i := by
  have hi : i < ops'.size := (Array.getElem?_eq_some_iff.1 ho).1
  unfold lastOk at h
  rw [Bool.and_eq_true] at h
  have h1 := List.all_eq_true.1 h.1 i (List.mem_range.2 hi)
  rw [ho] at h1
  replace h1 : ((o.after.toList.all fun e => decide (e.on < i)) && (match o.guard with | none => true | some (j, _) => decide (j < i))) = true := h1
  rw [Bool.and_eq_true] at h1
  refine ⟨fun e he => of_decide_eq_true (List.all_eq_true.1 h1.1 e (Array.mem_toList_iff.2 he)), fun j b hg => ?_⟩
  have h2 := h1.2
  rw [hg] at h2
  exact of_decide_eq_true h2
theorem lastOk_2 (h : lastOk md ops' last = true) {i : Nat} (hi : i < ops'.size) : ∃ e ∈ last.after, Region.binds md e = true ∧ e.on = i := by
  unfold lastOk at h
  rw [Bool.and_eq_true, Bool.and_eq_true] at h
  obtain ⟨e, he, h2⟩ := List.any_eq_true.1 (List.all_eq_true.1 h.2.1 i (List.mem_range.2 hi))
  rw [Bool.and_eq_true] at h2
  exact ⟨e, Array.mem_toList_iff.1 he, h2.1, of_decide_eq_true h2.2⟩
theorem lastOk_3 (h : lastOk md ops' last = true) {e : Edge} (he : e ∈ last.after) : e.on < ops'.size := by
  unfold lastOk at h
  rw [Bool.and_eq_true, Bool.and_eq_true] at h
  exact of_decide_eq_true (List.all_eq_true.1 h.2.2 e (Array.mem_toList_iff.2 he))
theorem getD_push {l : Array Bool} {b d : Bool} {i : Nat} (h : i < l.size) : (l.push b).getD i d = l.getD i d := by
  simp only [Array.getD_eq_getD_getElem?, Array.getElem?_push_lt h, Array.getElem?_eq_getElem h]
theorem getD_push_eq {l : Array Bool} {b d : Bool} : (l.push b).getD l.size d = b := by simp [Array.getD_eq_getD_getElem?]
theorem ready_push (h : lastOk md ops' last = true) {listed : Array Bool} (hl : listed.size = ops'.size) {b : Bool} {i : Nat} (hi : i < ops'.size) : i ∈ Region.ready md (ops'.push last) (listed.push b) ↔ i ∈ Region.ready md ops' listed := by
  have hg : (ops'.push last)[i]? = ops'[i]? := by rw [Array.getElem?_push_lt hi, Array.getElem?_eq_getElem hi]
  rw [mem_ready, mem_ready, getD_push (by omega), hg]
  constructor
  · rintro ⟨h0, o, ho, he⟩
    refine ⟨h0, o, ho, fun e hm hb => ?_⟩
    have hlt := (lastOk_1 h ho).1 e hm
    have := he e hm hb
    rwa [getD_push (by omega)] at this
  · rintro ⟨h0, o, ho, he⟩
    refine ⟨h0, o, ho, fun e hm hb => ?_⟩
    have hlt := (lastOk_1 h ho).1 e hm
    rw [getD_push (by omega)]
    exact he e hm hb
/-- nothing may come up: all have come up -/
theorem all_listed (h : lastOk md ops' last = true) {listed : Array Bool} (hl : listed.size = ops'.size) (hr : Region.ready md ops' listed = []) : ∀ n i, i < n → i < ops'.size → listed.getD i false = true := by
  intro n
  induction n with
  | zero => intro i hi; omega
  | succ n ih =>
    intro i hi hs
    cases hb : listed.getD i false with
    | true => rfl
    | false =>
      have hb2 : listed.getD i true = false := by
        rw [Array.getD_eq_getD_getElem?, Array.getElem?_eq_getElem (by omega)] at hb ⊢
        exact hb
      have hm : i ∈ Region.ready md ops' listed := mem_ready.2 ⟨hb2, ops'[i], Array.getElem?_eq_getElem hs, fun e he _ => by
        have := (lastOk_1 h (Array.getElem?_eq_getElem hs)).1 e he
        exact ih e.on (by omega) (by omega)⟩
      rw [hr] at hm
      cases hm
theorem last_ready (h : lastOk md ops' last = true) {listed : Array Bool} (hl : listed.size = ops'.size) : ops'.size ∈ Region.ready md (ops'.push last) (listed.push false) ↔ ∀ i, i < ops'.size → listed.getD i false = true := by
  rw [mem_ready]
  constructor
  · rintro ⟨_, o, ho, he⟩ i hi
    rw [Array.getElem?_push_size] at ho
    obtain rfl := Option.some.inj ho
    obtain ⟨e, hm, hb, rfl⟩ := lastOk_2 h hi
    have := he e hm hb
    rwa [getD_push (by omega)] at this
  · intro ha
    refine ⟨by rw [← hl, getD_push_eq], last, Array.getElem?_push_size, fun e hm hb => ?_⟩
    have := lastOk_3 h hm
    rw [getD_push (by omega)]
    exact ha e.on this
/-- all but the last in whatever order, then the last -/
theorem wpAny_last (h : lastOk md ops' last = true) : ∀ (fuel : Nat) (listed : Array Bool) (a : Act) (w : World), listed.size = ops'.size →
    wpAny P md ops' (AtLast Q (fun a w => wpOp P (ops'.push last) Q ops'.size (fun a w => Q .normal a w) a w)) fuel listed a w → wpAny P md (ops'.push last) Q (fuel + 1) (listed.push false) a w := by
  intro fuel
  induction fuel with
  | zero =>
    intro listed a w hl hw
    exact fin hl hw.1 hw.2
  | succ fuel ih =>
    intro listed a w hl hw
    by_cases hr : Region.ready md ops' listed = []
    · exact fin hl hr (hw.1 hr)
    · obtain ⟨i0, hi0⟩ := List.exists_mem_of_ne_nil _ hr
      have hlt : ∀ {i : Nat}, i ∈ Region.ready md ops' listed → i < ops'.size := fun hi => by
        obtain ⟨_, o, ho, _⟩ := mem_ready.1 hi
        exact (Array.getElem?_eq_some_iff.1 ho).1
      refine ⟨fun h0 => ?_, fun i hi => ?_⟩
      · have := (ready_push h hl (b := false) (hlt hi0)).2 hi0
        rw [h0] at this
        cases this
      · have hi2 : i < ops'.size + 1 := by
          obtain ⟨_, o, ho, _⟩ := mem_ready.1 hi
          have := (Array.getElem?_eq_some_iff.1 ho).1
          rwa [Array.size_push] at this
        by_cases hin : i = ops'.size
        · subst hin
          have hall := (last_ready h hl).1 hi
          have h1 := (mem_ready.1 hi0).1
          have h2 := hall i0 (hlt hi0)
          rw [Array.getD_eq_getD_getElem?, Array.getElem?_eq_getElem (by have := hlt hi0; omega)] at h1 h2
          simp only [Option.getD_some] at h1 h2
          rw [h1] at h2
          cases h2
        · have hi3 : i < ops'.size := by omega
          have h1 := hw.2 i ((ready_push h hl hi3).1 hi)
          have h2 := wpOp_atLast (ops := ops'.push last) (by rw [Array.getElem?_push_lt hi3, Array.getElem?_eq_getElem hi3]) (fun o j b ho hg => by
            have := (lastOk_1 h ho).2 j b hg
            rw [Array.getElem?_push_lt (by omega), Array.getElem?_eq_getElem (by omega)]) h1
          refine wpOp_mono (fun a w hk => ?_) h2
          have h3 := ih (listed.setIfInBounds i true) a w (by rw [Array.size_setIfInBounds]; exact hl) hk
          have h4 : (listed.push false).setIfInBounds i true = (listed.setIfInBounds i true).push false := by
            apply Array.ext
            · simp
            · intro j h5 h6
              simp only [Array.size_setIfInBounds, Array.size_push] at h5
              rw [Array.getElem_setIfInBounds (by simpa using h5)]
              by_cases hj : j < listed.size
              · rw [Array.getElem_push_lt hj, Array.getElem_push_lt (by simpa using hj), Array.getElem_setIfInBounds hj]
              · obtain rfl : j = listed.size := by omega
                rw [if_neg (by omega)]
                simp [Array.getElem_push]
          rw [h4]
          exact h3
where
  fin {fuel : Nat} {listed : Array Bool} {a : Act} {w : World} (hl : listed.size = ops'.size) (hr : Region.ready md ops' listed = []) (hN : wpOp P (ops'.push last) Q ops'.size (fun a w => Q .normal a w) a w) : wpAny P md (ops'.push last) Q (fuel + 1) (listed.push false) a w := by
    have hall := fun i hi => all_listed h hl hr (i + 1) i (Nat.lt_succ_self i) hi
    have hm := (last_ready h hl).2 hall
    refine ⟨(fun h0 => by rw [h0] at hm; cases hm), fun i hi => ?_⟩
    have hi2 : i < ops'.size + 1 := by
      obtain ⟨_, o, ho, _⟩ := mem_ready.1 hi
      have := (Array.getElem?_eq_some_iff.1 ho).1
      rwa [Array.size_push] at this
    by_cases hin : i = ops'.size
    · subst hin
      refine wpOp_mono (fun a w hq => ?_) hN
      have hnone : Region.ready md (ops'.push last) ((listed.push false).setIfInBounds ops'.size true) = [] := by
        rw [List.eq_nil_iff_forall_not_mem]
        intro j hj
        obtain ⟨h1, o, ho, _⟩ := mem_ready.1 hj
        have hjs : j < ops'.size + 1 := by
          have := (Array.getElem?_eq_some_iff.1 ho).1
          rwa [Array.size_push] at this
        rw [Array.getD_eq_getD_getElem?, Array.getElem?_setIfInBounds] at h1
        by_cases hjn : ops'.size = j
        · subst hjn
          simp [hl] at h1
        · rw [if_neg hjn, Array.getElem?_push_lt (by omega)] at h1
          have h2 := hall j (by omega)
          rw [Array.getD_eq_getD_getElem?, Array.getElem?_eq_getElem (by omega)] at h2
          simp only [Option.getD_some] at h1 h2
          rw [h1] at h2
          cases h2
      cases fuel with
      | zero => exact ⟨hnone, hq⟩
      | succ f => exact ⟨fun _ => hq, fun j hj => by rw [hnone] at hj; cases hj⟩
    · have := (ready_push h hl (b := false) (i := i) (by omega)).1 hi
      rw [hr] at this
      cases this
theorem wp_region_last {id : Nat} {ops : Array Oper} {S : World → Prop} {a : Act} {w : World} (hops : ops = ops'.push last) (hk : lastOk .any ops' last = true) (hm : P.follows .mixedOrders = true) (hS : S w.drew)
    (h : S w.drew → wpAnyH P .any ops' (AtLast Q (fun a w => wpOp P ops Q ops'.size (fun a w => Q .normal a w) a w)) S ops'.size (Array.replicate ops'.size false) a w.drew) : (Code.region id ops true).wp P Q a w := by
  subst hops
  refine wp_region_any hm ?_
  have h2 := wpAny_last hk _ _ _ _ (by simp) (wpAny_of_held _ _ _ _ (h hS))
  rw [Array.size_push]
  have e : Array.replicate (ops'.size + 1) false = (Array.replicate ops'.size false).push false := by
    apply Array.ext <;> simp [Array.getElem_push]
  rw [e]
  exact h2
/-- the same, the region's operations written out -/
theorem wp_region_last_l {id : Nat} {l : List Oper} {S : World → Prop} {a : Act} {w : World} (hk : (match l.getLast? with | some o => lastOk .any l.dropLast.toArray o | none => false) = true) (hm : P.follows .mixedOrders = true) (hS : S w.drew)
    (h : S w.drew → wpAnyH P .any l.dropLast.toArray (AtLast Q (fun a w => wpOp P l.toArray Q l.dropLast.length (fun a w => Q .normal a w) a w)) S l.dropLast.length (Array.replicate l.dropLast.length false) a w.drew) : (Code.region id l.toArray true).wp P Q a w := by
  cases ho : l.getLast? with
  | none => rw [ho] at hk; cases hk
  | some o =>
    rw [ho] at hk
    have e : l.toArray = l.dropLast.toArray.push o := by
      obtain ⟨l', rfl⟩ := List.getLast?_eq_some_iff.1 ho
      rw [List.dropLast_concat, List.push_toArray]
    exact wp_region_last e hk hm hS h
end
end Go.Proofs.YtlmdmdjcokmgjaaDoor
