/- A quiet region inside a round of a range over a function: no program in sight. -/
import Derived.Sort.QuietThIn
import Derived.Sort.BigQuietIn
import Derived.RangeFuncCalls
namespace Go.Proofs.YtjjchodcoeciaaaDoor
open Go Go.BigFrame
set_option linter.unusedVariables false

section
variable {F : Fence} {n : Nat} {P : Program} {ops : Array Oper} {md : Region.Mode} {Q : Exit → Act → World → Prop} {l0 : Nat}
theorem uponIn_round {o : Oper} {a : Act} {K : Act → World → Prop} {r : Result Next} (h : o.uponIn F n P a K Q r) : o.uponIn (F.inRound l0) n P a K Q r := by
  cases r with
  | ok v w =>
    cases v <;> exact h
  | halt x w => cases x <;> exact h
theorem operWpIn_round (hro : F.round = none) {o : Oper} (hnd : ∀ c : Call, o.op ≠ Op.defer c) {a : Act} {w : World} {K : Act → World → Prop} (h : Oper.wpIn F n P o a w K Q) : Oper.wpIn (F.inRound l0) n P o a w K Q := by
  refine ⟨h.1, uponIn_round ?_⟩
  have h2 := h.2
  rw [hro, Oper.semAt_none] at h2
  show o.uponIn F n P a K Q ((o.semAt (some l0) a.eval).run P w)
  rw [Oper.semAt_some l0 a.eval o hnd]
  exact h2
theorem wpOpIn_round (hro : F.round = none) (hnd : ∀ (i : Nat) (o : Oper) (c : Call), ops[i]? = some o → o.op ≠ Op.defer c) {i : Nat} {a : Act} {w : World} {K K' : Act → World → Prop} (hK : ∀ a w, K a w → K' a w) (h : wpOpIn F n P ops Q i K a w) : wpOpIn (F.inRound l0) n P ops Q i K' a w := by
  refine wpOpIn_mono hK ?_
  unfold wpOpIn at *
  cases ho : ops[i]? with
  | none => rw [ho] at h; exact h
  | some o =>
    rw [ho] at h
    simp only at h ⊢
    by_cases hw : Region.wanted o (yielded ops a.tmps) = true
    · rw [if_pos hw] at h ⊢; exact operWpIn_round hro (fun c => hnd i o c ho) h
    · rw [if_neg hw] at h ⊢; exact h
theorem wpAnyIn_round (hro : F.round = none) (hnd : ∀ (i : Nat) (o : Oper) (c : Call), ops[i]? = some o → o.op ≠ Op.defer c) : ∀ (fuel : Nat) (listed : Array Bool) (a : Act) (w : World), wpAnyIn F n P md ops Q fuel listed a w → wpAnyIn (F.inRound l0) n P md ops Q fuel listed a w
  | 0, _, _, _, h => h
  | fuel + 1, _, _, _, h => ⟨h.1, fun i hi => wpOpIn_round hro hnd (fun a' w' h' => wpAnyIn_round hro hnd fuel _ a' w' h') (h.2 i hi)⟩
/-- no operation of the region is a defer -/
def noDefer (ops : Array Oper) : Bool := ops.all fun o => match o.op with | Op.defer _ => false | _ => true
theorem noDefer_spec (h : noDefer ops = true) : ∀ (i : Nat) (o : Oper) (c : Call), ops[i]? = some o → o.op ≠ Op.defer c := by
  intro i o c hi he
  have h1 := (Array.all_eq_true'.1 h) o (Array.mem_of_getElem? hi)
  rw [he] at h1
  cases h1
theorem wpIn_region_quiet_round_lit {id : Nat} {a : Act} {w : World} {l : List Oper} (hro : F.round = none) (hnd : noDefer l.toArray = true) (hm : P.follows .mixedOrders = true) (hB : Region.lexB .any l.toArray = true)
    (h : wpQuietIn F n P l.toArray (fun w' => ∃ n, w' = w.drewN n) (fun a' => ∀ w', (∃ n, w' = w.drewN n) → Q .normal a' w') l a) : (Code.region id l.toArray true).wpIn (F.inRound l0) n P Q a w := by
  simp only [Region.lexB, Bool.and_eq_true] at hB
  refine wpIn_region_any hm (wpAnyIn_round hro (noDefer_spec hnd) _ _ _ _ (wpAnyIn_of_quiet (C := fun w' => ∃ n, w' = w.drewN n) (Q := fun a' => ∀ w', (∃ n, w' = w.drewN n) → Q .normal a' w') hro (fun _ w' hw' h => h w' hw') _ _ _ _ ⟨1, rfl⟩ ?_))
  have := wpAnyQIn_lex (F := F) (n := n) (C := fun w' => ∃ n, w' = w.drewN n) (md := .any) hB.1 l 0 (Array.replicate l.length false) a (by simp) (by simpa using hB.2) h
  simpa using this
end
section
variable {F : Fence} {n : Nat} {P : Program} {ops : Array Oper} {md : Region.Mode} {C : World → Prop} {l0 : Nat}
/-- every order: quiet operations, and at the end operation s, which waits for all others -/
def wpAnyTIn (F : Fence) (n : Nat) (P : Program) (md : Region.Mode) (ops : Array Oper) (C : World → Prop) (s : Nat) (R : Act → Prop) : Nat → Array Bool → Act → Prop
  | 0, _, _ => False
  | fuel + 1, listed, a => Region.ready md ops listed ≠ [] ∧
    ∀ i ∈ Region.ready md ops listed, (i = s → R a ∧ Region.ready md ops (listed.setIfInBounds s true) = []) ∧ (i ≠ s → qOpIn F n P ops C i (wpAnyTIn F n P md ops C s R fuel (listed.setIfInBounds i true)) a)
theorem wpAnyIn_of_T {s : Nat} {R : Act → Prop} {Q : Exit → Act → World → Prop} (hro : F.round = none) (hR : ∀ a w, C w → R a → wpOpIn F n P ops Q s (Q .normal) a w) : ∀ (fuel : Nat) (listed : Array Bool) (a : Act) (w : World), C w →
    wpAnyTIn F n P md ops C s R fuel listed a → wpAnyIn F n P md ops Q fuel listed a w
  | 0, _, _, _, _, h => h.elim
  | fuel + 1, listed, a, w, hw, h => ⟨fun h0 => absurd h0 h.1, fun i hi => by
      by_cases his : i = s
      · subst his
        obtain ⟨h1, h2⟩ := (h.2 i hi).1 rfl
        exact wpOpIn_mono (fun a' w' hq => wpAnyIn_done h2 hq fuel) (hR a w hw h1)
      · exact wpOpIn_of_qOpIn hro hw (fun a' w' hw' => wpAnyIn_of_T hro hR fuel _ a' w' hw') ((h.2 i hi).2 his)⟩
theorem wpAnyTIn_first {s : Nat} {R : Act → Prop} {i : Nat} {oi : Oper} {v : Value} (hi : ops[i]? = some oi) (his : i ≠ s) (hsel : ∀ (j : Nat) (o : Oper) cs b, ops[j]? = some o → o.op ≠ .select cs b)
    (hS : ∀ listed, s ∈ Region.ready md ops listed → i ∈ Region.ready md ops listed → False) :
    ∀ (fuel : Nat) (listed : Array Bool) (a : Act),
      (∀ j oj, ops[j]? = some oj → j ≠ i → listed.getD j true = false → (∀ e ∈ oj.after, Region.binds md e = true → e.on ≠ i) → oi.apart ops oj = true) →
      i ∈ Region.ready md ops listed → YieldsQuiet F n P ops C oi v a →
      wpAnyTIn F n P md ops C s R fuel (listed.setIfInBounds i true) (a.put oi.dst v) → wpAnyTIn F n P md ops C s R (fuel + 1) listed a := by
  intro fuel
  induction fuel with
  | zero => intro listed a _ _ _ H; exact H.elim
  | succ fuel ih =>
    intro listed a hfree hr hy H
    refine ⟨fun h => (by rw [h] at hr; cases hr), fun j hj => ⟨fun hjs => (hS listed (hjs ▸ hj) hr).elim, fun hjs => ?_⟩⟩
    by_cases hji : j = i
    · subst hji; exact hy.qOpIn hi H
    · have h1 := (H.2 j (ready_mono hj hji)).2 hjs
      obtain ⟨hjun, oj, hoj, hall⟩ := mem_ready.1 hj
      have hnot : ∀ e ∈ oj.after, Region.binds md e = true → e.on ≠ i := fun e he hb heq => by
        have h1 := hall e he hb
        have h0 := (mem_ready.1 hr).1
        rw [heq] at h1
        rcases Nat.lt_or_ge i listed.size with h' | h'
        · simp [h'] at h0 h1; rw [h0] at h1; cases h1
        · simp [Array.getElem?_eq_none h'] at h1
      have h2 := qOpIn_put hoj (hfree j oj hoj hji hjun hnot) (fun cs b => hsel i oi cs b hi) (fun cs b => hsel j oj cs b hoj) hy h1
      have hfree' : ∀ k ok, ops[k]? = some ok → k ≠ i → (listed.setIfInBounds j true).getD k true = false →
          (∀ e ∈ ok.after, Region.binds md e = true → e.on ≠ i) → oi.apart ops ok = true := fun k ok hk hki hun hno => by
        refine hfree k ok hk hki ?_ hno
        by_cases hjk : j = k
        · subst hjk; exact hjun
        · rw [getD_set_ne true hjk] at hun; exact hun
      refine qOpIn_mono (fun a' h3 => ih (listed.setIfInBounds j true) a' hfree' (ready_mono hr (Ne.symm hji)) h3.1 ?_) h2
      rw [Array.setIfInBounds_comm _ _ hji]
      exact h3.2
/-- the lexical order up to operation s, which waits for all that stand before it -/
def lexT (md : Region.Mode) (ops : Array Oper) (s : Nat) : Nat → Nat → Array Bool → Bool
  | 0, _, listed => decide (Region.ready md ops listed = [s]) && (Region.ready md ops (listed.setIfInBounds s true)).isEmpty
  | fuel + 1, k, listed => decide (k ≠ s) && (Region.ready md ops listed).contains k && Region.free md ops listed k && lexT md ops s fuel (k + 1) (listed.setIfInBounds k true)
/-- operation s waits for all before it -/
def waitsB (md : Region.Mode) (ops : Array Oper) (s : Nat) : Bool := match ops[s]? with
  | some o => (List.range s).all fun i => o.after.any fun e => Region.binds md e && e.on == i
  | none => false
theorem waitsB_spec {s : Nat} (h : waitsB md ops s = true) {i : Nat} (hi : i < s) (listed : Array Bool) (h1 : s ∈ Region.ready md ops listed) (h2 : i ∈ Region.ready md ops listed) : False := by
  obtain ⟨_, o, ho, hall⟩ := mem_ready.1 h1
  simp only [waitsB, ho, List.all_eq_true, List.mem_range] at h
  obtain ⟨e, he, hb⟩ := Array.any_eq_true'.1 (h i hi)
  simp only [Bool.and_eq_true, beq_iff_eq] at hb
  have h3 := hall e he hb.1
  have h0 := (mem_ready.1 h2).1
  rw [hb.2] at h3
  rcases Nat.lt_or_ge i listed.size with h' | h'
  · simp [h'] at h0 h3; rw [h0] at h3; cases h3
  · simp [Array.getElem?_eq_none h'] at h3
theorem wpAnyTIn_lex {s : Nat} {R : Act → Prop} (hs : Region.noSelect ops = true) (hW : waitsB md ops s = true) : ∀ (l : List Oper) (k : Nat) (listed : Array Bool) (a : Act), (∀ j, j < l.length → l[j]? = ops[k + j]?) → k + l.length = s →
    lexT md ops s l.length k listed = true → wpQuietIn F n P ops C R l a → wpAnyTIn F n P md ops C s R (l.length + 1) listed a
  | [], k, listed, a, _, hk, hB, h => by
    simp only [List.length_nil, lexT, Bool.and_eq_true, decide_eq_true_eq, List.isEmpty_iff] at hB
    refine ⟨by rw [hB.1]; simp, fun i hi => ?_⟩
    rw [hB.1] at hi
    have hi' : i = s := by simpa using hi
    exact ⟨fun _ => ⟨h, hB.2⟩, fun hne => absurd hi' hne⟩
  | o :: l, k, listed, a, hl, hk, hB, h => by
    have h0 : ops[k]? = some o := by simpa using (hl 0 (by simp)).symm
    simp only [List.length_cons, lexT, Bool.and_eq_true, decide_eq_true_eq] at hB
    obtain ⟨⟨⟨hks, hr⟩, hf⟩, hB'⟩ := hB
    have hst : qOpIn F n P ops C k (wpQuietIn F n P ops C R l) a := by unfold qOpIn; simp only [h0]; exact h
    obtain ⟨v, hy, hK⟩ := yieldsQuiet_of_qOpIn h0 hst
    have hlt : k < s := by simp only [List.length_cons] at hk; omega
    exact wpAnyTIn_first h0 hks (Region.noSelect_spec hs) (fun listed h1 h2 => waitsB_spec hW hlt listed h1 h2) (l.length + 1) listed a (Region.free_spec h0 hf) (by simpa using hr) hy
      (wpAnyTIn_lex hs hW l (k + 1) _ _ (fun j hj => by have := hl (j + 1) (by simp only [List.length_cons]; omega); simpa [Nat.add_assoc, Nat.add_comm 1 j] using this) (by simp only [List.length_cons] at hk; omega) hB' hK)
/-- A region that draws, inside a round: quiet operations, and one at the end that waits for all. -/
theorem wpIn_region_last_round {id : Nat} {a : Act} {w : World} {L : List Oper} {Q : Exit → Act → World → Prop} (s : Nat) {o : Oper} (ho : L[s]? = some o) (hg : o.guard = none) (hL : s + 1 = L.length) (hro : F.round = none) (hnd : noDefer L.toArray = true) (hm : P.follows .mixedOrders = true)
    (hB : (Region.noSelect L.toArray && waitsB .any L.toArray s && lexT .any L.toArray s s 0 (Array.replicate L.length false)) = true)
    (h : wpQuietIn F n P L.toArray (fun w' => ∃ n, w' = w.drewN n) (fun a' => ∀ w', (∃ n, w' = w.drewN n) → ∀ K : Act → World → Prop, (∀ a w, Q .normal a w → K a w) → Oper.wpIn F n P o a' w' K Q) (L.take s) a) : (Code.region id L.toArray true).wpIn (F.inRound l0) n P Q a w := by
  simp only [Bool.and_eq_true] at hB
  have hlen : (L.take s).length = s := by rw [List.length_take]; omega
  refine wpIn_region_any hm (wpAnyIn_round hro (noDefer_spec hnd) _ _ _ _ (wpAnyIn_of_T (s := s) (C := fun w' => ∃ n, w' = w.drewN n) (R := fun a' => ∀ w', (∃ n, w' = w.drewN n) → ∀ K : Act → World → Prop, (∀ a w, Q .normal a w → K a w) → Oper.wpIn F n P o a' w' K Q) hro (fun a' w' hw' h' => ?_) _ _ _ _ ⟨1, rfl⟩ ?_))
  · unfold wpOpIn
    rw [show L.toArray[s]? = some o by simpa using ho]
    simp only
    have hw : Region.wanted o (yielded L.toArray a'.tmps) = true := by unfold Region.wanted; rw [hg]
    rw [if_pos hw]
    exact h' w' hw' _ (fun _ _ hq => hq)
  · have h2 := wpAnyTIn_lex (F := F) (n := n) (P := P) (md := .any) (C := fun w' => ∃ n, w' = w.drewN n) hB.1.1 hB.1.2 (L.take s) 0 (Array.replicate L.length false) a (fun j hj => by rw [hlen] at hj; simp [hj]) (by omega) (by rw [hlen]; exact hB.2) h
    rw [hlen, hL] at h2
    simpa using h2
end
end Go.Proofs.YtjjchodcoeciaaaDoor
