/- Layer 27: the squares that an atom reaches, plain; Squares of the reference. -/
import Derived.Test.YtbcdimklblpdnaaDoorYj
import Derived.Test.YtbcdimklblpdnaaDoorYe
import Derived.Laws.Bits64b
namespace Go.Proofs.YtbcdimklblpdnaaDoor
open Go Go.RowKit
set_option linter.unusedSimpArgs false
set_option linter.unusedVariables false
/-- a valid board and a square -/
structure Bd (f r a : Nat) (ps : List Int) : Prop where
  f0 : 3 ≤ f
  f1 : f ≤ 8
  r0 : 3 ≤ r
  r1 : r ≤ 8
  len : ps.length = f * r
  a0 : a < f * r
theorem keepS_on {x : At} {b : Bool} {p q : Int} (h : keepS x b p q = true) : min (absI p) (absI q) = x.short ∧ max (absI p) (absI q) = x.long := by
  unfold keepS at h
  rw [Bool.and_eq_true, Bool.and_eq_true, decide_eq_true_eq, decide_eq_true_eq] at h
  exact h.1
theorem refRow_mem {x : At} {b : Bool} {r : Int} {s : St} : ∀ {m : Nat}, s ∈ refRow x b r m → keepS x b s.files s.ranks = true ∧ s.ranks = r ∧ -7 ≤ s.files ∧ s.files ≤ (m : Int) - 8 := by
  intro m
  induction m with
  | zero => intro h; exact absurd h (by simp [refRow])
  | succ m ih =>
    intro h
    cases hk : keepS x b ((m : Int) - 7) r
    · rw [← refRow_no hk] at h
      obtain ⟨h1, h2, h3, h4⟩ := ih h
      exact ⟨h1, h2, h3, by omega⟩
    · rw [← refRow_yes hk, List.mem_append, List.mem_singleton] at h
      rcases h with h | rfl
      · obtain ⟨h1, h2, h3, h4⟩ := ih h
        exact ⟨h1, h2, h3, by omega⟩
      · refine ⟨hk, rfl, ?_, ?_⟩
        · show -7 ≤ (m : Int) - 7; omega
        · show (m : Int) - 7 ≤ ((m + 1 : Nat) : Int) - 8; omega
theorem refUp_mem {x : At} {b : Bool} {s : St} : ∀ {n : Nat}, s ∈ refUp x b n → keepS x b s.files s.ranks = true ∧ (-7 ≤ s.files ∧ s.files ≤ 7) ∧ -7 ≤ s.ranks ∧ s.ranks ≤ (n : Int) - 8 := by
  intro n
  induction n with
  | zero => intro h; exact absurd h (by simp [refUp])
  | succ n ih =>
    intro h
    have h9 : s ∈ refUp x b n ++ refRow x b ((n : Int) - 7) 15 := h
    rw [List.mem_append] at h9
    rcases h9 with h9 | h9
    · obtain ⟨h1, h2, h3, h4⟩ := ih h9
      exact ⟨h1, h2, h3, by omega⟩
    · obtain ⟨h1, h2, h3, h4⟩ := refRow_mem h9
      exact ⟨h1, ⟨h3, by omega⟩, by omega, by omega⟩
theorem Bd.dir {f r a : Nat} {ps : List Int} (h : Bd f r a ps) {x : At} {b : Bool} (hx : okA x) {s : St} (hs : s ∈ stepsL x b) : Dir f r a s.files s.ranks ps := by
  obtain ⟨h1, h2, h3, h4⟩ := refUp_mem hs
  refine ⟨h.f0, h.f1, h.r0, h.r1, h.len, h.a0, h2, ⟨h3, by omega⟩, ?_⟩
  have h5 := (keepS_on h1).2
  have h6 : 1 ≤ x.long := by
    have := hx.2.2.2.2.1.1
    unfold leastA at this
    split at this <;> omega
  unfold absI at h5
  rcases Int.lt_trichotomy s.files 0 with e | e | e
  · left; omega
  · right; omega
  · left; omega
theorem linF_mem {f r a : Nat} {sf sr : Int} {ps : List Int} (h : Dir f r a sf sr ps) {q : Int} : ∀ {n left k : Nat}, q ∈ linF f r a sf sr ps n left k → 0 ≤ q ∧ q < ((f * r : Nat) : Int) := by
  intro n
  induction n with
  | zero => intro left k hq; exact absurd hq (by simp [linF])
  | succ n ih =>
    intro left k hq
    unfold linF at hq
    split at hq
    · exact absurd hq (by simp)
    split at hq
    · rename_i hz
      rw [List.mem_cons] at hq
      rcases hq with rfl | hq
      · exact ⟨hz, h.lt hz⟩
      · split at hq
        · exact ih hq
        · exact absurd hq (by simp)
    · exact absurd hq (by simp)
theorem reachV_mem {x : At} {f r a : Nat} {sf sr : Int} {ps : List Int} (h : Dir f r a sf sr ps) {q : Int} (hq : q ∈ reachV x f r a sf sr ps) : 0 ≤ q ∧ q < ((f * r : Nat) : Int) := by
  unfold reachV at hq
  split at hq
  · exact linF_mem h hq
  split at hq
  · split at hq
    · exact absurd hq (by simp)
    · exact linF_mem h hq
  split at hq
  · split at hq
    · exact absurd hq (by simp)
    · exact linF_mem h hq
  split at hq
  · exact absurd hq (by simp)
  split at hq
  · exact absurd hq (by simp)
  · rename_i hz _
    rw [List.mem_singleton] at hq
    subst hq
    exact ⟨Int.not_lt.1 hz, h.lt (Int.not_lt.1 hz)⟩
/-- a square that is visited, with the mode of the atom -/
abbrev Vi := Int × Int
/-- the set of the chosen ones -/
def orF (P : Vi → Bool) (V : List Vi) : Nat := V.foldl (fun acc p => if P p then acc ||| 2 ^ p.2.toNat else acc) 0
theorem orF_yes {P : Vi → Bool} {V : List Vi} {p : Vi} (h : P p = true) : orF P (V ++ [p]) = orF P V ||| 2 ^ p.2.toNat := by
  unfold orF
  rw [List.foldl_append]
  show (if P p then _ else _) = _
  rw [h]; rfl
theorem orF_no {P : Vi → Bool} {V : List Vi} {p : Vi} (h : P p = false) : orF P (V ++ [p]) = orF P V := by
  unfold orF
  rw [List.foldl_append]
  show (if P p then _ else _) = _
  rw [h]; rfl
def enB (b : Bool) (p : Int) : Bool := if 0 < p then b else if p < 0 then !b else false
def pA (p : Vi) : Bool := decide (p.1 ≠ 1)
def pG (ps : List Int) (p : Vi) : Bool := decide (p.1 ≠ 2 ∧ ps.getD p.2.toNat 0 = 0)
def pT (b : Bool) (ps : List Int) (p : Vi) : Bool := decide (p.1 ≠ 1) && enB b (ps.getD p.2.toNat 0)
theorem or_shift2 {acc : Nat} {k : Nat} (h : acc < 18446744073709551616) (h1 : k < 64) : bits BinOp.or IntKind.u64 (acc : Int) (IntKind.u64.wrap (2 ^ k)) = ((acc ||| 2 ^ k : Nat) : Int) := by
  have e : 2 ^ k < 2 ^ 64 := Nat.pow_lt_pow_right (by decide) h1
  have e2 : IntKind.u64.wrap (2 ^ k) = ((2 ^ k : Nat) : Int) := by
    rw [IntKind.wrap_u64, Int.emod_eq_of_lt]
    · simp
    · exact Int.le_of_lt (Int.pow_pos (by decide))
    · have : ((2 ^ k : Nat) : Int) < ((2 ^ 64 : Nat) : Int) := by exact_mod_cast e
      simpa using this
  rw [e2]
  exact bits_or_u64_nat acc _ h (by omega)
theorem or_lt {acc k : Nat} (h : acc < 18446744073709551616) (h1 : k < 64) : acc ||| 2 ^ k < 18446744073709551616 := Nat.or_lt_two_pow (n := 64) h (Nat.pow_lt_pow_right (by decide) h1)
def visR (f r a : Nat) (ps : List Int) (x : At) (s : St) : List Vi := (reachV x f r a s.files s.ranks ps).map fun q => (x.mode, q)
def visS (f r a : Nat) (ps : List Int) (b : Bool) (x : At) : List Vi := (stepsL x b).flatMap (visR f r a ps x)
def visA (f r a : Nat) (ps : List Int) (b : Bool) (l : List At) : List Vi := l.flatMap (visS f r a ps b)
/-- three sets -/
structure Tr3 (ps : List Int) (b : Bool) (V : List Vi) (p q s : Nat) : Prop where
  p0 : p = orF pA V
  q0 : q = orF (pG ps) V
  s0 : s = orF (pT b ps) V
  p1 : p < 18446744073709551616
  q1 : q < 18446744073709551616
  s1 : s < 18446744073709551616
theorem Tr3.nil (ps : List Int) (b : Bool) : Tr3 ps b [] 0 0 0 := ⟨rfl, rfl, rfl, by decide, by decide, by decide⟩
theorem Tr3.put {ps : List Int} {b : Bool} {V : List Vi} {p q s : Nat} (h : Tr3 ps b V p q s) {m : Int} {z : Nat} (hz : z < 64) {p' q' s' : Nat}
    (hp : p' = if pA (m, (z : Int)) then p ||| 2 ^ z else p) (hq : q' = if pG ps (m, (z : Int)) then q ||| 2 ^ z else q) (hs : s' = if pT b ps (m, (z : Int)) then s ||| 2 ^ z else s) : Tr3 ps b (V ++ [(m, (z : Int))]) p' q' s' := by
  have key : ∀ (P : Vi → Bool) (o o' : Nat), o = orF P V → o < 18446744073709551616 → (o' = if P (m, (z : Int)) then o ||| 2 ^ z else o) → o' = orF P (V ++ [(m, (z : Int))]) ∧ o' < 18446744073709551616 := by
    intro P o o' h1 h2 h3
    cases hP : P (m, (z : Int))
    · rw [hP] at h3
      rw [orF_no hP, h3]
      exact ⟨h1, h2⟩
    · rw [hP] at h3
      rw [orF_yes hP, h3, ← h1]
      exact ⟨rfl, or_lt h2 hz⟩
  obtain ⟨a1, a2⟩ := key _ _ _ h.p0 h.p1 hp
  obtain ⟨b1, b2⟩ := key _ _ _ h.q0 h.q1 hq
  obtain ⟨c1, c2⟩ := key _ _ _ h.s0 h.s1 hs
  exact ⟨a1, b1, c1, a2, b2, c2⟩
theorem recI {w : World} {B : Nat} {A : Option Addr} {l : List Int} (h : RecAt iEnc 1 w B A l) {k : Nat} {x : Int} (hx : l[k]? = some x) : ∃ b off, A = some ⟨b, off, none⟩ ∧ b < B ∧ w.cell? ⟨b, off + k, none⟩ = some (.int .i64 x) := by
  obtain ⟨b, off, e, hb, hc⟩ := h (by have := (List.getElem?_eq_some_iff.1 hx).1; omega)
  refine ⟨b, off, e, hb, ?_⟩
  have := hc k x hx 0 _ rfl
  simpa using this
theorem stepsL_le (x : At) (b : Bool) : (stepsL x b).length ≤ 225 := refUp_le x b 15
theorem linF_len {f r a : Nat} {sf sr : Int} {ps : List Int} : ∀ {n left k : Nat}, (linF f r a sf sr ps n left k).length ≤ n := by
  intro n
  induction n with
  | zero => intro left k; exact Nat.le_refl _
  | succ n ih =>
    intro left k
    unfold linF
    split
    · exact Nat.zero_le _
    split
    · split
      · rw [List.length_cons]; have := @ih (left - 1) (k + 1); omega
      · simp
    · exact Nat.zero_le _
theorem reachV_len (x : At) (f r a : Nat) (sf sr : Int) (ps : List Int) : (reachV x f r a sf sr ps).length ≤ 9 := by
  unfold reachV
  split
  · exact linF_len
  split
  · split
    · exact Nat.zero_le _
    · exact linF_len
  split
  · split
    · exact Nat.zero_le _
    · exact linF_len
  split
  · exact Nat.zero_le _
  split
  · exact Nat.zero_le _
  · simp
end Go.Proofs.YtbcdimklblpdnaaDoor
