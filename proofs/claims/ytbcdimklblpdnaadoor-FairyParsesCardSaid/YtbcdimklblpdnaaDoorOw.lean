/- Rows of records that the call itself makes: append of records onto a row of one's own. No program in sight. -/
import Derived.WalkKit
import Derived.ProofKit
import Derived.OwnWalk
import Derived.Laws.AppendOwn
import Derived.Maps.AppendAt
import Derived.Lib.SmallJoins
namespace Go.Proofs.YtbcdimklblpdnaaDoor
open Go Go.RowKit
set_option linter.unusedSimpArgs false
set_option linter.unusedVariables false

/-- the slice type t has elements of type e, of so many cells and bytes -/
def RowOf (P : Program) (t e : TypeId) (size bytes : Nat) : Prop :=
  P.underlying t = some (.slice e) ∧ 0 < size ∧ bytes ≤ 1000 ∧ ∃ (i : TypeInfo) (z : Value), P.info? e = some i ∧ i.zero = some z ∧ i.size = size ∧ i.bytes = bytes ∧ z.cells.size = size
theorem RowOf.mk' {P : Program} {t e : TypeId} {size bytes : Nat} {z : Value} (ht : P.underlying t = some (.slice e)) (h : (P.info? e).map (fun i => (i.zero, i.size, i.bytes)) = some (some z, size, bytes)) (h0 : 0 < size) (hb : bytes ≤ 1000) (hz : z.cells.size = size) : RowOf P t e size bytes := by
  obtain ⟨i, h1, h2, h3, h4⟩ := info_parts h
  exact ⟨ht, h0, hb, i, z, h1, h2, h3, h4, hz⟩

section
variable {α : Type} (f : α → List Value) (size : Nat)
/-- a list of records in memory, below block B -/
def RecAt (w : World) (B : Nat) (A : Option Addr) (l : List α) : Prop :=
  0 < l.length → ∃ b off, A = some ⟨b, off, none⟩ ∧ b < B ∧ ∀ (k : Nat) (x : α), l[k]? = some x → ∀ (j : Nat) (u : Value), (f x)[j]? = some u → w.cell? ⟨b, off + k * size + j, none⟩ = some u
/-- the cells of a list of records -/
def flatR (l : List α) : List Value := l.flatMap f
variable {f size}
theorem RecAt.below {w w' : World} {B B' : Nat} {A : Option Addr} {l : List α} (h : RecAt f size w B A l) (hB : B ≤ B') (hb : Below B' w w') : RecAt f size w' B A l := by
  intro hl
  obtain ⟨b, off, rfl, hlt, hc⟩ := h hl
  exact ⟨b, off, rfl, hlt, fun k x hk j u hu => (hb.cell (p := ⟨b, off + k * size + j, none⟩) (Nat.lt_of_lt_of_le hlt hB)).trans (hc k x hk j u hu)⟩
theorem RecAt.more {w : World} {B B' : Nat} {A : Option Addr} {l : List α} (h : RecAt f size w B A l) (hB : B ≤ B') : RecAt f size w B' A l := by
  intro hl
  obtain ⟨b, off, e, hlt, hc⟩ := h hl
  exact ⟨b, off, e, by omega, hc⟩
theorem RecAt.nil {w : World} {B : Nat} {A : Option Addr} : RecAt f size w B A ([] : List α) := fun h => absurd h (by simp)
theorem flatR_length (hf : ∀ x, (f x).length = size) (l : List α) : (flatR f l).length = l.length * size := by
  induction l with
  | nil => simp [flatR]
  | cons x l ih =>
    unfold flatR at *
    rw [List.flatMap_cons, List.length_append, ih, hf, List.length_cons, Nat.succ_mul]
    omega
theorem flatR_append (l l' : List α) : flatR f (l ++ l') = flatR f l ++ flatR f l' := by unfold flatR; rw [List.flatMap_append]
theorem flatR_get (hf : ∀ x, (f x).length = size) : ∀ (l : List α) (k : Nat) (x : α) (j : Nat), l[k]? = some x → j < size → (flatR f l)[k * size + j]? = (f x)[j]?
  | [], k, x, j, h, hj => by simp at h
  | y :: l, 0, x, j, h, hj => by
    simp only [List.getElem?_cons_zero, Option.some.injEq] at h
    subst h
    unfold flatR
    rw [List.flatMap_cons, Nat.zero_mul, Nat.zero_add, List.getElem?_append_left (by rw [hf]; exact hj)]
  | y :: l, k + 1, x, j, h, hj => by
    rw [List.getElem?_cons_succ] at h
    have ih := flatR_get hf l k x j h hj
    unfold flatR at ih ⊢
    rw [List.flatMap_cons, List.getElem?_append_right (by rw [hf, Nat.succ_mul]; omega), hf, ← ih]
    congr 1
    rw [Nat.succ_mul]
    omega
/-- every cell of a list of records is one of a record -/
theorem flatR_ex (hf : ∀ x, (f x).length = size) (h0 : 0 < size) (l : List α) (i : Nat) (u : Value) (h : (flatR f l)[i]? = some u) : ∃ x, l[i / size]? = some x ∧ (f x)[i % size]? = some u := by
  have hi : i < l.length * size := by
    have := (List.getElem?_eq_some_iff.1 h).1
    rwa [flatR_length hf] at this
  have hk : i / size < l.length := (Nat.div_lt_iff_lt_mul h0).2 hi
  have hj : i % size < size := Nat.mod_lt _ h0
  refine ⟨l[i / size], List.getElem?_eq_getElem hk, ?_⟩
  rw [← flatR_get hf l (i / size) _ (i % size) (List.getElem?_eq_getElem hk) hj, ← h]
  congr 1
  rw [Nat.mul_comm]
  exact Nat.div_add_mod i size

theorem addr_add (b o i : Nat) : (⟨b, o, none⟩ : Addr).add i = ⟨b, o + i, none⟩ := by
  unfold Addr.add
  split
  · rename_i h; simp_all
  · rfl
theorem RecAt.of_own (hf : ∀ x, (f x).length = size) {w : World} {base : Nat} {e : TypeId} {v : Value} {A : Option Addr} {c : Nat} {l : List α} (hv : v = .slice A l.length c) (h : w.ownsRow base e size v l.length (flatR f l)) : RecAt f size w w.heap.size A l := by
  intro hl
  rcases Go.Joins.ownsRow_forms h with ⟨_, h0⟩ | ⟨g, cap, e2⟩
  · omega
  · rw [hv] at e2
    simp only [Value.slice.injEq] at e2
    obtain ⟨rfl, _, rfl⟩ := e2
    have hg : v.ownBlock = some g := by rw [hv]; rfl
    refine ⟨g, 0, rfl, (h.lt g hg).2, fun k x hk j u hu => ?_⟩
    have hj : j < size := by
      have := (List.getElem?_eq_some_iff.1 hu).1
      rwa [hf] at this
    have h1 := h.cells hg (k * size + j) u (by rw [flatR_get hf l k x j hk hj]; exact hu)
    rw [addr_add] at h1
    rwa [show 0 + k * size + j = 0 + (k * size + j) by omega]

theorem run_append_empty {P : Program} {w : World} (base : Nat) (t ty e : TypeId) (i : TypeInfo) (size : Nat) (ht : P.underlying t = some (.slice e)) (hi : P.info? e = some i)
    (v : Value) (n : Nat) (xs : List Value) (hown : w.ownsRow base e size v n xs) (c : Nat) : (Builtin.append_ #[t, t] ty #[v, .slice none 0 c]).run P w = .ok v w := by
  rcases hown.2 with ⟨rfl, rfl⟩ | ⟨g, cap, cur, rfl, _, _, hnc, _⟩
  · simp [Builtin.append_, run_underlying ht, sizeOf, typeInfo, hi, Builtin.lenOf, Builtin.firstCells]
  · simp [Builtin.append_, run_underlying ht, sizeOf, typeInfo, hi, Builtin.lenOf, Builtin.firstCells, hnc, storeCells]

theorem wpList_append_recs {P : Program} {t e : TypeId} {bytes : Nat} (R : RowOf P t e size bytes) (hf : ∀ x, (f x).length = size) (h1 : ∀ x, ∀ u ∈ f x, u.oneCell' = true)
    {ops : Array Oper} {rest : List Oper} {o : Oper} {a : Act} {w : World} {Q : Exit → Act → World → Prop} (hgd : o.guard = none) (s x : Operand)
    (ho : o.op = .call { callee := .builtin .append, args := #[s, x], argTypes := #[t, t] })
    (base : Nat) (A : Option Addr) (c : Nat) (l : List α) (hs : a.eval s = .slice A l.length c) (hown : w.ownsRow base e size (.slice A l.length c) l.length (flatR f l))
    (A2 : Option Addr) (c2 : Nat) (l2 : List α) (hx : a.eval x = .slice A2 l2.length c2) (hg : RecAt f size w w.heap.size A2 l2)
    (hm : l.length + l2.length ≤ 1000000) (hbase : base ≤ w.heap.size)
    (h : ∀ (A' : Option Addr) (c' : Nat) (w' : World), w'.ownsRow base e size (.slice A' (l ++ l2).length c') (l ++ l2).length (flatR f (l ++ l2)) → w.grownBy w' (Value.slice A l.length c).ownBlock →
      ((Value.slice A' (l ++ l2).length c').ownBlock = (Value.slice A l.length c).ownBlock ∨ (Value.slice A' (l ++ l2).length c').ownBlock = some w.heap.size) →
      wpList P ops Q rest (a.put o.dst (.slice A' (l ++ l2).length c')) w') : wpList P ops Q (o :: rest) a w := by
  obtain ⟨ht, h0, hb, i, z, hi, hz, hsz, hby, hzs⟩ := R
  have hlen : (l ++ l2).length = l.length + l2.length := List.length_append
  have fin : ∀ (v' : Value) (w' : World), w'.ownsRow base e size v' (l.length + l2.length) (flatR f l ++ flatR f l2) → w.grownBy w' (Value.slice A l.length c).ownBlock →
      (v'.ownBlock = (Value.slice A l.length c).ownBlock ∨ v'.ownBlock = some w.heap.size) → wpList P ops Q rest (a.put o.dst v') w' := by
    intro v' w' h2 h3 h4
    rw [← hlen, ← flatR_append] at h2
    rcases Go.Joins.ownsRow_forms h2 with ⟨rfl, h5⟩ | ⟨g, cap, rfl⟩
    · have e : (Value.slice none 0 0) = .slice none (l ++ l2).length 0 := by rw [h5]
      rw [e] at h2 h4 ⊢
      exact h none 0 w' h2 h3 h4
    · exact h _ _ w' h2 h3 h4
  rcases Nat.eq_zero_or_pos l2.length with hz2 | hz2
  · have hl2 : l2 = [] := List.eq_nil_of_length_eq_zero hz2
    subst hl2
    rcases A2 with _ | ad
    · refine wpList_plain hgd fun K hK => ?_
      have hrun := run_append_empty (P := P) base t o.type e i size ht hi _ _ _ hown c2
      have hx' : a.eval x = .slice none 0 c2 := hx
      unfold Oper.wp execOp
      simp only [ho, resolve, invoke, builtin, Sem.run_bind, Sem.run_pure, Result.andThen_ok, List.map_toArray, List.map_cons, List.map_nil, hs, hx', hrun]
      exact hK _ _ (fin _ _ (by simpa [flatR] using hown) (World.grownBy.refl w _) (.inl rfl))
    · refine wpList_append_own_at w hgd s x t ho base e i z size bytes ht hi hz hsz hby hzs h0 _ _ _ hs hown ad 0 c2 [] hx (by simp) (by simp) (by simp) (by unfold maxLen; omega) ?_ hbase ?_
      · have : l.length * bytes ≤ 1000000 * 1000 := Nat.mul_le_mul (by omega) hb
        simp only [Nat.add_zero]
        omega
      · intro v' w' h2 h3 _ h4
        exact fin v' w' (by simpa [flatR] using h2) h3 h4
  · obtain ⟨b, off, rfl, _, hc⟩ := hg hz2
    refine wpList_append_own_at w hgd s x t ho base e i z size bytes ht hi hz hsz hby hzs h0 _ _ _ hs hown ⟨b, off, none⟩ l2.length c2 (flatR f l2) hx (flatR_length hf l2) ?_ ?_ (by unfold maxLen; omega) ?_ hbase ?_
    · intro j u hu
      obtain ⟨x, hx1, hx2⟩ := flatR_ex hf h0 l2 j u hu
      rw [addr_add]
      have := hc _ _ hx1 _ _ hx2
      rwa [show off + j / size * size + j % size = off + j by rw [Nat.add_assoc, Nat.mul_comm, Nat.div_add_mod]] at this
    · intro u hu
      unfold flatR at hu
      obtain ⟨x, _, hx2⟩ := List.mem_flatMap.1 hu
      exact h1 x u hx2
    · have : (l.length + l2.length) * bytes ≤ 1000000 * 1000 := Nat.mul_le_mul hm hb
      omega
    · intro v' w' h2 h3 _ h4
      exact fin v' w' h2 h3 h4
theorem owns_nil {w : World} {base : Nat} {e : TypeId} : w.ownsRow base e size (.slice none ([] : List α).length 0) ([] : List α).length (flatR f ([] : List α)) := ⟨by simp [flatR], .inl ⟨rfl, rfl⟩⟩
end
end Go.Proofs.YtbcdimklblpdnaaDoor
