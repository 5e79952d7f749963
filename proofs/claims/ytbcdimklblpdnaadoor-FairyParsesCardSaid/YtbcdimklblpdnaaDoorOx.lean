/- Append of records at a step of a region that draws its order; three rows of one's own that lie apart. No program in sight. -/
import Derived.Test.YtbcdimklblpdnaaDoorOw
import Derived.RegionTactic
namespace Go.Proofs.YtbcdimklblpdnaaDoor
open Go Go.RowKit
set_option linter.unusedSimpArgs false
set_option linter.unusedVariables false

section
variable {α : Type} {f : α → List Value} {size : Nat}
theorem run_append_recs {P : Program} {t e : TypeId} {bytes : Nat} (R : RowOf P t e size bytes) (hf : ∀ x, (f x).length = size) (h1 : ∀ x, ∀ u ∈ f x, u.oneCell' = true) (ty : TypeId) {w : World}
    (base : Nat) (A : Option Addr) (c : Nat) (l : List α) (hown : w.ownsRow base e size (.slice A l.length c) l.length (flatR f l))
    (A2 : Option Addr) (c2 : Nat) (l2 : List α) (hg : RecAt f size w w.heap.size A2 l2) (hm : l.length + l2.length ≤ 1000000) (hbase : base ≤ w.heap.size) :
    ∃ (A' : Option Addr) (c' : Nat) (w' : World), (Builtin.append_ #[t, t] ty #[.slice A l.length c, .slice A2 l2.length c2]).run P w = .ok (.slice A' (l ++ l2).length c') w' ∧
      w'.ownsRow base e size (.slice A' (l ++ l2).length c') (l ++ l2).length (flatR f (l ++ l2)) ∧ w.grownBy w' (Value.slice A l.length c).ownBlock ∧
      ((Value.slice A' (l ++ l2).length c').ownBlock = (Value.slice A l.length c).ownBlock ∨ (Value.slice A' (l ++ l2).length c').ownBlock = some w.heap.size) := by
  obtain ⟨ht, h0, hb, i, z, hi, hz, hsz, hby, hzs⟩ := R
  have hlen : (l ++ l2).length = l.length + l2.length := List.length_append
  have fin : ∀ (v' : Value) (w' : World), (Builtin.append_ #[t, t] ty #[.slice A l.length c, .slice A2 l2.length c2]).run P w = .ok v' w' → w'.ownsRow base e size v' (l.length + l2.length) (flatR f l ++ flatR f l2) → w.grownBy w' (Value.slice A l.length c).ownBlock →
      (v'.ownBlock = (Value.slice A l.length c).ownBlock ∨ v'.ownBlock = some w.heap.size) → ∃ (A' : Option Addr) (c' : Nat) (w' : World), (Builtin.append_ #[t, t] ty #[.slice A l.length c, .slice A2 l2.length c2]).run P w = .ok (.slice A' (l ++ l2).length c') w' ∧
      w'.ownsRow base e size (.slice A' (l ++ l2).length c') (l ++ l2).length (flatR f (l ++ l2)) ∧ w.grownBy w' (Value.slice A l.length c).ownBlock ∧
      ((Value.slice A' (l ++ l2).length c').ownBlock = (Value.slice A l.length c).ownBlock ∨ (Value.slice A' (l ++ l2).length c').ownBlock = some w.heap.size) := by
    intro v' w' hr h2 h3 h4
    rw [← hlen, ← flatR_append] at h2
    rcases Go.Joins.ownsRow_forms h2 with ⟨rfl, h5⟩ | ⟨g, cap, rfl⟩
    · have e : (Value.slice none 0 0) = .slice none (l ++ l2).length 0 := by rw [h5]
      rw [e] at h2 h4 hr
      exact ⟨none, 0, w', hr, h2, h3, h4⟩
    · exact ⟨_, _, w', hr, h2, h3, h4⟩
  rcases Nat.eq_zero_or_pos l2.length with hz2 | hz2
  · have hl2 : l2 = [] := List.eq_nil_of_length_eq_zero hz2
    subst hl2
    rcases A2 with _ | ad
    · have hrun := run_append_empty (P := P) base t ty e i size ht hi _ _ _ hown c2
      exact fin _ _ hrun (by simpa [flatR] using hown) (World.grownBy.refl w _) (.inl rfl)
    · obtain ⟨v', w', hr, h2, h3, _, h4⟩ := run_append_own_at (P := P) w base t ty e i z size bytes ht hi hz hsz hby hzs h0 _ _ _ hown ad 0 c2 [] (by simp) (by simp) (by simp) (by unfold maxLen; omega) (by
        have : l.length * bytes ≤ 1000000 * 1000 := Nat.mul_le_mul (by omega) hb
        simp only [Nat.add_zero]
        omega) hbase
      exact fin v' w' hr (by simpa [flatR] using h2) h3 h4
  · obtain ⟨b, off, rfl, _, hc⟩ := hg hz2
    obtain ⟨v', w', hr, h2, h3, _, h4⟩ := run_append_own_at (P := P) w base t ty e i z size bytes ht hi hz hsz hby hzs h0 _ _ _ hown ⟨b, off, none⟩ l2.length c2 (flatR f l2) (flatR_length hf l2) (by
      intro j u hu
      obtain ⟨x, hx1, hx2⟩ := flatR_ex hf h0 l2 j u hu
      rw [addr_add]
      have := hc _ _ hx1 _ _ hx2
      rwa [show off + j / size * size + j % size = off + j by rw [Nat.add_assoc, Nat.mul_comm, Nat.div_add_mod]] at this) (by
      intro u hu
      unfold flatR at hu
      obtain ⟨x, _, hx2⟩ := List.mem_flatMap.1 hu
      exact h1 x u hx2) (by unfold maxLen; omega) (by
      have : (l.length + l2.length) * bytes ≤ 1000000 * 1000 := Nat.mul_le_mul hm hb
      omega) hbase
    exact fin v' w' hr h2 h3 h4

theorem step_append_recs {P : Program} {t e : TypeId} {bytes : Nat} (R : RowOf P t e size bytes) (hf : ∀ x, (f x).length = size) (h1 : ∀ x, ∀ u ∈ f x, u.oneCell' = true)
    {ops : Array Oper} {o : Oper} {a : Act} {w : World} {K : Act → World → Prop} {Q : Exit → Act → World → Prop} {E : Prop} (hgd : o.guard = none) (s x : Operand)
    (ho : o.op = .call { callee := .builtin .append, args := #[s, x], argTypes := #[t, t] })
    (base : Nat) (A : Option Addr) (c : Nat) (l : List α) (hs : a.eval s = .slice A l.length c) (hown : w.ownsRow base e size (.slice A l.length c) l.length (flatR f l))
    (A2 : Option Addr) (c2 : Nat) (l2 : List α) (hx : a.eval x = .slice A2 l2.length c2) (hg : RecAt f size w w.heap.size A2 l2)
    (hm : l.length + l2.length ≤ 1000000) (hbase : base ≤ w.heap.size)
    (h : ∀ (A' : Option Addr) (c' : Nat) (w' : World), w'.ownsRow base e size (.slice A' (l ++ l2).length c') (l ++ l2).length (flatR f (l ++ l2)) → w.grownBy w' (Value.slice A l.length c).ownBlock →
      ((Value.slice A' (l ++ l2).length c').ownBlock = (Value.slice A l.length c).ownBlock ∨ (Value.slice A' (l ++ l2).length c').ownBlock = some w.heap.size) →
      K (a.put o.dst (.slice A' (l ++ l2).length c')) w') :
    if Region.wanted o (yielded ops a.tmps) = true then Oper.wp P o a w K Q else E := by
  have hw : Region.wanted o (yielded ops a.tmps) = true := by simp [Region.wanted, hgd]
  rw [if_pos hw]
  obtain ⟨A', c', w', hr, h2, h3, h4⟩ := run_append_recs R hf h1 o.type base A c l hown A2 c2 l2 hg hm hbase
  unfold Oper.wp execOp
  simp only [ho, resolve, invoke, builtin, Sem.run_bind, Sem.run_pure, Result.andThen_ok, List.map_toArray, List.map_cons, List.map_nil, hs, hx, hr]
  exact h A' c' w' h2 h3 h4

/-- two addresses, if there are two, lie in different blocks -/
def ApartA (A A' : Option Addr) : Prop := ∀ a a', A = some a → A' = some a' → a.block ≠ a'.block
theorem ApartA.symm {A A' : Option Addr} (h : ApartA A A') : ApartA A' A := fun a a' h1 h2 e => h a' a h2 h1 e.symm
theorem ownBlock_slice (A : Option Addr) (n c : Nat) : (Value.slice A n c).ownBlock = A.map (·.block) := by cases A <;> rfl

/-- a row of one's own, in world w -/
def Own1 (f : α → List Value) (size : Nat) (base : Nat) (e : TypeId) (w : World) (A : Option Addr) (c : Nat) (l : List α) : Prop := w.ownsRow base e size (.slice A l.length c) l.length (flatR f l)
variable {base : Nat} {e : TypeId} {w w' : World} {A A' B : Option Addr} {c c' d : Nat} {l l' m : List α}
theorem Own1.grown (h : Own1 f size base e w A c l) (hg : w.grownBy w' (Value.slice B m.length d).ownBlock) (hap : ApartA A B) : Own1 f size base e w' A c l := by
  refine World.ownsRow.kept h hg ?_
  rw [ownBlock_slice, ownBlock_slice]
  cases A with
  | none => exact .inl rfl
  | some a =>
    right
    cases B with
    | none => simp
    | some b =>
      simp only [Option.map_some, ne_eq, Option.some.injEq]
      exact hap a b rfl rfl
theorem Own1.lt (h : Own1 f size base e w A c l) {a : Addr} (ha : A = some a) : base ≤ a.block ∧ a.block < w.heap.size := World.ownsRow.lt h a.block (by rw [ownBlock_slice, ha]; rfl)
theorem ApartA.next (h : ApartA A B) (ho : Own1 f size base e w B d m) (hat : (Value.slice A' l'.length c').ownBlock = (Value.slice A l.length c).ownBlock ∨ (Value.slice A' l'.length c').ownBlock = some w.heap.size) : ApartA A' B := by
  intro a b ha hb e
  rw [ownBlock_slice, ownBlock_slice] at hat
  subst ha
  rcases hat with hat | hat
  · cases A with
    | none => cases hat
    | some a2 =>
      simp only [Option.map_some, Option.some.injEq] at hat
      exact h a2 b rfl hb (by rw [← hat]; exact e)
  · simp only [Option.map_some, Option.some.injEq] at hat
    have := (ho.lt hb).2
    omega

/-- three rows of one's own that lie apart; below the base nothing has turned -/
structure R3 (f : α → List Value) (size : Nat) (base : Nat) (e : TypeId) (w0 w : World) (A1 : Option Addr) (c1 : Nat) (l1 : List α) (A2 : Option Addr) (c2 : Nat) (l2 : List α) (A3 : Option Addr) (c3 : Nat) (l3 : List α) : Prop where
  o1 : Own1 f size base e w A1 c1 l1
  o2 : Own1 f size base e w A2 c2 l2
  o3 : Own1 f size base e w A3 c3 l3
  a12 : ApartA A1 A2
  a13 : ApartA A1 A3
  a23 : ApartA A2 A3
  below : Below base w0 w
  size : base ≤ w.heap.size
variable {w0 : World} {A1 A2 A3 : Option Addr} {c1 c2 c3 : Nat} {l1 l2 l3 : List α}
theorem R3.alloc (h : R3 f size base e w0 w A1 c1 l1 A2 c2 l2 A3 c3 l3) (o : Obj) : R3 f size base e w0 (w.alloc o) A1 c1 l1 A2 c2 l2 A3 c3 l3 :=
  ⟨World.ownsRow.alloc h.o1 o, World.ownsRow.alloc h.o2 o, World.ownsRow.alloc h.o3 o, h.a12, h.a13, h.a23, h.below.alloc h.size o, Nat.le_trans h.size (by simp)⟩
theorem R3.drew (h : R3 f size base e w0 w A1 c1 l1 A2 c2 l2 A3 c3 l3) : R3 f size base e w0 w.drew A1 c1 l1 A2 c2 l2 A3 c3 l3 :=
  ⟨h.o1, h.o2, h.o3, h.a12, h.a13, h.a23, h.below.drew, h.size⟩
theorem R3.app1 (h : R3 f size base e w0 w A1 c1 l1 A2 c2 l2 A3 c3 l3) (hown : w'.ownsRow base e size (.slice A l.length c) l.length (flatR f l)) (hg : w.grownBy w' (Value.slice A1 l1.length c1).ownBlock)
    (hat : (Value.slice A l.length c).ownBlock = (Value.slice A1 l1.length c1).ownBlock ∨ (Value.slice A l.length c).ownBlock = some w.heap.size) : R3 f size base e w0 w' A c l A2 c2 l2 A3 c3 l3 :=
  ⟨hown, h.o2.grown hg h.a12.symm, h.o3.grown hg h.a13.symm, h.a12.next h.o2 hat, h.a13.next h.o3 hat, h.a23, h.below.grown hg h.size (fun k hk => (World.ownsRow.lt h.o1 k hk).1), Nat.le_trans h.size hg.size⟩
theorem R3.app2 (h : R3 f size base e w0 w A1 c1 l1 A2 c2 l2 A3 c3 l3) (hown : w'.ownsRow base e size (.slice A l.length c) l.length (flatR f l)) (hg : w.grownBy w' (Value.slice A2 l2.length c2).ownBlock)
    (hat : (Value.slice A l.length c).ownBlock = (Value.slice A2 l2.length c2).ownBlock ∨ (Value.slice A l.length c).ownBlock = some w.heap.size) : R3 f size base e w0 w' A1 c1 l1 A c l A3 c3 l3 :=
  ⟨h.o1.grown hg h.a12, hown, h.o3.grown hg h.a23.symm, (h.a12.symm.next h.o1 hat).symm, h.a13, h.a23.next h.o3 hat, h.below.grown hg h.size (fun k hk => (World.ownsRow.lt h.o2 k hk).1), Nat.le_trans h.size hg.size⟩
theorem R3.app3 (h : R3 f size base e w0 w A1 c1 l1 A2 c2 l2 A3 c3 l3) (hown : w'.ownsRow base e size (.slice A l.length c) l.length (flatR f l)) (hg : w.grownBy w' (Value.slice A3 l3.length c3).ownBlock)
    (hat : (Value.slice A l.length c).ownBlock = (Value.slice A3 l3.length c3).ownBlock ∨ (Value.slice A l.length c).ownBlock = some w.heap.size) : R3 f size base e w0 w' A1 c1 l1 A2 c2 l2 A c l :=
  ⟨h.o1.grown hg h.a13, h.o2.grown hg h.a23, hown, h.a12, (h.a13.symm.next h.o1 hat).symm, (h.a23.symm.next h.o2 hat).symm, h.below.grown hg h.size (fun k hk => (World.ownsRow.lt h.o3 k hk).1), Nat.le_trans h.size hg.size⟩
end
end Go.Proofs.YtbcdimklblpdnaaDoor
