/- Layer 3: the board with a text: what the program reads; append of empty squares. -/
import Derived.Test.YtjglpphfkkabnaaDoorBj
import Derived.Test.YtjglpphfkkabnaaDoorOz
namespace Go.Proofs.YtjglpphfkkabnaaDoor
open Go.RowKit
set_option linter.unusedSimpArgs false
set_option linter.unusedVariables false

theorem zero_cells (m : Nat) : (Builtin.zeroCells #[Value.int .i8 0] m).toList = (List.replicate m (0 : Int)).map (Value.int .i8) := by
  rw [List.map_replicate]
  apply List.ext_getElem
  · simp [Builtin.zeroCells]
  · intro i h1 h2
    simp [Builtin.zeroCells, Nat.mod_one]
theorem wpList_zeros_q {ops : Array Oper} {rest : List Oper} {o : Oper} {a : Act} {w : World} {Q : Exit → Act → World → Prop} (hgd : o.guard = none) (s x : Operand)
    (ho : o.op = .call { callee := .builtin .append, args := #[s, x], argTypes := #[24, 5] })
    (base : Nat) (A : Option Addr) (c : Nat) (l : List Int) (hs : a.eval s = .slice A l.length c) (hown : Own1 qEnc 1 base 28 w A c l)
    (m : Nat) (hx : a.eval x = .int .u8 (m : Int)) (h0 : 0 < m) (hm : m ≤ 8) (hl : l.length ≤ 100000) (hbase : base ≤ w.heap.size)
    (l3 : List Int) (hl3 : l ++ List.replicate m 0 = l3) (h : ∀ (A' : Option Addr) (c' : Nat) (w' : World), Own1 qEnc 1 base 28 w' A' c' l3 → w.grownBy w' (Value.slice A l.length c).ownBlock → wpList Tryd.prog ops Q rest (a.put o.dst (.slice A' l3.length c')) w') : wpList Tryd.prog ops Q (o :: rest) a w := by
  subst hl3
  obtain ⟨ht, hp0, hb, i, z, hi, hz, hsz, hby, hzs⟩ := pieceRow
  have hzv : z = .int .i8 0 := by
    have h2 : (Tryd.prog.info? 28).map (·.zero) = some (some (.int .i8 0)) := by kernel_rfl
    rw [hi, Option.map_some, hz] at h2
    simpa using h2
  subst hzv
  have hzc : (Value.int .i8 0).cells = #[.int .i8 0] := rfl
  obtain ⟨v', w', hr, h2, h3⟩ := run_zeros_own (P := Tryd.prog) w base 24 5 o.type 28 .u8 .u8 i (.int .i8 0) 1 1 ht Tryd.underlying5 hi hz hsz hby hzs hp0 (by omega) _ _ _ hown m h0 (by omega) (by
    intro u hu
    rw [hzc, zero_cells] at hu
    obtain ⟨y, _, rfl⟩ := List.mem_map.1 hu
    rfl) (by omega) (by unfold maxLen; omega) hbase
  rw [hzc, zero_cells, flatQ, ← List.map_append, ← flatQ] at h2
  have hlen : (l ++ List.replicate m (0 : Int)).length = l.length + m := by rw [List.length_append, List.length_replicate]
  refine wpList_plain hgd fun K hK => ?_
  unfold Oper.wp execOp
  simp only [ho, resolve, invoke, builtin, Sem.run_bind, Sem.run_pure, Result.andThen_ok, List.map_toArray, List.map_cons, List.map_nil, hs, hx, hr]
  rw [← hlen] at h2
  rcases Go.Joins.ownsRow_forms h2 with ⟨rfl, h5⟩ | ⟨g, cap, rfl⟩
  · omega
  · exact hK _ _ (h _ _ w' h2 h3)
/-- what one byte of a rank stands for -/
def byteP (c : UInt8) : Option (List Int) := if 49 ≤ c.toNat ∧ c.toNat ≤ 56 then some (List.replicate (c.toNat - 48) 0) else if PC.parV c.toNat = 0 then none else some [PC.parV c.toNat]
def accB (acc : Option (List Int)) (c : UInt8) : Option (List Int) := acc.bind fun a => (byteP c).map (a ++ ·)
/-- the pieces of bytes -/
def pcsL (l : List UInt8) : Option (List Int) := l.foldl accB (some [])
theorem pcsL_snoc (l : List UInt8) (c : UInt8) : pcsL (l ++ [c]) = accB (pcsL l) c := by unfold pcsL; rw [List.foldl_append]; rfl
theorem accB_none (l : List UInt8) : l.foldl accB none = none := by
  induction l with
  | nil => rfl
  | cons c l ih => exact ih
theorem pcsL_none {l : List UInt8} (h : pcsL l = none) (t : List UInt8) : pcsL (l ++ t) = none := by
  unfold pcsL at *
  rw [List.foldl_append, h, accB_none]
theorem byteP_dig {c : UInt8} (h : 49 ≤ c.toNat ∧ c.toNat ≤ 56) : byteP c = some (List.replicate (c.toNat - 48) 0) := if_pos h
theorem byteP_no {c : UInt8} (h : ¬ (49 ≤ c.toNat ∧ c.toNat ≤ 56)) (h2 : PC.parV c.toNat = 0) : byteP c = none := by unfold byteP; rw [if_neg h, if_pos h2]
theorem byteP_yes {c : UInt8} (h : ¬ (49 ≤ c.toNat ∧ c.toNat ≤ 56)) (h2 : PC.parV c.toNat ≠ 0) : byteP c = some [PC.parV c.toNat] := by unfold byteP; rw [if_neg h, if_neg h2]
theorem byteP_len {c : UInt8} {l : List Int} (h : byteP c = some l) : l.length ≤ 8 := by
  unfold byteP at h
  split at h
  · obtain rfl := Option.some.inj h
    rw [List.length_replicate]; omega
  · split at h
    · cases h
    · obtain rfl := Option.some.inj h
      simp
theorem pcsL_len (l : List UInt8) (a : List Int) (h : pcsL l = some a) : a.length ≤ 8 * l.length := by
  have key : ∀ (l : List UInt8) (b a : List Int), l.foldl accB (some b) = some a → a.length ≤ b.length + 8 * l.length := by
    intro l
    induction l with
    | nil => intro b a h; obtain rfl := Option.some.inj h; simp
    | cons c l ih =>
      intro b a h
      rw [List.foldl_cons] at h
      cases hb : byteP c with
      | none => rw [show accB (some b) c = none by simp [accB, hb], accB_none] at h; cases h
      | some d =>
        rw [show accB (some b) c = some (b ++ d) by simp [accB, hb]] at h
        have h1 := ih (b ++ d) a h
        have h2 := byteP_len hb
        rw [List.length_append] at h1
        rw [List.length_cons]
        omega
  have := key l [] a h
  simpa using this
/-- the ranks of a text, parted by strokes, from the last to the first -/
def slash : ByteArray := ⟨#[47]⟩
def ranksB (s : ByteArray) : List ByteArray := (Lib.splitB slash 0 (Lib.countB s slash) s).reverse
def bytesK (rs : List ByteArray) (k : Nat) : List UInt8 := ((rs.take k).map (·.data.toList)).flatten
theorem bytesK_succ {rs : List ByteArray} {k : Nat} {x : ByteArray} (h : rs[k]? = some x) : bytesK rs (k + 1) = bytesK rs k ++ x.data.toList := by
  unfold bytesK
  rw [List.take_add_one, h, List.map_append, List.flatten_append]
  simp
theorem take_snoc (s : ByteArray) (k : Nat) (h : k < s.size) : s.data.toList.take (k + 1) = s.data.toList.take k ++ [s[k]'h] := by
  rw [List.take_succ_eq_append_getElem (by simpa using h)]; rfl
/-- what Parse reads -/
def parB (s : ByteArray) : Option (Nat × Nat × List Int) :=
  let rs := ranksB s
  if 8 < rs.length then none else match pcsL (bytesK rs rs.length) with
  | none => none
  | some P => if bdB ((P.length / rs.length : Nat) : Int) (rs.length : Int) P && decide (boardT (P.length / rs.length) rs.length P = s) then some (P.length / rs.length, rs.length, P) else none
theorem parB_far {s : ByteArray} (h : 8 < (ranksB s).length) : parB s = none := by unfold parB; simp only [if_pos h]
theorem parB_bad {s : ByteArray} (h : ¬ 8 < (ranksB s).length) (h2 : pcsL (bytesK (ranksB s) (ranksB s).length) = none) : parB s = none := by unfold parB; simp only [if_neg h, h2]
theorem parB_some {s : ByteArray} (h : ¬ 8 < (ranksB s).length) {P : List Int} (h2 : pcsL (bytesK (ranksB s) (ranksB s).length) = some P) :
    parB s = if bdB ((P.length / (ranksB s).length : Nat) : Int) ((ranksB s).length : Int) P && decide (boardT (P.length / (ranksB s).length) (ranksB s).length P = s) then some (P.length / (ranksB s).length, (ranksB s).length, P) else none := by unfold parB; simp only [if_neg h, h2]
end Go.Proofs.YtjglpphfkkabnaaDoor
