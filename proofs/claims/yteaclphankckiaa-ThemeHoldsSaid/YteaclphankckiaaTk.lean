/- Layer 35: what a tree shows: plain; what Find holds in memory; its inner function add. -/
import Derived.Test.YteaclphankckiaaTj
import Derived.Test.YteaclphankckiaaTe
namespace Go.Proofs.Yteaclphankckiaa
open Go Go.RowKit
set_option linter.unusedSimpArgs false
set_option linter.unusedVariables false

abbrev Sh' := Int × Int
def nPr (x : Nd) : Int := x.2.2.2
/-- the pieces promoted to in the first k moves -/
def kin (t : List Nd) : Nat → List Int
  | 0 => []
  | k + 1 => match t[k]? with
    | some x => if nPr x = 0 then kin t k else insP (nPr x) (kin t k)
    | none => kin t k
def s1 (x : Nd) : Bool := decide (nPr x ≠ 0)
def s2 (x : Nd) : Bool := decide (nPr x ≠ 0) && decide (nPr x ≠ 5)
def s3 (x : Nd) (ps : List Int) : Bool := decide (nPr x ≠ 0) && (decide (ps.length = 3) && !(decide (nPr x ∈ ps)))
def s4 (l : List Int) : Bool := decide (3 ≤ l.length) && pal l
def s5 (l : List Int) : Bool := decide (4 ≤ l.length) && (decide (l.getD (l.length - 1) 0 = l.getD 0 0) && !(pal l))
def sd (bk : Bool) (x : Nd) : Bool := bk == (x.1 % 2 == 1)
def rk2 (q : Int) (s : Bool) : Int := if s then q - 2 else 1
def s6 (f q : Int) (bk : Bool) (x : Nd) (l : List Int) : Bool := decide (nPr x ≠ 0) && (decide (3 ≤ l.length) && decide (l.getD 0 0 / f = rk2 q (sd bk x)))
def addL (b : Bool) (th i : Int) : List Sh' := if b then [(th, i)] else []
theorem addL_no (th i : Int) (l : List Sh') : l ++ addL false th i = l := List.append_nil l
/-- what the i-th move shows -/
def shL (f q : Int) (bk : Bool) (t : List Nd) (i : Nat) (x : Nd) : List Sh' :=
  (((((addL (s1 x) 1 i ++ addL (s2 x) 2 i) ++ addL (s3 x (kin t i)) 3 i) ++ addL (s4 (pth (back t (i + 1)))) 4 i) ++ addL (s5 (pth (back t (i + 1)))) 5 i) ++ addL (s6 f q bk x (pth (back t (i + 1)))) 6 i)
/-- what the first k moves show -/
def fnd (f q : Int) (bk : Bool) (t : List Nd) : Nat → List Sh'
  | 0 => []
  | k + 1 => match t[k]? with
    | some x => fnd f q bk t k ++ shL f q bk t k x
    | none => fnd f q bk t k
theorem fnd_succ {f q : Int} {bk : Bool} {t : List Nd} {k : Nat} {x : Nd} (h : t[k]? = some x) : fnd f q bk t (k + 1) = fnd f q bk t k ++ shL f q bk t k x := by
  show (match t[k]? with | some x => fnd f q bk t k ++ shL f q bk t k x | none => fnd f q bk t k) = _
  rw [h]
theorem kin_succ {t : List Nd} {k : Nat} {x : Nd} (h : t[k]? = some x) : kin t (k + 1) = if nPr x = 0 then kin t k else insP (nPr x) (kin t k) := by
  show (match t[k]? with | some x => if nPr x = 0 then kin t k else insP (nPr x) (kin t k) | none => kin t k) = _
  rw [h]
theorem addL_len (b : Bool) (th i : Int) : (addL b th i).length ≤ 1 := by unfold addL; split <;> simp
theorem shL_len (f q : Int) (bk : Bool) (t : List Nd) (i : Nat) (x : Nd) : (shL f q bk t i x).length ≤ 6 := by
  unfold shL
  have h1 := addL_len (s1 x) 1 i
  have h2 := addL_len (s2 x) 2 i
  have h3 := addL_len (s3 x (kin t i)) 3 i
  have h4 := addL_len (s4 (pth (back t (i + 1)))) 4 i
  have h5 := addL_len (s5 (pth (back t (i + 1)))) 5 i
  have h6 := addL_len (s6 f q bk x (pth (back t (i + 1)))) 6 i
  simp only [List.length_append]
  omega
theorem fnd_len (f q : Int) (bk : Bool) (t : List Nd) : ∀ k, (fnd f q bk t k).length ≤ 6 * k
  | 0 => Nat.le_refl _
  | k + 1 => by
    have ih := fnd_len f q bk t k
    cases h : t[k]? with
    | none =>
      have e : fnd f q bk t (k + 1) = fnd f q bk t k := by
        show (match t[k]? with | some x => fnd f q bk t k ++ shL f q bk t k x | none => fnd f q bk t k) = _
        rw [h]
      rw [e]; omega
    | some x =>
      rw [fnd_succ h, List.length_append]
      have := shL_len f q bk t k x
      omega
theorem insP_len_le (p : Int) (ps : List Int) : (insP p ps).length ≤ ps.length + 1 := by rw [insP_len]; split <;> omega
theorem kin_len (t : List Nd) : ∀ k, (kin t k).length ≤ k
  | 0 => Nat.le_refl _
  | k + 1 => by
    have ih := kin_len t k
    cases h : t[k]? with
    | none =>
      have e : kin t (k + 1) = kin t k := by
        show (match t[k]? with | some x => if nPr x = 0 then kin t k else insP (nPr x) (kin t k) | none => kin t k) = _
        rw [h]
      rw [e]; omega
    | some x =>
      rw [kin_succ h]
      have := insP_len_le (nPr x) (kin t k)
      split <;> omega
def shEnc (x : Sh') : List Value := [.int .i64 x.1, .int .i64 x.2]
theorem shEnc_len (x : Sh') : (shEnc x).length = 2 := rfl
theorem shEnc_one (x : Sh') : ∀ u ∈ shEnc x, u.oneCell' = true := by
  intro u hu
  simp only [shEnc, List.mem_cons, List.not_mem_nil, or_false] at hu
  rcases hu with rfl | rfl <;> rfl
theorem shRow : RowOf Try.prog 36 52 2 16 :=
  RowOf.mk' (z := .agg #[.int .i64 0, .int .i64 0]) Try.underlying36 (by kernel_rfl) (by decide) (by decide) rfl
theorem recs_sh (w : World) (x : Sh') (t : TypeId) {b : Nat} (hb : b = w.heap.size) : RecAt shEnc 2 (w.alloc (.cells #[.int .i64 x.1, .int .i64 x.2] t)) (w.alloc (.cells #[.int .i64 x.1, .int .i64 x.2] t)).heap.size (some ⟨b, 0, none⟩) [x] := by
  subst hb
  intro _
  have h2 := heap_alloc_new w (.cells #[.int .i64 x.1, .int .i64 x.2] t)
  refine ⟨w.heap.size, 0, rfl, by simp, fun k y hk j u hu => ?_⟩
  have hk0 : k = 0 := by have := (List.getElem?_eq_some_iff.1 hk).1; simp at this; omega
  subst hk0
  obtain rfl : x = y := by simpa using hk
  match j, hu with
  | 0, hu => rw [show u = .int .i64 x.1 from (Option.some.inj hu).symm, cell_of_row _ _ _ _ _ _ h2]; rfl
  | 1, hu => rw [show u = .int .i64 x.2 from (Option.some.inj hu).symm, cell_of_row _ _ _ _ _ _ h2]; rfl
  | (j + 2), hu => simp [shEnc] at hu
/-- what Find holds: the boxes from block n0 on, the row of what has been shown -/
structure FS (m0 n0 : Nat) (f q : Int) (bk : Bool) (At : Option Addr) (t : List Nd) (ct : Nat) (W : World) (A : Option Addr) (c : Nat) (acc : List Sh') (ps : List Int) (n : Nat) : Prop where
  c0 : W.cell? ⟨m0, 0, none⟩ = some (.int .i64 f)
  c1 : W.cell? ⟨m0, 1, none⟩ = some (.int .i64 q)
  cb : W.cell? ⟨m0 + 1, 0, none⟩ = some (.bool bk)
  ctt : W.cell? ⟨m0 + 2, 0, none⟩ = some (.slice At t.length ct)
  co : W.cell? ⟨n0 + 3, 0, none⟩ = some (.slice A acc.length c)
  fo : W.frozen? ⟨n0 + 3, 0, none⟩ = false
  set : PSet W (n0 + 4) n ps
  ck : W.cell? ⟨n0 + 5, 0, none⟩ = some (.map (some (n0 + 4)))
  row : Own1 shEnc 2 (n0 + 6) 52 W A c acc
  recs : RecAt nEnc 4 W m0 At t
  size : n0 + 6 ≤ W.heap.size
  le : m0 ≤ n0
section
variable {m0 n0 : Nat} {f q : Int} {bk : Bool} {At : Option Addr} {t : List Nd} {ct : Nat} {W W' : World} {A A' : Option Addr} {c c' : Nat} {acc acc' : List Sh'} {ps : List Int} {n : Nat}
/-- others' blocks are written -/
theorem FS.grown (h : FS m0 n0 f q bk At t ct W A c acc ps n) {r : Option Nat} (hg : W.grownBy W' r) (hr : ∀ b, r = some b → n0 + 6 ≤ b ∧ (Value.slice A acc.length c).ownBlock ≠ some b) : FS m0 n0 f q bk At t ct W' A c acc ps n := by
  have hs := h.size
  have hle := h.le
  have hk : ∀ b, b < n0 + 6 → W'.heap[b]? = W.heap[b]? := fun b hb => hg.block b (by omega) (fun e => by have := (hr b e.symm).1; omega)
  have hc : ∀ (b i : Nat), b < n0 + 6 → W'.cell? ⟨b, i, none⟩ = W.cell? ⟨b, i, none⟩ := fun b i hb => World.cell?_of_block (hk b hb)
  refine ⟨(hc _ _ (by omega)).trans h.c0, (hc _ _ (by omega)).trans h.c1, (hc _ _ (by omega)).trans h.cb, (hc _ _ (by omega)).trans h.ctt, (hc _ _ (by omega)).trans h.co, (World.frozen?_of_block (a := ⟨n0 + 3, 0, none⟩) (hk _ (by show n0 + 3 < _; omega))).trans h.fo, h.set.of_block (hk _ (by omega)), (hc _ _ (by omega)).trans h.ck,
    own_block h.row (fun b hb => hg.block b (World.ownsRow.lt h.row b hb).2 (fun e => (hr b e.symm).2 hb)), ?_, Nat.le_trans hs hg.size, h.le⟩
  intro h0
  obtain ⟨b, off, e, hb, hcl⟩ := h.recs h0
  exact ⟨b, off, e, hb, fun k x hx j u hu => (hc b _ (by omega)).trans (hcl k x hx j u hu)⟩
theorem FS.next (h : FS m0 n0 f q bk At t ct W A c acc ps n) (hb : Below W.heap.size W W') : FS m0 n0 f q bk At t ct W' A c acc ps n := h.grown (grown_of_below hb) (fun b e => by cases e)
theorem FS.drew (h : FS m0 n0 f q bk At t ct W A c acc ps n) : FS m0 n0 f q bk At t ct W.drew A c acc ps n := h.next (Below.refl _ _).drew
/-- the map is written -/
theorem FS.kinds (h : FS m0 n0 f q bk At t ct W A c acc ps n) {ps' : List Int} {n' : Nat} (hs : PSet W' (n0 + 4) n' ps') (hg : W.grownBy W' (some (n0 + 4))) : FS m0 n0 f q bk At t ct W' A c acc ps' n' := by
  have hs0 := h.size
  have hle := h.le
  have hk : ∀ b, b < n0 + 6 → b ≠ n0 + 4 → W'.heap[b]? = W.heap[b]? := fun b hb hne => hg.block b (by omega) (fun e => hne (Option.some.inj e))
  have hc : ∀ (b i : Nat), b < n0 + 6 → b ≠ n0 + 4 → W'.cell? ⟨b, i, none⟩ = W.cell? ⟨b, i, none⟩ := fun b i hb hne => World.cell?_of_block (hk b hb hne)
  refine ⟨(hc _ _ (by omega) (by omega)).trans h.c0, (hc _ _ (by omega) (by omega)).trans h.c1, (hc _ _ (by omega) (by omega)).trans h.cb, (hc _ _ (by omega) (by omega)).trans h.ctt, (hc _ _ (by omega) (by omega)).trans h.co, (World.frozen?_of_block (a := ⟨n0 + 3, 0, none⟩) (hk _ (by show n0 + 3 < _; omega) (by show n0 + 3 ≠ _; omega))).trans h.fo, hs, (hc _ _ (by omega) (by omega)).trans h.ck,
    own_block h.row (fun b hb => hg.block b (World.ownsRow.lt h.row b hb).2 (fun e => by have := (World.ownsRow.lt h.row b hb).1; have := Option.some.inj e; omega)), ?_, Nat.le_trans hs0 hg.size, h.le⟩
  intro h0
  obtain ⟨b, off, e, hb, hcl⟩ := h.recs h0
  exact ⟨b, off, e, hb, fun k x hx j u hu => (hc b _ (by omega) (by omega)).trans (hcl k x hx j u hu)⟩
/-- the row is turned, then its cell -/
theorem FS.app (h : FS m0 n0 f q bk At t ct W A c acc ps n) (hown : W'.ownsRow (n0 + 6) 52 2 (.slice A' acc'.length c') acc'.length (flatR shEnc acc')) (hg : W.grownBy W' (Value.slice A acc.length c).ownBlock) : FS m0 n0 f q bk At t ct (W'.setCell ⟨n0 + 3, 0, none⟩ (.slice A' acc'.length c')) A' c' acc' ps n := by
  have hs0 := h.size
  have hle := h.le
  have hk : ∀ b, b < n0 + 6 → W'.heap[b]? = W.heap[b]? := fun b hb => hg.block b (by omega) (fun e => by have := (World.ownsRow.lt h.row b e.symm).1; omega)
  have hc : ∀ (b i : Nat), b < n0 + 6 → W'.cell? ⟨b, i, none⟩ = W.cell? ⟨b, i, none⟩ := fun b i hb => World.cell?_of_block (hk b hb)
  have hd : ∀ (b i : Nat), b < n0 + 6 → b ≠ n0 + 3 → (W'.setCell ⟨n0 + 3, 0, none⟩ (.slice A' acc'.length c')).cell? ⟨b, i, none⟩ = W.cell? ⟨b, i, none⟩ := fun b i hb hne => (World.cell?_setCell_far _ _ _ _ (fun e => hne e.symm)).trans (hc b i hb)
  have hne : (Value.slice A' acc'.length c').ownBlock ≠ some (n0 + 3) := fun e => by have := (World.ownsRow.lt hown _ e).1; omega
  refine ⟨(hd _ _ (by omega) (by omega)).trans h.c0, (hd _ _ (by omega) (by omega)).trans h.c1, (hd _ _ (by omega) (by omega)).trans h.cb, (hd _ _ (by omega) (by omega)).trans h.ctt, World.cell?_setCell_same' _ _ _ (by rw [hc _ _ (by omega), h.co]; rfl), by rw [World.frozen?_setCell]; exact (World.frozen?_of_block (a := ⟨n0 + 3, 0, none⟩) (hk _ (by show n0 + 3 < _; omega))).trans h.fo,
    h.set.of_block ((Below.heap_setCell _ _ _ _ (by show n0 + 4 ≠ n0 + 3; omega)).trans (hk _ (by omega))), (hd _ _ (by omega) (by omega)).trans h.ck, ownsRow_setCell_other hown hne _, ?_, by rw [nblk_set]; exact Nat.le_trans hs0 hg.size, h.le⟩
  intro h0
  obtain ⟨b, off, e, hb, hcl⟩ := h.recs h0
  exact ⟨b, off, e, hb, fun k x hx j u hu => (hd b _ (by omega) (by omega)).trans (hcl k x hx j u hu)⟩
end
/-- what a call of add leaves -/
def AddP2 (m0 n0 : Nat) (f q : Int) (bk : Bool) (At : Option Addr) (t : List Nd) (ct : Nat) (W : World) (A : Option Addr) (c : Nat) (acc : List Sh') (ps : List Int) (n : Nat) (add : List Sh') (e : Ending) (W' : World) : Prop :=
  e = .returned (.tuple #[]) ∧ ∃ A' c', FS m0 n0 f q bk At t ct W' A' c' (acc ++ add) ps n ∧ GFr (fun b => b = n0 + 3 ∨ (Value.slice A acc.length c).ownBlock = some b) W W' ∧ ∀ b, (Value.slice A' (acc ++ add).length c').ownBlock = some b → (Value.slice A acc.length c).ownBlock = some b ∨ W.heap.size ≤ b
set_option maxRecDepth 100000 in
set_option maxHeartbeats 1000000 in
theorem padd2 (m0 n0 : Nat) (f q : Int) (bk : Bool) (At : Option Addr) (t : List Nd) (ct : Nat) (W : World) (A : Option Addr) (c : Nat) (acc : List Sh') (ps : List Int) (n : Nat) (th i : Int) (b : Bool) (Bi : Nat) (hF : FS m0 n0 f q bk At t ct W A c acc ps n) (hi : W.cell? ⟨Bi, 0, none⟩ = some (.int .i64 i)) (hl : acc.length ≤ 100000) :
    Calls Try.prog 35 #[.int .i64 th, .bool b, .pointer (some ⟨n0 + 3, 0, none⟩), .pointer (some ⟨Bi, 0, none⟩)] W (AddP2 m0 n0 f q bk At t ct W A c acc ps n (addL b th i)) := by
  have hFH := Lib.hid hF
  have hs := hF.size
  cases b with
  | false =>
    clear hF
    go_enter Try.func35, Try.ntmps35
    go_wp2_with fail
    refine bodyPost_ret (results_none rfl _ _ _) rfl ?_
    refine ⟨rfl, A, c, ?_, GFr.refl _ _, fun b hb => .inl ?_⟩
    · rw [addL_no]; exact hFH.out
    · rw [addL_no] at hb; exact hb
  | true =>
    have co := hF.co
    have fo := hF.fo
    obtain ⟨acc2, hacc⟩ : ∃ acc2, acc ++ [(th, i)] = acc2 := ⟨_, rfl⟩
    have hadd : Hid (acc ++ addL true th i = acc2) := hacc
    replace hacc := Lib.hid hacc
    clear hF
    have hw : Hid (∀ (A' : Option Addr) (c' : Nat) (W' : World), W'.ownsRow (n0 + 6) 52 2 (.slice A' acc2.length c') acc2.length (flatR shEnc acc2) → (W.alloc (.cells #[.int .i64 th, .int .i64 i] 52)).grownBy W' (Value.slice A acc.length c).ownBlock →
        ((Value.slice A' acc2.length c').ownBlock = (Value.slice A acc.length c).ownBlock ∨ (Value.slice A' acc2.length c').ownBlock = some (W.alloc (.cells #[.int .i64 th, .int .i64 i] 52)).heap.size) →
        AddP2 m0 n0 f q bk At t ct W A c acc ps n (addL true th i) (.returned (.tuple #[])) (W'.setCell ⟨n0 + 3, 0, none⟩ (.slice A' acc2.length c')) ∧ W'.cell? ⟨n0 + 3, 0, none⟩ = some (.slice A acc.length c) ∧ W'.frozen? ⟨n0 + 3, 0, none⟩ = false) := fun A' c' W' hown hg hat => by
      have hb1 : Below W.heap.size W (W.alloc (.cells #[.int .i64 th, .int .i64 i] 52)) := (Below.refl _ _).alloc (Nat.le_refl _) _
      have hF1 := hFH.out.next hb1
      have hblk : W'.heap[n0 + 3]? = W.heap[n0 + 3]? := (hg.block _ (by simp; omega) (fun e => by have := (World.ownsRow.lt hFH.out.row _ e.symm).1; omega)).trans (hb1.block _ (by omega))
      refine ⟨⟨rfl, A', c', ?_, ?_, ?_⟩, (World.cell?_of_block (a := ⟨n0 + 3, 0, none⟩) hblk).trans hFH.out.co, (World.frozen?_of_block (a := ⟨n0 + 3, 0, none⟩) hblk).trans hFH.out.fo⟩
      · rw [hadd.out]; exact hF1.app hown hg
      · have h1 : GFr (fun b => b = n0 + 3 ∨ (Value.slice A acc.length c).ownBlock = some b) W W' := ((GFr.refl _ W).grown (grown_of_below hb1) (fun b e => by cases e)).grown hg (fun b e _ => .inr e)
        refine ⟨h1.os, h1.tape, h1.output, by rw [nblk_set]; exact h1.size, fun b hb ho => ?_⟩
        rw [Below.heap_setCell _ _ _ _ (fun e => ho (.inl (by first | exact e | exact e.symm)))]
        exact h1.block b hb ho
      · rw [hadd.out]
        intro b hb
        rcases hat with e | e
        · exact .inl (e.symm.trans hb)
        · rw [hb] at e
          have := Option.some.inj e
          refine .inr ?_
          rw [this]; simp
    go_enter Try.func35, Try.ntmps35
    go_wp2_with (at_builtin; refine wpList_append_recs shRow shEnc_len shEnc_one rfl _ _ rfl (n0 + 6) A c acc rfl (World.ownsRow.alloc hFH.out.row _) _ 1 [(th, i)] rfl (recs_sh _ (th, i) _ rfl) (by simp only [List.length_cons, List.length_nil]; omega) (by simp; omega) ?_; intro A3 c3 w3 hown3 hg3 hat3; rw [hacc.out] at hown3 hat3 ⊢; have hfin := hw.out A3 c3 w3 hown3 hg3 hat3; clear hown3 hg3 hat3; obtain ⟨hfin, co3, fo3⟩ := hfin; replace hfin := Lib.hid hfin)
    refine bodyPost_ret (results_none rfl _ _ _) rfl ?_
    exact hfin.out
end Go.Proofs.Yteaclphankckiaa
