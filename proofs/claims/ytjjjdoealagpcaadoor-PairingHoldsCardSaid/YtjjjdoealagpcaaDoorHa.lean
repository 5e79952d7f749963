/- Layer 43: what a pairing costs, plain; rounds in memory. -/
import Derived.Test.YtjjjdoealagpcaaDoorGw
namespace Go.Proofs.YtjjjdoealagpcaaDoor
open Go Go.RowKit
set_option linter.unusedSimpArgs false
set_option linter.unusedVariables false
def tEnc (x : Bool) : List Value := [.bool x]
/-- a row of numbers and one of truth values at fixed places -/
structure RC (w : World) (bo oo bv ov : Nat) (o : List Int) (v : List Bool) : Prop where
  co : ∀ (k : Nat) (x : Int), o[k]? = some x → w.cell? ⟨bo, oo + k, none⟩ = some (.int .i64 x)
  cv : ∀ (k : Nat) (x : Bool), v[k]? = some x → w.cell? ⟨bv, ov + k, none⟩ = some (.bool x)
  lo : bo < w.heap.size
  lv : bv < w.heap.size
theorem RC.next {w w' : World} {bo oo bv ov : Nat} {o : List Int} {v : List Bool} (h : RC w bo oo bv ov o v) (hb : Below w.heap.size w w') : RC w' bo oo bv ov o v :=
  ⟨fun k x hx => (hb.cell (p := ⟨bo, _, none⟩) h.lo).trans (h.co k x hx), fun k x hx => (hb.cell (p := ⟨bv, _, none⟩) h.lv).trans (h.cv k x hx), Nat.lt_of_lt_of_le h.lo hb.size, Nat.lt_of_lt_of_le h.lv hb.size⟩
/-- a round's two rows -/
structure RM (w : World) (O V : Option Addr) (o : List Int) (v : List Bool) : Prop where
  ro : RecAt iEnc 1 w w.heap.size O o
  rv : RecAt tEnc 1 w w.heap.size V v
theorem recs_next {α : Type} {f : α → List Value} {size : Nat} {w w' : World} {A : Option Addr} {l : List α} (h : RecAt f size w w.heap.size A l) (hb : Below w.heap.size w w') : RecAt f size w' w'.heap.size A l := fun h0 => by
  obtain ⟨b, off, e, hlt, hc⟩ := h h0
  exact ⟨b, off, e, Nat.lt_of_lt_of_le hlt hb.size, fun k x hx j u hu => (hb.cell (p := ⟨b, _, none⟩) hlt).trans (hc k x hx j u hu)⟩
theorem RM.next {w w' : World} {O V : Option Addr} {o : List Int} {v : List Bool} (h : RM w O V o v) (hb : Below w.heap.size w w') : RM w' O V o v := ⟨recs_next h.ro hb, recs_next h.rv hb⟩
theorem RM.rc {w : World} {O V : Option Addr} {o : List Int} {v : List Bool} (h : RM w O V o v) (h0 : 0 < o.length) (h1 : 0 < v.length) : ∃ bo oo bv ov, O = some ⟨bo, oo, none⟩ ∧ V = some ⟨bv, ov, none⟩ ∧ RC w bo oo bv ov o v := by
  obtain ⟨bo, oo, rfl, hlo, hco⟩ := h.ro h0
  obtain ⟨bv, ov, rfl, hlv, hcv⟩ := h.rv h1
  exact ⟨bo, oo, bv, ov, rfl, rfl, fun k x hx => by have := hco k x hx 0 _ rfl; rwa [Nat.mul_one] at this, fun k x hx => by have := hcv k x hx 0 _ rfl; rwa [Nat.mul_one] at this, hlo, hlv⟩
/-- the box of a round -/
structure RB (w : World) (B : Nat) (x y : Value) : Prop where
  c0 : w.cell? ⟨B, 0, none⟩ = some x
  c1 : w.cell? ⟨B, 1, none⟩ = some y
  lt : B < w.heap.size
theorem RB.new (w : World) (x y : Value) : RB (w.alloc (.cells #[x, y] 30)) w.heap.size x y :=
  ⟨by rw [cell_of_row _ _ _ _ _ _ (heap_alloc_new w _)]; rfl, by rw [cell_of_row _ _ _ _ _ _ (heap_alloc_new w _)]; rfl, by simp⟩
theorem RB.next {w w' : World} {B : Nat} {x y : Value} (h : RB w B x y) (hb : Below w.heap.size w w') : RB w' B x y :=
  ⟨(hb.cell (p := ⟨B, _, none⟩) h.lt).trans h.c0, (hb.cell (p := ⟨B, _, none⟩) h.lt).trans h.c1, Nat.lt_of_lt_of_le h.lt hb.size⟩
/-! what a pairing costs -/
def oE (o : List Int) (i : Nat) : Int := o.getD i 0
def vE (v : List Bool) (i : Nat) : Bool := v.getD i false
theorem oE_eq {o : List Int} {i : Nat} {x : Int} (h : o[i]? = some x) : oE o i = x := by unfold oE; rw [List.getD_eq_getElem?_getD, h]; rfl
theorem vE_eq {v : List Bool} {i : Nat} {x : Bool} (h : v[i]? = some x) : vE v i = x := by unfold vE; rw [List.getD_eq_getElem?_getD, h]; rfl
/-- an entrant's bye is allowed -/
def byeR (l : List Ent) (v : List Bool) (i : Nat) : Prop := vE v i = false ∧ cst l i l.length ≠ -1
/-- an entrant's pair is allowed -/
def twoR (l : List Ent) (o : List Int) (v : List Bool) (i : Nat) : Prop :=
  0 ≤ oE o i ∧ oE o i < l.length ∧ oE o i ≠ i ∧ oE o (oE o i).toNat = i ∧ cst l (min i (oE o i).toNat) (max i (oE o i).toNat) ≠ -1 ∧ vE v i = (whI l (min i (oE o i).toNat) (max i (oE o i).toNat) == (i : Int))
def okR (l : List Ent) (o : List Int) (v : List Bool) (i : Nat) : Prop := (oE o i = -1 → byeR l v i) ∧ (oE o i ≠ -1 → twoR l o v i)
def adR (l : List Ent) (o : List Int) (i : Nat) : Int := if oE o i = -1 then cst l i l.length else if (i : Int) < oE o i then cst l i (oE o i).toNat else 0
def sumR (l : List Ent) (o : List Int) : Nat → Int
  | 0 => 0
  | k + 1 => sumR l o k + adR l o k
def byN (o : List Int) : Nat → Nat
  | 0 => 0
  | k + 1 => byN o k + if oE o k = -1 then 1 else 0
theorem byN_mono (o : List Int) {a b : Nat} (h : a ≤ b) : byN o a ≤ byN o b := by
  induction b with
  | zero => obtain rfl : a = 0 := by omega
            exact Nat.le_refl _
  | succ b ih =>
    by_cases e : a = b + 1
    · rw [e]; exact Nat.le_refl _
    · exact Nat.le_trans (ih (by omega)) (Nat.le_add_right _ _)
theorem byN_le (o : List Int) : ∀ k, byN o k ≤ k
  | 0 => Nat.le_refl _
  | k + 1 => by
    have := byN_le o k
    show byN o k + (if oE o k = -1 then 1 else 0) ≤ k + 1
    split <;> omega
def allR (l : List Ent) (o : List Int) (v : List Bool) : Prop := o.length = l.length ∧ v.length = l.length ∧ (∀ i, i < l.length → okR l o v i) ∧ byN o l.length = l.length % 2
open Classical in
noncomputable def valR (l : List Ent) (o : List Int) (v : List Bool) : Int := if allR l o v then sumR l o l.length else -1
theorem valR_yes {l : List Ent} {o : List Int} {v : List Bool} (h : allR l o v) : valR l o v = sumR l o l.length := if_pos h
theorem valR_no {l : List Ent} {o : List Int} {v : List Bool} (h : ¬ allR l o v) : valR l o v = -1 := if_neg h
theorem valR_row {l : List Ent} {o : List Int} {v : List Bool} {i : Nat} (hi : i < l.length) (h : ¬ okR l o v i) : valR l o v = -1 := valR_no fun a => h (a.2.2.1 i hi)
theorem valR_over {l : List Ent} {o : List Int} {v : List Bool} {k : Nat} (hk : k ≤ l.length) (h : l.length % 2 < byN o k) : valR l o v = -1 := valR_no fun a => by
  have := byN_mono o hk
  have := a.2.2.2
  omega
theorem okR_bye {l : List Ent} {o : List Int} {v : List Bool} {i : Nat} (he : oE o i = -1) : okR l o v i ↔ byeR l v i := ⟨fun h => h.1 he, fun h => ⟨fun _ => h, fun hh => absurd he hh⟩⟩
theorem okR_two {l : List Ent} {o : List Int} {v : List Bool} {i : Nat} (he : oE o i ≠ -1) : okR l o v i ↔ twoR l o v i := ⟨fun h => h.2 he, fun h => ⟨fun hh => absurd hh he, fun _ => h⟩⟩
theorem twoR_iff {l : List Ent} {o : List Int} {v : List Bool} {i E a b : Nat} {g : Int} {f : Bool} (he : oE o i = (E : Int)) (hg : oE o E = g) (hf : vE v i = f) (ha : min i E = a) (hb : max i E = b) :
    twoR l o v i ↔ E < l.length ∧ E ≠ i ∧ g = i ∧ cst l a b ≠ -1 ∧ f = (whI l a b == (i : Int)) := by
  unfold twoR
  rw [he, Int.toNat_natCast, hg, hf, ha, hb]
  constructor
  · rintro ⟨h1, h2, h3, h4, h5, h6⟩; exact ⟨by omega, by omega, h4, h5, h6⟩
  · rintro ⟨h2, h3, h4, h5, h6⟩; exact ⟨by omega, by omega, by omega, h4, h5, h6⟩
theorem byN_bye {o : List Int} {k : Nat} (he : oE o k = -1) : byN o (k + 1) = byN o k + 1 := by show byN o k + (if oE o k = -1 then 1 else 0) = _; rw [if_pos he]
theorem byN_two {o : List Int} {k : Nat} (he : oE o k ≠ -1) : byN o (k + 1) = byN o k := by show byN o k + (if oE o k = -1 then 1 else 0) = _; rw [if_neg he]; rfl
theorem sumR_bye {l : List Ent} {o : List Int} {k : Nat} (he : oE o k = -1) : sumR l o (k + 1) = sumR l o k + cst l k l.length := by show sumR l o k + adR l o k = _; unfold adR; rw [if_pos he]
theorem sumR_lt {l : List Ent} {o : List Int} {k E : Nat} (he : oE o k = (E : Int)) (h : k < E) : sumR l o (k + 1) = sumR l o k + cst l k E := by
  show sumR l o k + adR l o k = _
  unfold adR
  rw [if_neg (by omega), if_pos (by omega), he, Int.toNat_natCast]
theorem sumR_gt {l : List Ent} {o : List Int} {k E : Nat} (he : oE o k = (E : Int)) (h : ¬ k < E) : sumR l o (k + 1) = sumR l o k := by
  show sumR l o k + adR l o k = _
  unfold adR
  rw [if_neg (by omega), if_neg (by omega), Int.add_zero]
theorem adR_bd {l : List Ent} {o : List Int} {v : List Bool} {i : Nat} (hok : ∀ x ∈ l, numOk x) (h : okR l o v i) : 0 ≤ adR l o i ∧ adR l o i ≤ 100000006 := by
  unfold adR
  by_cases he : oE o i = -1
  · rw [if_pos he]
    have h1 := (h.1 he).2
    have := cst_bd hok i l.length
    omega
  · rw [if_neg he]
    obtain ⟨h1, h2, h3, h4, h5, h6⟩ := h.2 he
    split
    · rename_i hlt
      have := cst_bd hok i (oE o i).toNat
      rw [Nat.min_eq_left (by omega), Nat.max_eq_right (by omega)] at h5
      omega
    · omega
theorem sumR_bd {l : List Ent} {o : List Int} {v : List Bool} (hok : ∀ x ∈ l, numOk x) : ∀ k, (∀ i, i < k → okR l o v i) → 0 ≤ sumR l o k ∧ sumR l o k ≤ 100000006 * k
  | 0, _ => ⟨Int.le_refl _, by show (0 : Int) ≤ 100000006 * ((0 : Nat) : Int); omega⟩
  | k + 1, h => by
    have h1 := sumR_bd hok k (fun i hi => h i (by omega))
    have h2 := adR_bd hok (h k (by omega))
    show 0 ≤ sumR l o k + adR l o k ∧ sumR l o k + adR l o k ≤ _
    omega
theorem valR_bd {l : List Ent} {o : List Int} {v : List Bool} (hok : ∀ x ∈ l, numOk x) : valR l o v = -1 ∨ 0 ≤ valR l o v := by
  by_cases h : allR l o v
  · exact Or.inr (by rw [valR_yes h]; exact (sumR_bd hok _ h.2.2.1).1)
  · exact Or.inl (valR_no h)
theorem cst_two {l : List Ent} {a b : Nat} {x y : Ent} (hx : l[a]? = some x) (hy : l[b]? = some y) : cst l a b = pairC x y b := by
  have hbl := (List.getElem?_eq_some_iff.1 hy).1
  unfold cst; rw [hx]; show (if b = l.length then _ else _) = _; rw [if_neg (by omega), hy]
theorem cst_bye {l : List Ent} {a : Nat} {x : Ent} (hx : l[a]? = some x) : cst l a l.length = byeC l x := by
  unfold cst; rw [hx]; show (if l.length = l.length then _ else _) = _; rw [if_pos rfl]
theorem whI_eq {l : List Ent} {a b : Nat} {x y : Ent} (hx : l[a]? = some x) (hy : l[b]? = some y) : whI l a b = whiteI x y a b := by unfold whI; rw [en_eq hx, en_eq hy]
end Go.Proofs.YtjjjdoealagpcaaDoor
