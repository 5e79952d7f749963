/- Layer 43: which fields are valid: plain, and the Valid of the statements. -/
import Derived.Test.YtjjjdoealagpcaaDoorGf
namespace Go.Proofs.YtjjjdoealagpcaaDoor
open Go Go.RowKit
set_option linter.unusedSimpArgs false
set_option linter.unusedVariables false
attribute [local go_sem ↓] Go.wp_at_zero Go.wp_at_succ
/-- the name and the numbers of one entrant -/
def entOk (x : Ent) : Prop := PC.givV x.name = true ∧ (0 ≤ x.rating ∧ x.rating ≤ 4000) ∧ (0 ≤ x.score ∧ x.score ≤ 1000) ∧ (0 ≤ x.whites ∧ x.whites ≤ 1000) ∧ (0 ≤ x.blacks ∧ x.blacks ≤ 1000) ∧ (0 ≤ x.last ∧ x.last ≤ 2)
def nmEq (y x : Ent) : Bool := y.name.toList == x.name.toList
def namesOk (l : List Ent) (i : Nat) (x : Ent) (k : Nat) : Prop := ∀ (j : Nat) (y : Ent), j < k → l[j]? = some y → nmEq y x = false
/-- whom the entrant of index n has met -/
def metOf (l : List Ent) (n : Int) : List Int := (l[n.toNat]?.getD default).met
/-- the number n at place k of those whom the entrant of index i has met: but for the other's list -/
def numIn (l : List Ent) (i : Nat) (x : Ent) (k : Nat) (n : Int) : Prop := 0 ≤ n ∧ n < l.length ∧ n ≠ i ∧ ∀ (m : Int), 0 < k → x.met[k - 1]? = some m → m < n
def metOk (l : List Ent) (i : Nat) (x : Ent) (K : Nat) : Prop := ∀ (k : Nat) (n : Int), k < K → x.met[k]? = some n → numIn l i x k n ∧ memI (metOf l n) i = true
def rowOk (l : List Ent) (i : Nat) (x : Ent) : Prop := entOk x ∧ namesOk l i x i ∧ metOk l i x x.met.length
def upToOk (l : List Ent) (K : Nat) : Prop := ∀ (i : Nat) (x : Ent), i < K → l[i]? = some x → rowOk l i x
/-- the field is valid -/
def okF (l : List Ent) : Prop := 2 ≤ l.length ∧ l.length ≤ 12 ∧ upToOk l l.length
open Classical in
noncomputable def fB (l : List Ent) : Bool := decide (okF l)
open Classical in
theorem fB_true {l : List Ent} (h : okF l) : fB l = true := by unfold fB; exact decide_eq_true h
open Classical in
theorem fB_false {l : List Ent} (h : ¬ okF l) : fB l = false := by unfold fB; exact decide_eq_false h
open Classical in
theorem fB_out {l : List Ent} (h : fB l = true) : okF l := by unfold fB at h; exact of_decide_eq_true h
theorem fB_no {l : List Ent} {i : Nat} {x : Ent} (hx : l[i]? = some x) (h : ¬ rowOk l i x) : fB l = false := fB_false fun hh => h (hh.2.2 i x (List.getElem?_eq_some_iff.1 hx).1 hx)
theorem entOk.num {x : Ent} (h : entOk x) : numOk x := ⟨⟨h.2.2.2.1, h.2.2.2.2.1⟩, h.2.2.1⟩
theorem okF.num {l : List Ent} (h : okF l) : ∀ x ∈ l, numOk x := fun x hx => by
  obtain ⟨i, hi, rfl⟩ := List.getElem_of_mem hx
  exact (h.2.2 i _ hi (List.getElem?_eq_getElem hi)).1.num
/-- an entrant alone in a block -/
structure KE (w : World) (B : Nat) (x : Ent) : Prop where
  c0 : w.cell? ⟨B, 0, none⟩ = some (.string x.name)
  c1 : w.cell? ⟨B, 1, none⟩ = some (.int .i64 x.rating)
  c2 : w.cell? ⟨B, 2, none⟩ = some (.int .i64 x.score)
  c3 : w.cell? ⟨B, 3, none⟩ = some (.int .i64 x.whites)
  c4 : w.cell? ⟨B, 4, none⟩ = some (.int .i64 x.blacks)
  c5 : w.cell? ⟨B, 5, none⟩ = some (.int .i64 x.last)
  c6 : w.cell? ⟨B, 6, none⟩ = some (.bool x.bye)
  c7 : w.cell? ⟨B, 7, none⟩ = some (.slice x.mA x.met.length x.mc)
  lt : B < w.heap.size
theorem KE.new (w : World) (x : Ent) : KE (w.alloc (eC x)) w.heap.size x := by
  have h2 := heap_alloc_new w (eC x)
  refine ⟨?_, ?_, ?_, ?_, ?_, ?_, ?_, ?_, by simp⟩ <;> (rw [cell_of_row _ _ _ _ _ _ h2]; rfl)
theorem KE.next {w w' : World} {B : Nat} {x : Ent} (h : KE w B x) (hb : Below w.heap.size w w') : KE w' B x :=
  ⟨(hb.cell (p := ⟨B, _, none⟩) h.lt).trans h.c0, (hb.cell (p := ⟨B, _, none⟩) h.lt).trans h.c1, (hb.cell (p := ⟨B, _, none⟩) h.lt).trans h.c2, (hb.cell (p := ⟨B, _, none⟩) h.lt).trans h.c3, (hb.cell (p := ⟨B, _, none⟩) h.lt).trans h.c4, (hb.cell (p := ⟨B, _, none⟩) h.lt).trans h.c5, (hb.cell (p := ⟨B, _, none⟩) h.lt).trans h.c6, (hb.cell (p := ⟨B, _, none⟩) h.lt).trans h.c7, Nat.lt_of_lt_of_le h.lt hb.size⟩
/-- the first test that an entrant fails -/
theorem ent_bad {x : Ent} (h : ¬ entOk x) : PC.givV x.name = false ∨ PC.givV x.name = true ∧ (x.rating < 0 ∨ ¬ x.rating < 0 ∧ (4000 < x.rating ∨ ¬ 4000 < x.rating ∧ (x.score < 0 ∨ ¬ x.score < 0 ∧ (1000 < x.score ∨ ¬ 1000 < x.score ∧ (x.whites < 0 ∨ ¬ x.whites < 0 ∧ (1000 < x.whites ∨ ¬ 1000 < x.whites ∧ (x.blacks < 0 ∨ ¬ x.blacks < 0 ∧ (1000 < x.blacks ∨ ¬ 1000 < x.blacks ∧ (x.last < 0 ∨ ¬ x.last < 0 ∧ 2 < x.last))))))))) := by
  cases hg : PC.givV x.name with
  | false => exact Or.inl rfl
  | true =>
    refine Or.inr ⟨rfl, ?_⟩
    by_cases h2 : (0 ≤ x.rating ∧ x.rating ≤ 4000) ∧ (0 ≤ x.score ∧ x.score ≤ 1000) ∧ (0 ≤ x.whites ∧ x.whites ≤ 1000) ∧ (0 ≤ x.blacks ∧ x.blacks ≤ 1000) ∧ (0 ≤ x.last ∧ x.last ≤ 2)
    · exact absurd ⟨hg, h2⟩ h
    · omega
theorem namesOk.succ {l : List Ent} {i k : Nat} {x y : Ent} (h : namesOk l i x k) (hy : l[k]? = some y) (hn : nmEq y x = false) : namesOk l i x (k + 1) := by
  intro j z hj hz
  by_cases hjk : j < k
  · exact h j z hjk hz
  · obtain rfl : j = k := by omega
    rw [hy] at hz
    rw [← Option.some.inj hz]; exact hn
theorem metOk.succ {l : List Ent} {i k : Nat} {x : Ent} {n : Int} (h : metOk l i x k) (hn : x.met[k]? = some n) (h1 : numIn l i x k n) (h2 : memI (metOf l n) i = true) : metOk l i x (k + 1) := by
  intro j m hj hm
  by_cases hjk : j < k
  · exact h j m hjk hm
  · obtain rfl : j = k := by omega
    rw [hn] at hm
    rw [← Option.some.inj hm]; exact ⟨h1, h2⟩
theorem upToOk.succ {l : List Ent} {k : Nat} {x : Ent} (h : upToOk l k) (hx : l[k]? = some x) (hr : rowOk l k x) : upToOk l (k + 1) := by
  intro j z hj hz
  by_cases hjk : j < k
  · exact h j z hjk hz
  · obtain rfl : j = k := by omega
    rw [hx] at hz
    rw [← Option.some.inj hz]; exact hr
set_option maxRecDepth 100000 in
set_option maxHeartbeats 4000000 in
theorem lvalid (A : Option Addr) (l : List Ent) (c : Nat) (w : World) (hF : Fld w A l) (hl : l.length ≤ 100000) (hnm : ∀ x ∈ l, x.name.size ≤ maxLen) (hml : ∀ x ∈ l, x.met.length ≤ 100000) :
    Calls Tryd.prog 11 #[.slice A l.length c] w fun e w' => e = .returned (.bool (fB l)) ∧ Below w.heap.size w w' := by
  by_cases h2 : 2 ≤ l.length
  rotate_left
  · have hV : Hid (fB l = false) := fB_false fun h => h2 h.1
    have h3 : (l.length : Int) < 2 := by omega
    clear hF hnm hml
    go_enter Tryd.func11, Tryd.ntmps11
    go_wp2_with fail
    go_ret
    exact ⟨PC.rb hV.out.symm, Below.refl _ _⟩
  by_cases h12 : l.length ≤ 12
  rotate_left
  · have hV : Hid (fB l = false) := fB_false fun h => h12 h.2.1
    have h3 : ¬ (l.length : Int) < 2 := by omega
    have h4 : (12 : Int) < (l.length : Int) := by omega
    clear hF hnm hml
    go_enter Tryd.func11, Tryd.ntmps11
    go_wp2_with fail
    go_ret
    exact ⟨PC.rb hV.out.symm, Below.refl _ _⟩
  have h3 : ¬ (l.length : Int) < 2 := by omega
  have h4 : ¬ (12 : Int) < (l.length : Int) := by omega
  have hFH := Lib.hid hF
  obtain ⟨bk, off, hAt, hbk, hE⟩ := ent8 hF.row (by omega)
  subst hAt
  have hEH := Lib.hid hE
  have hnH := Lib.hid hnm
  have hmH := Lib.hid hml
  clear hE hF hnm hml
  go_enter Tryd.func11, Tryd.ntmps11
  go_wp2_with fail
  go_loopw [3] (fun i wr => ∃ k : Nat, k ≤ l.length ∧ i = .int .i64 k ∧ Hid (upToOk l k) ∧ Below w.heap.size w wr) (fun i _ => l.length - (intOf i).toNat)
  case atStart => exact ⟨0, by omega, rfl, fun j x hj => absurd hj (Nat.not_lt_zero _), Below.refl _ _⟩
  case round =>
    obtain ⟨k, hk, rfl, hgood, hb⟩ := hrel
    have hbH := Lib.hid hb
    clear hb
    by_cases hkn : k < l.length
    rotate_left
    · obtain rfl : k = l.length := by omega
      have hV : Hid (fB l = true) := fB_true ⟨h2, h12, hgood.out⟩
      go_wp2_with fail
      go_ret
      exact ⟨PC.rb hV.out.symm, hbH.out⟩
    obtain ⟨x, hx⟩ : ∃ x, l[k]? = some x := ⟨_, List.getElem?_eq_getElem hkn⟩
    have hxm := List.mem_of_getElem? hx
    have hEy := (hEH.out k x hx).next hbk hbH.out
    have f0 := hEy.e0
    have f1 := hEy.e1
    have f2 := hEy.e2
    have f3 := hEy.e3
    have f4 := hEy.e4
    have f5 := hEy.e5
    have f6 := hEy.e6
    have f7 := hEy.e7
    have hkI : (k : Int) < (l.length : Int) := by omega
    have hk0 : (0 : Int) ≤ (k : Int) := Int.natCast_nonneg _
    have hKE := Lib.hid (KE.new wr x)
    have hb1 : Hid (Below w.heap.size w (wr.alloc (eC x))) := hbH.out.alloc hbH.out.size _
    have hvn : Hid (∀ W, Calls Tryd.prog 31 #[.string x.name] W fun e w' => e = .returned (.bool (PC.givV x.name)) ∧ W = w') := fun W => PC.pvname x.name W (hnH.out x hxm)
    have hxH := Lib.hid hx
    clear hEy hxm hx
    go_upto_region 7 with fail
    clear f0 f1 f2 f3 f4 f5 f6 f7
    have B0 := hKE.out.lt
    generalize hB : wr.heap.size = B at *
    generalize wr.alloc (eC x) = w1 at *
    clear hB hbH
    clear wr
    have c0 := hKE.out.c0
    have c1 := hKE.out.c1
    have c2 := hKE.out.c2
    have c3 := hKE.out.c3
    have c4 := hKE.out.c4
    have c5 := hKE.out.c5
    have c7 := hKE.out.c7
    by_cases hent : entOk x
    rotate_left
    · have hV : Hid (fB l = false) := fB_no hxH.out fun h => hent h.1
      rcases ent_bad hent with q0 | ⟨q0, q1 | ⟨q1, q2 | ⟨q2, q3 | ⟨q3, q4 | ⟨q4, q5 | ⟨q5, q6 | ⟨q6, q7 | ⟨q7, q8 | ⟨q8, q9 | ⟨q9, q10⟩⟩⟩⟩⟩⟩⟩⟩⟩⟩
      all_goals
        clear hent
        rw [q0] at hvn
        go_wp2_with fail
        go_at_call 31
        refine (hvn.out _).mono ?_
        rintro e w' ⟨rfl, rfl⟩
        go_wp2_with fail
        go_ret
        exact ⟨PC.rb hV.out.symm, hb1.out⟩
    have q0 := hent.1
    rw [q0] at hvn
    obtain ⟨q1, q2⟩ := hent.2.1
    obtain ⟨q3, q4⟩ := hent.2.2.1
    obtain ⟨q5, q6⟩ := hent.2.2.2.1
    obtain ⟨q7, q8⟩ := hent.2.2.2.2.1
    obtain ⟨q9, q10⟩ := hent.2.2.2.2.2
    have hentH := Lib.hid hent
    clear hent
    go_wp2_with fail
    go_at_call 31
    refine (hvn.out _).mono ?_
    rintro e w' ⟨rfl, rfl⟩
    go_wp2_with fail
    clear q0 q1 q2 q3 q4 q5 q6 q7 q8 q9 q10 c0 c1 c2 c3 c4 c5 c7 B0 hvn
    go_loopw [5] (fun i wr => ∃ j : Nat, j ≤ k ∧ i = .int .i64 j ∧ Hid (namesOk l k x j) ∧ Below w1.heap.size w1 wr) (fun i _ => k - (intOf i).toNat)
    case atStart => exact ⟨0, by omega, rfl, fun j x hj => absurd hj (Nat.not_lt_zero _), Below.refl _ _⟩
    case round =>
      obtain ⟨j, hj, rfl, hnms, hb⟩ := hrel
      have hb2 := Lib.hid hb
      clear hb
      by_cases hjk : j < k
      · obtain ⟨y, hy⟩ : ∃ y, l[j]? = some y := ⟨_, List.getElem?_eq_getElem (by omega)⟩
        have g0 := ((hEH.out j y hy).next hbk (hb1.out.trans (hb2.out.mono hb1.out.size))).e0
        have c0 := (hKE.out.next hb2.out).c0
        have hjI : (j : Int) < (k : Int) := by omega
        have hjI2 : (j : Int) < (l.length : Int) := by omega
        have hj0 : (0 : Int) ≤ (j : Int) := Int.natCast_nonneg _
        have hyH := Lib.hid hy
        clear hy
        cases hn : nmEq y x with
        | true =>
          have hV : Hid (fB l = false) := fB_no hxH.out fun h => by
            have := h.2.1 j y hjk hyH.out
            rw [hn] at this; cases this
          have hn2 : (y.name.toList == x.name.toList) = true := hn
          clear hn
          go_wp2_with fail
          go_quiet (fail)
          go_wp2_with fail
          go_ret
          exact ⟨PC.rb hV.out.symm, below_drewN (hb1.out.trans (hb2.out.mono hb1.out.size)) _⟩
        | false =>
          have hn2 : (y.name.toList == x.name.toList) = false := hn
          have hnew := Lib.hid (hnms.out.succ hyH.out hn)
          clear hn
          go_wp2_with fail
          go_quiet (fail)
          go_wp2_with fail
          go_roundw
          case rel => exact ⟨j + 1, by omega, by go_num, hnew, below_drewN hb2.out _⟩
          case measure => simp [intOf]; omega
      · obtain rfl : j = k := by omega
        replace hKE := Lib.hid (hKE.out.next hb2.out)
        replace hb1 := Lib.hid (hb1.out.trans (hb2.out.mono hb1.out.size))
        have hmet : Hid (RecAt iEnc 1 wr wr.heap.size x.mA x.met) := (hFH.out.next hb1.out).met x (List.mem_of_getElem? hxH.out)
        have hFw : Hid (Fld wr (some ⟨bk, off, none⟩) l) := hFH.out.next hb1.out
        have c7 := hKE.out.c7
        have hEw : Hid (∀ k x, l[k]? = some x → E8 wr bk (off + k * 8) x) := fun k x hx => (hEH.out k x hx).next hbk hb1.out
        clear hb2
        generalize wr = w2 at *
        go_wp2_with fail
        go_loop [6] (fun i => ∃ j2 : Nat, j2 ≤ x.met.length ∧ i = .int .i64 j2 ∧ Hid (metOk l j x j2)) (fun i => x.met.length - (intOf i).toNat)
        case atStart => exact ⟨0, by omega, rfl, fun j x hj => absurd hj (Nat.not_lt_zero _)⟩
        case round =>
          obtain ⟨m, hm, rfl, hmok⟩ := hrel
          have hxl := hmH.out x (List.mem_of_getElem? hxH.out)
          by_cases hmn : m < x.met.length
          rotate_left
          · obtain rfl : m = x.met.length := by omega
            have hnew := Lib.hid (hgood.out.succ hxH.out ⟨hentH.out, hnms.out, hmok.out⟩)
            go_wp2_with fail
            go_roundw
            case rel => exact ⟨j + 1, by omega, by go_num, hnew, hb1.out⟩
            case measure => simp [intOf]; omega
          obtain ⟨n, hn⟩ : ∃ n, x.met[m]? = some n := ⟨_, List.getElem?_eq_getElem hmn⟩
          obtain ⟨bm, om, hAm, hbm, m0⟩ := rec1 hmet.out hn
          have hmI : (m : Int) < (x.met.length : Int) := by omega
          have hmI0 : (0 : Int) ≤ (m : Int) := Int.natCast_nonneg _
          rw [hAm] at c7
          have hnH := Lib.hid hn
          have hAmH := Lib.hid hAm
          clear hAm hn hbm
          by_cases n0 : n < 0
          · have hV : Hid (fB l = false) := fB_no hxH.out fun h => by have := (h.2.2 m n hmn hnH.out).1.1; omega
            go_wp2_with fail
            go_ret
            exact ⟨PC.rb hV.out.symm, hb1.out⟩
          by_cases n1 : n < (l.length : Int)
          rotate_left
          · have hV : Hid (fB l = false) := fB_no hxH.out fun h => n1 (h.2.2 m n hmn hnH.out).1.2.1
            go_wp2_with fail
            go_ret
            exact ⟨PC.rb hV.out.symm, hb1.out⟩
          by_cases n2 : n = (j : Int)
          · have hV : Hid (fB l = false) := fB_no hxH.out fun h => (h.2.2 m n hmn hnH.out).1.2.2.1 n2
            have n3 : (n == (j : Int)) = true := by rw [beq_iff_eq]; exact n2
            clear n2
            go_wp2_with fail
            go_ret
            exact ⟨PC.rb hV.out.symm, hb1.out⟩
          have n3 : (n == (j : Int)) = false := by rw [beq_eq_false_iff_ne]; exact n2
          obtain ⟨N, hN⟩ := Int.eq_ofNat_of_zero_le (show 0 ≤ n by omega)
          obtain ⟨y, hy⟩ : ∃ y, l[N]? = some y := ⟨_, List.getElem?_eq_getElem (by omega)⟩
          have hmy : metOf l n = y.met := by unfold metOf; rw [hN]; show (l[((N : Nat) : Int).toNat]?.getD default).met = _; rw [Int.toNat_natCast, hy]; rfl
          subst hN
          have g7 := (hEw.out N y hy).e7
          have hC : Hid (Calls Tryd.prog 28 #[.slice y.mA y.met.length y.mc, .int .i64 (j : Int)] w2 fun e w' => e = .returned (.bool (memI y.met j)) ∧ w2 = w') := lhas y.mA y.mc y.met j w2 (hFw.out.met y (List.mem_of_getElem? hy)) (hmH.out y (List.mem_of_getElem? hy))
          have hmyH := Lib.hid hmy
          have n2H := Lib.hid n2
          have hN0 : (0 : Int) ≤ (N : Int) := Int.natCast_nonneg _
          clear hmy hy n2
          by_cases hz0 : m = 0
          · have hmz : ¬ (0 : Int) < (m : Int) := by omega
            replace hz0 := Lib.hid hz0
            cases hmem : memI y.met j with
            | false =>
              have hV : Hid (fB l = false) := fB_no hxH.out fun h => by have := (h.2.2 m _ hmn hnH.out).2; rw [hmyH.out, hmem] at this; cases this
              rw [hmem] at hC
              go_wp2_with fail
              go_at_call 28
              refine hC.out.mono ?_
              rintro e w' ⟨rfl, rfl⟩
              go_wp2_with fail
              go_ret
              exact ⟨PC.rb hV.out.symm, hb1.out⟩
            | true =>
              have hnew := Lib.hid (hmok.out.succ hnH.out ⟨by omega, n1, n2H.out, fun q h => absurd h (by have := hz0.out; omega)⟩ (by rw [hmyH.out]; exact hmem))
              rw [hmem] at hC
              go_wp2_with fail
              go_at_call 28
              refine hC.out.mono ?_
              rintro e w' ⟨rfl, rfl⟩
              go_wp2_with fail
              go_round
              case rel => exact ⟨m + 1, by omega, by go_num, hnew⟩
              case measure => simp [intOf]; omega
          · obtain ⟨m', hm'⟩ : ∃ m', m' + 1 = m := ⟨m - 1, by omega⟩
            obtain ⟨z, hz⟩ : ∃ z, x.met[m']? = some z := ⟨_, List.getElem?_eq_getElem (by omega)⟩
            have hz1 : (m' : Int) < (x.met.length : Int) := by omega
            have m1 : w2.cell? ⟨bm, om + m', none⟩ = some (.int .i64 z) := by
              obtain ⟨b2, o2, e2, _, h2⟩ := rec1 hmet.out hz
              rw [hAmH.out] at e2
              obtain ⟨rfl, rfl⟩ : bm = b2 ∧ om = o2 := by simpa using e2
              exact h2
            have hM0 : (0 : Int) < (m : Int) := by omega
            have hm0 : (0 : Int) ≤ (m' : Int) := Int.natCast_nonneg _
            have gM : IntKind.i64.wrap ((m : Int) - 1) = (m' : Int) := by rw [show (m : Int) - 1 = (m' : Int) by omega]; exact IntWalk.i64_in _ (by omega)
            have hzH : Hid (x.met[m - 1]? = some z) := by show x.met[m - 1]? = some z; rw [show m - 1 = m' by omega]; exact hz
            clear hz
            replace hz0 := Lib.hid hz0
            replace hm' := Lib.hid hm'
            by_cases nz : (N : Int) ≤ z
            · have hV : Hid (fB l = false) := fB_no hxH.out fun h => by
                have := (h.2.2 m _ hmn hnH.out).1.2.2.2 z (by omega) hzH.out
                omega
              go_wp2_with fail
              go_ret
              exact ⟨PC.rb hV.out.symm, hb1.out⟩
            cases hmem : memI y.met j with
            | false =>
              have hV : Hid (fB l = false) := fB_no hxH.out fun h => by have := (h.2.2 m _ hmn hnH.out).2; rw [hmyH.out, hmem] at this; cases this
              rw [hmem] at hC
              go_wp2_with fail
              go_at_call 28
              refine hC.out.mono ?_
              rintro e w' ⟨rfl, rfl⟩
              go_wp2_with fail
              go_ret
              exact ⟨PC.rb hV.out.symm, hb1.out⟩
            | true =>
              have hnew := Lib.hid (hmok.out.succ hnH.out ⟨by omega, n1, n2H.out, fun q _ hq => by
                rw [hzH.out] at hq
                have := Option.some.inj hq
                omega⟩ (by rw [hmyH.out]; exact hmem))
              rw [hmem] at hC
              go_wp2_with fail
              go_at_call 28
              refine hC.out.mono ?_
              rintro e w' ⟨rfl, rfl⟩
              go_wp2_with fail
              go_round
              case rel => exact ⟨m + 1, by omega, by go_num, hnew⟩
              case measure => simp [intOf]; omega
end Go.Proofs.YtjjjdoealagpcaaDoor
