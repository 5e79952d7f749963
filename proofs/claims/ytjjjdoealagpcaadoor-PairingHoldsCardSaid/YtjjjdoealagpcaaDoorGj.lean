/- Layer 43: which fields are valid: the program's Valid. -/
import Derived.Test.YtjjjdoealagpcaaDoorGi
namespace Go.Proofs.YtjjjdoealagpcaaDoor
open Go Go.RowKit Go.Maps
set_option linter.unusedSimpArgs false
set_option linter.unusedVariables false
attribute [local go_sem ↓] Go.wp_at_zero Go.wp_at_succ
theorem wf_small {n : Int} (h0 : 0 ≤ n) (h1 : n < 100000) : (Lit.int .i64 n).wf = true := WalkArith.wf_i64 (by omega)
/-- a pair has come up -/
structure NextP (w w' : World) (B r n : Nat) (D : DataW Unit) (ms : List (Int × Int)) (left : Lit → Bool) (cnt cnt' : Nat) (a b : Int) (kl : Lit) : Prop where
  key : keyOf Tryd.prog 62 (prV (a, b)) = some kl
  mem : (a, b) ∈ ms
  rg : w'.ranges Tryd.prog 62 (plainElem Tryd.prog 4) B r n D (fun z => left z && !z.sameKey kl) cnt'
  lt : cnt' < cnt
  grown : w.grownBy w' (some r)
  size : w'.heap.size = w.heap.size
  entry : (Instr.entry (.pointer (some ⟨r, 0, none⟩))).run Tryd.prog w' = .ok (.tuple #[.agg #[.int .i64 a, .int .i64 b], .bool true]) w'
theorem wpList_next_pairs (w : World) {ops : Array Oper} {rest : List Oper} {o : Oper} {a : Act} {Q : Exit → Act → World → Prop} (hg : o.guard = none) (it : Operand) (hop : o.op = Op.next it false) (B r n : Nat) (D : DataW Unit) (ms : List (Int × Int)) (hD : SetD D ms) (left : Lit → Bool) (cnt : Nat)
    (hit : a.eval it = .pointer (some ⟨r, 0, none⟩)) (h : w.ranges Tryd.prog 62 (plainElem Tryd.prog 4) B r n D left cnt)
    (hDone : (∀ kl, left kl = false) → wpList Tryd.prog ops Q rest (a.put o.dst (.tuple #[.bool false])) w)
    (hMore : ∀ (x y : Int) (kl : Lit) (w' : World) (cnt' : Nat), NextP w w' B r n D ms left cnt cnt' x y kl → wpList Tryd.prog ops Q rest (a.put o.dst (.tuple #[.bool true, .agg #[.int .i64 x, .int .i64 y], .bool true])) w') :
    wpList Tryd.prog ops Q (o :: rest) a w := by
  refine wpList_next_ranges _ hg it hop 62 prLaw (plainElem Tryd.prog 4) prV Value.bool (fun key kl hkey => prKey_inv hkey) (fun v y hv => by obtain ⟨c, rfl, _⟩ := plain_bool_inv Tryd.underlying4 hv; exact ⟨c, rfl⟩) B r _ _ _ _ hit h (fun _ => hDone) ?_
  intro x cb kl y w1 cnt1 hkey hlk hRc hat hrg1 hlt hg1 hs1 hen
  have hm := hD.mem hkey hRc hat
  have hc : cb = true := by
    rw [plainBool cb] at hRc
    obtain rfl := Option.some.inj hRc
    have h1 := hat .nil
    rw [hD.2 x kl _ hkey, if_pos hm] at h1
    simpa using h1.symm
  subst hc
  obtain ⟨p, q⟩ := x
  exact hMore p q kl w1 cnt1 ⟨hkey, hm, hrg1, hlt, hg1, hs1, hen⟩
set_option maxRecDepth 100000 in
set_option maxHeartbeats 4000000 in
theorem pvalid (A : Option Addr) (l : List Ent) (c : Nat) (w : World) (hF : Fld w A l) (hlc : l.length ≤ c) (hl : l.length ≤ 100000) (hnm : ∀ x ∈ l, x.name.size ≤ maxLen) (hml : ∀ x ∈ l, x.met.length ≤ 100000) :
    Calls Tryd.prog 10 #[.slice A l.length c] w fun e w' => e = .returned (.bool (fB l)) ∧ Below w.heap.size w w' := by
  by_cases h2 : 2 ≤ l.length ∧ l.length ≤ 12
  rotate_left
  · have hV : Hid (fB l = false) := fB_false fun h => h2 ⟨h.1, h.2.1⟩
    have h3 : inB (l.length : Int) 2 12 = false := inB_no (by omega)
    clear hF hnm hml h2
    go_enter Tryd.func10, Tryd.ntmps10
    go_wp2_with fail
    go_at_call 30
    refine (pwithin _ _ _ _).mono ?_
    rintro e w' ⟨rfl, rfl⟩
    go_wp2_with fail
    go_ret
    exact ⟨PC.rb hV.out.symm, Below.refl _ _⟩
  obtain ⟨h2, h12⟩ := h2
  have h3 : inB (l.length : Int) 2 12 = true := inB_yes (by omega) (by omega)
  have hFH := Lib.hid hF
  obtain ⟨bk, off, hAt, hbk, hE⟩ := ent8 hF.row (by omega)
  subst hAt
  have hEH := Lib.hid hE
  have hnH := Lib.hid hnm
  have hmH := Lib.hid hml
  have hmm := @run_makeMap Tryd.prog
  have hP0 := Lib.hid (PSet.made w)
  have hb0 : Hid (Below w.heap.size w (w.alloc (.map #[] 0))) := (Below.refl _ _).alloc (Nat.le_refl _) _
  clear hE hF hnm hml
  go_enter Tryd.func10, Tryd.ntmps10
  go_wp2_with fail
  go_at_call 30
  refine (pwithin _ _ _ _).mono ?_
  rintro e w' ⟨rfl, rfl⟩
  go_wp2_with fail
  clear h3 hmm
  go_loopw [18] (fun i wr => ∃ (k : Nat) (ms : List (Int × Int)), k ≤ l.length ∧ i = .int .i64 k ∧ Hid (upToB l k) ∧ Hid (∀ p, p ∈ ms ↔ inM l k p) ∧ PSet wr w.heap.size (1000000 * k) ms ∧ Below w.heap.size w wr) (fun i _ => l.length - (intOf i).toNat)
  case atStart => exact ⟨0, [], by omega, rfl, fun j x hj => absurd hj (Nat.not_lt_zero _), fun p => ⟨fun h => absurd h (List.not_mem_nil), fun h => absurd h (inM_zero l p)⟩, hP0.out, hb0.out⟩
  case round =>
    obtain ⟨k, ms, hk, rfl, hgood, hmsk, hP, hb⟩ := hrel
    have hbH := Lib.hid hb
    have hPH := Lib.hid hP
    clear hb hP hP0 hb0
    by_cases hkn : k < l.length
    rotate_left
    · obtain rfl : k = l.length := by omega
      obtain ⟨D, hown, hD⟩ := hPH.out
      have hDH := Lib.hid hD
      clear hD hPH
      generalize hB : w.heap.size = B at *
      go_wp2_with (first
        | (at_range; refine wpList_range_own _ rfl _ 60 rfl 62 4 prLaw Tryd.underlying60 _ B _ D rfl hown ?_; intro w0 hrg0 hg0 hs0)
        | go_in)
      go_frame
      have hBs : B ≤ wr.heap.size := by rw [← hB]; exact hbH.out.size
      have hb0 : Hid (Below B w w0) := hbH.out.grown hg0 hBs (fun j hj => by cases hj)
      generalize hr : wr.heap.size = r at *
      go_loopw [10] (fun _ wr => ∃ (left : Lit → Bool) (cnt : Nat), wr.ranges Tryd.prog 62 (plainElem Tryd.prog 4) B r (1000000 * l.length) D left cnt ∧ Hid (∀ p kl, keyOf Tryd.prog 62 (prV p) = some kl → p ∈ ms → left kl = false → (p.2, p.1) ∈ ms) ∧ Below B w wr)
        (fun _ wr => wr.rangeLeft B r)
      case atStart =>
        refine ⟨_, _, hrg0, ?_, hb0.out⟩
        intro p kl hk hm hl
        exfalso
        rw [Maps.has_true_of_atKey (D := D) (k := kl) (y := .lit (.bool true)) (fun z => by rw [hDH.out.2 p kl z hk, if_pos hm])] at hl
        cases hl
      case round =>
        clear hown hrg0 hg0 hs0 hb0 hbH
        obtain ⟨left, cnt, hrg, hmut, hb⟩ := hrel
        have hbH := Lib.hid hb
        clear hb
        have hrB : B ≤ r := hBs
        have hmsH := Lib.hid hmsk
        have hBw : B ≤ wr.heap.size := Nat.le_of_lt (Nat.lt_of_le_of_lt hrB hrg.lt)
        go_wp2_with (first
          | (at_next; refine wpList_next_pairs _ rfl _ rfl B r _ D ms hDH.out _ _ rfl hrg ?_ ?_)
          | go_in)
        · intro hl0
          have hV : Hid (fB l = true) := fB_yesM h2 h12 hgood.out fun p hp => by
            obtain ⟨kl, hkl⟩ := prKey (m := p) (by
              have hbd := inM_bd hgood.out hp
              exact ⟨wf_small hbd.1 (by omega), wf_small hbd.2.2.1 (by omega)⟩)
            exact (hmsk.out _).1 (hmut.out p kl hkl ((hmsk.out p).2 hp) (hl0 kl))
          go_wp2_with fail
          go_ret
          exact ⟨PC.rb hV.out.symm, by rw [hB]; exact hbH.out⟩
        · intro a b kl w1 cnt1 hN
          have hkey := hN.key
          have hxm := hN.mem
          have hrg1 := hN.rg
          have hlt := hN.lt
          have hs1 := hN.size
          have hen := hN.entry
          have hg1 := hN.grown
          clear hN
          have hbd := inM_bd hgood.out ((hmsk.out _).1 hxm)
          have hb1 : Hid (Below B w w1) := hbH.out.grown hg1 hBw (fun j hj => by cases hj; exact hrB)
          have hwf : wfP (b, a) := ⟨wf_small hbd.2.2.1 (by have := hbd.2.2.2; simp only at this ⊢; omega), wf_small hbd.1 (by have := hbd.2.1; simp only at this ⊢; omega)⟩
          have hP2 : Hid (PSet (w1.alloc (.cells #[.int .i64 a, .int .i64 b] 62)) B (1000000 * l.length) ms) := ⟨D, (hrg1.alloc _).owns, hDH.out⟩
          have hlk2 := hP2.out.lookup hwf
          have hb2 : Hid (Below B w (w1.alloc (.cells #[.int .i64 a, .int .i64 b] 62))) := hb1.out.alloc (by rw [hs1]; exact hBw) _
          have hrg2 := Lib.hid (hrg1.alloc (.cells #[.int .i64 a, .int .i64 b] 62))
          have hkeyH := Lib.hid hkey
          have hxmH := Lib.hid hxm
          have hrgH := Lib.hid hrg
          clear hbd hwf hg1 hs1 hb1 hP2 hkey hxm hrg hrg1
          cases hmem : decide ((b, a) ∈ ms) with
          | false =>
            rw [hmem] at hlk2
            have hV : Hid (fB l = false) := fB_noM ((hmsk.out (a, b)).1 hxmH.out) (fun h => of_decide_eq_false hmem ((hmsk.out (b, a)).2 h))
            clear hmem
            go_wp2_with fail
            go_ret
            exact ⟨PC.rb hV.out.symm, by rw [hB]; exact hb2.out⟩
          | true =>
            rw [hmem] at hlk2
            have hnew : Hid (∀ p kl', keyOf Tryd.prog 62 (prV p) = some kl' → p ∈ ms → (left kl' && !kl'.sameKey kl) = false → (p.2, p.1) ∈ ms) := by
              intro p kl' hk' hp hl
              cases hl1 : left kl' with
              | false => exact hmut.out p kl' hk' hp hl1
              | true =>
                rw [hl1] at hl
                have hs : kl'.sameKey kl = true := by cases hs : kl'.sameKey kl with
                  | true => rfl
                  | false => rw [hs] at hl; cases hl
                obtain rfl := WideAt.sameKey_eq hs
                obtain rfl := prV_inj (prLaw.inj hk' hkeyH.out)
                exact of_decide_eq_true hmem
            clear hmem
            go_wp2_with fail
            go_roundw
            case rel => exact ⟨_, _, hrg2.out, hnew, hb2.out⟩
            case measure => rw [hrg2.out.left_eq, hrgH.out.left_eq]; exact hlt
    obtain ⟨x, hx⟩ : ∃ x, l[k]? = some x := ⟨_, List.getElem?_eq_getElem hkn⟩
    have hxm := List.mem_of_getElem? hx
    have hEy := (hEH.out k x hx).next hbk hbH.out
    have f0 := hEy.e0
    have f1 := hEy.e1
    have f2 := hEy.e2
    have f3 := hEy.e3
    have f4 := hEy.e4
    have f5 := hEy.e5
    have f6 := hEy.e6
    have f7 := hEy.e7
    have hkI : (k : Int) < (l.length : Int) := by omega
    have hkL : (k : Int) ≤ (l.length : Int) := by omega
    have hkC : (k : Int) ≤ (c : Int) := by omega
    have hkC2 : k ≤ c := by omega
    have hk0 : (0 : Int) ≤ (k : Int) := Int.natCast_nonneg _
    have hKE := Lib.hid (KE.new wr x)
    have hBs := hbH.out.size
    have hb1 : Hid (Below w.heap.size w (wr.alloc (eC x))) := hbH.out.alloc hBs _
    have hP1 : Hid (PSet (wr.alloc (eC x)) w.heap.size (1000000 * k) ms) := hPH.out.next ((Below.refl _ _).alloc (Nat.le_refl _) _)
    have hvn : Hid (∀ W, Calls Tryd.prog 31 #[.string x.name] W fun e w' => e = .returned (.bool (PC.givV x.name)) ∧ W = w') := fun W => PC.pvname x.name W (hnH.out x hxm)
    have hxH := Lib.hid hx
    clear hEy hxm hx
    go_upto_region 7 with fail
    clear f0 f1 f2 f3 f4 f5 f6 f7
    have B0 := hKE.out.lt
    have hBB : Hid (w.heap.size < wr.heap.size) := hPH.out.lt
    clear hBs hbH hPH
    generalize hB : wr.heap.size = B at *
    generalize wr.alloc (eC x) = w1 at *
    clear hB
    clear wr
    have c0 := hKE.out.c0
    have c1 := hKE.out.c1
    have c2 := hKE.out.c2
    have c3 := hKE.out.c3
    have c4 := hKE.out.c4
    have c5 := hKE.out.c5
    have c7 := hKE.out.c7
    by_cases hent : entOk x
    rotate_left
    · have hV : Hid (fB l = false) := fB_noB hxH.out fun h => hent h.1
      rcases ent_badB hent with q0 | ⟨q0, q1 | ⟨q1, q2 | ⟨q2, q3 | ⟨q3, q4 | ⟨q4, q5⟩⟩⟩⟩⟩
      all_goals
        clear hent
        rw [q0] at hvn
        go_wp2_with (first | (go_at_call 31; refine (hvn.out _).mono ?_; rintro e w' ⟨rfl, rfl⟩) | (go_at_call 30; refine (pwithin _ _ _ _).mono ?_; rintro e w' ⟨rfl, rfl⟩))
        go_ret
        exact ⟨PC.rb hV.out.symm, hb1.out⟩
    obtain ⟨q0, q1, q2, q3, q4, q5⟩ := ent_goodB hent
    rw [q0] at hvn
    have hentH := Lib.hid hent
    clear hent
    go_wp2_with (first | (go_at_call 31; refine (hvn.out _).mono ?_; rintro e w' ⟨rfl, rfl⟩) | (go_at_call 30; refine (pwithin _ _ _ _).mono ?_; rintro e w' ⟨rfl, rfl⟩))
    clear q0 q1 q2 q3 q4 q5 c0 c1 c2 c3 c4 c5 c7 B0 hvn
    go_loopw [61] (fun i wr => ∃ j : Nat, j ≤ k ∧ i = .int .i64 j ∧ Hid (namesOk l k x j) ∧ Below w1.heap.size w1 wr) (fun i _ => k - (intOf i).toNat)
    case atStart => exact ⟨0, by omega, rfl, fun j x hj => absurd hj (Nat.not_lt_zero _), Below.refl _ _⟩
    case round =>
      obtain ⟨j, hj, rfl, hnms, hb⟩ := hrel
      have hb2 := Lib.hid hb
      clear hb
      by_cases hjk : j < k
      · obtain ⟨y, hy⟩ : ∃ y, l[j]? = some y := ⟨_, List.getElem?_eq_getElem (by omega)⟩
        have hEy := (hEH.out j y hy).next hbk (hb1.out.trans (hb2.out.mono hb1.out.size))
        have f0 := hEy.e0
        have f1 := hEy.e1
        have f2 := hEy.e2
        have f3 := hEy.e3
        have f4 := hEy.e4
        have f5 := hEy.e5
        have f6 := hEy.e6
        have f7 := hEy.e7
        have hb3 : Hid (Below w1.heap.size w1 (wr.alloc (eC y))) := hb2.out.alloc hb2.out.size _
        have c0 := (hKE.out.next hb3.out).c0
        have hKy := Lib.hid (KE.new wr y)
        have y0 := hKy.out.c0
        have hjI : (j : Int) < (k : Int) := by omega
        have hjI2 : (j : Int) < (l.length : Int) := by omega
        have hj0 : (0 : Int) ≤ (j : Int) := Int.natCast_nonneg _
        have hyH := Lib.hid hy
        clear hy hEy
        cases hn : nmEq y x with
        | true =>
          have hV : Hid (fB l = false) := fB_noB hxH.out fun h => by
            have := h.2.1 j y hjk hyH.out
            rw [hn] at this; cases this
          have hn2 : (y.name.toList == x.name.toList) = true := hn
          clear hn
          go_wp2_with fail
          go_ret
          exact ⟨PC.rb hV.out.symm, hb1.out.trans (hb3.out.mono hb1.out.size)⟩
        | false =>
          have hn2 : (y.name.toList == x.name.toList) = false := hn
          have hnew := Lib.hid (hnms.out.succ hyH.out hn)
          clear hn
          go_wp2_with fail
          go_roundw
          case rel => exact ⟨j + 1, by omega, by go_num, hnew, hb3.out⟩
          case measure => simp [intOf]; omega
      · obtain rfl : j = k := by omega
        replace hKE := Lib.hid (hKE.out.next hb2.out)
        replace hP1 := Lib.hid (hP1.out.next hb2.out)
        replace hb1 := Lib.hid (hb1.out.trans (hb2.out.mono hb1.out.size))
        have c7 := hKE.out.c7
        have hBlt : Hid (B < wr.heap.size) := hKE.out.lt
        clear hb2
        generalize wr = w2 at *
        go_wp2_with fail
        go_loopw [74] (fun i wr => ∃ (m : Nat) (ms' : List (Int × Int)), m ≤ x.met.length ∧ i = .int .i64 m ∧ Hid (numsOk l j x m) ∧ Hid (∀ p, p ∈ ms' ↔ inM l j p ∨ inR j x m p) ∧ PSet wr w.heap.size (1000000 * j + m) ms' ∧ KE wr B x ∧ Below w.heap.size w wr) (fun i _ => x.met.length - (intOf i).toNat)
        case atStart => exact ⟨0, ms, by omega, rfl, fun j x hj => absurd hj (Nat.not_lt_zero _), fun p => ⟨fun h => Or.inl ((hmsk.out p).1 h), fun h => h.elim (fun h => (hmsk.out p).2 h) (fun h => absurd h (inR_zero j x p))⟩, hP1.out, hKE.out, hb1.out⟩
        case round =>
          clear hP1 hKE hb1 c7 hBlt
          obtain ⟨m, ms', hm, rfl, hmok, hms', hP, hKE, hb⟩ := hrel
          replace hP := Lib.hid hP
          replace hKE := Lib.hid hKE
          have hb1 := Lib.hid hb
          clear hb
          have c7 := hKE.out.c7
          have hxl := hmH.out x (List.mem_of_getElem? hxH.out)
          by_cases hmn : m < x.met.length
          rotate_left
          · obtain rfl : m = x.met.length := by omega
            have hnew := Lib.hid (hgood.out.succ hxH.out ⟨hentH.out, hnms.out, hmok.out⟩)
            have hP3 := Lib.hid (hP.out.mono (n' := 1000000 * (j + 1)) (by omega))
            have hms3 : Hid (∀ p, p ∈ ms' ↔ inM l (j + 1) p) := fun p => (hms'.out p).trans (inM_succ hxH.out p).symm
            go_wp2_with fail
            go_roundw
            case rel => exact ⟨j + 1, ms', by omega, by go_num, hnew, hms3, hP3.out, hb1.out⟩
            case measure => simp [intOf]; omega
          obtain ⟨n, hn⟩ : ∃ n, x.met[m]? = some n := ⟨_, List.getElem?_eq_getElem hmn⟩
          have hmet : Hid (RecAt iEnc 1 wr wr.heap.size x.mA x.met) := (hFH.out.next hb1.out).met x (List.mem_of_getElem? hxH.out)
          obtain ⟨bm, om, hAm, hbm, m0⟩ := rec1 hmet.out hn
          have hmI : (m : Int) < (x.met.length : Int) := by omega
          have hmI0 : (0 : Int) ≤ (m : Int) := Int.natCast_nonneg _
          rw [hAm] at c7 ⊢
          have hnH := Lib.hid hn
          have hAmH := Lib.hid hAm
          have gL : IntKind.i64.wrap ((l.length : Int) - 1) = (l.length : Int) - 1 := IntWalk.i64_in _ (by omega)
          clear hAm hn hbm
          by_cases n01 : 0 ≤ n ∧ n < (l.length : Int)
          rotate_left
          · have hV : Hid (fB l = false) := fB_noB hxH.out fun h => by have := (h.2.2 m n hmn hnH.out); exact n01 ⟨this.1, this.2.1⟩
            have hin : inB n 0 ((l.length : Int) - 1) = false := inB_no (by omega)
            clear n01
            go_wp2_with fail
            go_at_call 30
            refine (pwithin _ _ _ _).mono ?_
            rintro e w' ⟨rfl, rfl⟩
            go_wp2_with fail
            go_ret
            exact ⟨PC.rb hV.out.symm, hb1.out⟩
          have hin : inB n 0 ((l.length : Int) - 1) = true := inB_yes n01.1 (by omega)
          have n01H := Lib.hid n01
          clear n01
          by_cases n2 : n = (j : Int)
          · have hV : Hid (fB l = false) := fB_noB hxH.out fun h => (h.2.2 m n hmn hnH.out).2.2.1 n2
            have n3 : (n == (j : Int)) = true := by rw [beq_iff_eq]; exact n2
            clear n2
            go_wp2_with fail
            go_at_call 30
            refine (pwithin _ _ _ _).mono ?_
            rintro e w' ⟨rfl, rfl⟩
            go_wp2_with fail
            go_ret
            exact ⟨PC.rb hV.out.symm, hb1.out⟩
          have n3 : (n == (j : Int)) = false := by rw [beq_eq_false_iff_ne]; exact n2
          have n2H := Lib.hid n2
          have hwf : wfP ((j : Int), n) := ⟨wf_small hk0 (by omega), wf_small n01H.out.1 (by have := n01H.out.2; omega)⟩
          obtain ⟨w7, hup, hP7, hg7⟩ := hP.out.update hwf (by unfold maxLen; omega)
          have hKE7 : Hid (KE w7 B x) := hKE.out.of_block (hg7.block B hKE.out.lt (fun e => by have h1 := hBB.out; have h2 := Option.some.inj e; omega)) hg7.size
          have hb7 : Hid (Below w.heap.size w w7) := hb1.out.grown hg7 hb1.out.size (fun q hq => by cases hq; exact Nat.le_refl _)
          have hms7 : Hid (∀ p, p ∈ ((j : Int), n) :: ms' ↔ inM l j p ∨ inR j x (m + 1) p) := fun p => by
            rw [List.mem_cons, hms'.out p, inR_succ hnH.out p]
            constructor
            · rintro (h | h | h)
              · exact Or.inr (Or.inl h)
              · exact Or.inl h
              · exact Or.inr (Or.inr h)
            · rintro (h | h | h)
              · exact Or.inr (Or.inl h)
              · exact Or.inl h
              · exact Or.inr (Or.inr h)
          replace hP7 := Lib.hid hP7
          clear n2 hwf hg7
          by_cases hz0 : m = 0
          · have hmz : ¬ (0 : Int) < (m : Int) := by omega
            have hnew := Lib.hid (hmok.out.succ hnH.out ⟨n01H.out.1, n01H.out.2, n2H.out, fun q h => absurd h (by omega)⟩)
            replace hz0 := Lib.hid hz0
            go_wp2_with fail
            go_at_call 30
            refine (pwithin _ _ _ _).mono ?_
            rintro e w' ⟨rfl, rfl⟩
            go_wp2_with fail
            go_roundw
            case rel => exact ⟨m + 1, _, by omega, by go_num, hnew, hms7, hP7.out, hKE7.out, hb7.out⟩
            case measure => simp [intOf]; omega
          · obtain ⟨m', hm'⟩ : ∃ m', m' + 1 = m := ⟨m - 1, by omega⟩
            obtain ⟨z, hz⟩ : ∃ z, x.met[m']? = some z := ⟨_, List.getElem?_eq_getElem (by omega)⟩
            have hz1 : (m' : Int) < (x.met.length : Int) := by omega
            have m1 : wr.cell? ⟨bm, om + m', none⟩ = some (.int .i64 z) := by
              obtain ⟨b2, o2, e2, _, h2⟩ := rec1 hmet.out hz
              rw [hAmH.out] at e2
              obtain ⟨rfl, rfl⟩ : bm = b2 ∧ om = o2 := by simpa using e2
              exact h2
            have hM0 : (0 : Int) < (m : Int) := by omega
            have hm0 : (0 : Int) ≤ (m' : Int) := Int.natCast_nonneg _
            have gM : IntKind.i64.wrap ((m : Int) - 1) = (m' : Int) := by rw [show (m : Int) - 1 = (m' : Int) by omega]; exact IntWalk.i64_in _ (by omega)
            have hzH : Hid (x.met[m - 1]? = some z) := by show x.met[m - 1]? = some z; rw [show m - 1 = m' by omega]; exact hz
            clear hz
            replace hz0 := Lib.hid hz0
            replace hm' := Lib.hid hm'
            by_cases nz : n ≤ z
            · have hV : Hid (fB l = false) := fB_noB hxH.out fun h => by
                have := (h.2.2 m _ hmn hnH.out).2.2.2 z (by omega) hzH.out
                omega
              go_wp2_with fail
              go_at_call 30
              refine (pwithin _ _ _ _).mono ?_
              rintro e w' ⟨rfl, rfl⟩
              go_wp2_with fail
              go_ret
              exact ⟨PC.rb hV.out.symm, hb1.out⟩
            have hnew := Lib.hid (hmok.out.succ hnH.out ⟨n01H.out.1, n01H.out.2, n2H.out, fun q _ hq => by
                rw [hzH.out] at hq
                have := Option.some.inj hq
                omega⟩)
            go_wp2_with fail
            go_at_call 30
            refine (pwithin _ _ _ _).mono ?_
            rintro e w' ⟨rfl, rfl⟩
            go_wp2_with fail
            go_roundw
            case rel => exact ⟨m + 1, _, by omega, by go_num, hnew, hms7, hP7.out, hKE7.out, hb7.out⟩
            case measure => simp [intOf]; omega
end Go.Proofs.YtjjjdoealagpcaaDoor
