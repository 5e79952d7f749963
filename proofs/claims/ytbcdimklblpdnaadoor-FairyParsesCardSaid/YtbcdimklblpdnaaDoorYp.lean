/- Layer 27: the program's steps and Steps. -/
import Derived.Test.YtbcdimklblpdnaaDoorYo
import Derived.Test.YtbcdimklblpdnaaDoorYl
namespace Go.Proofs.YtbcdimklblpdnaaDoor
open Go Go.RowKit
set_option linter.unusedSimpArgs false
set_option linter.unusedVariables false
/-- the box of a pair beside a row of one's own -/
structure KX (w : World) (B : Nat) (p q : Int) (A : Option Addr) : Prop where
  c0 : w.cell? ⟨B, 0, none⟩ = some (.int .i64 p)
  c1 : w.cell? ⟨B, 1, none⟩ = some (.int .i64 q)
  lt : B < w.heap.size
  ne : ∀ (n c : Nat), (Value.slice A n c).ownBlock ≠ some B
theorem KX.next {w w' : World} {B : Nat} {p q : Int} {A : Option Addr} (h : KX w B p q A) (hb : Below w.heap.size w w') : KX w' B p q A :=
  ⟨(hb.cell (p := ⟨B, _, none⟩) h.lt).trans h.c0, (hb.cell (p := ⟨B, _, none⟩) h.lt).trans h.c1, Nat.lt_of_lt_of_le h.lt hb.size, h.ne⟩
theorem own_any (A : Option Addr) (n c n' c' : Nat) : (Value.slice A n c).ownBlock = (Value.slice A n' c').ownBlock := by cases A <;> rfl
theorem KX.app {w w' : World} {B : Nat} {p q : Int} {A A' : Option Addr} {n c n' c' : Nat} (h : KX w B p q A) (hg : w.grownBy w' (Value.slice A n c).ownBlock) (h3 : (Value.slice A' n' c').ownBlock = (Value.slice A n c).ownBlock ∨ (Value.slice A' n' c').ownBlock = some w.heap.size) : KX w' B p q A' := by
  have hk : w'.heap[B]? = w.heap[B]? := hg.block B h.lt (fun e => h.ne n c e.symm)
  refine ⟨(World.cell?_of_block hk).trans h.c0, (World.cell?_of_block hk).trans h.c1, Nat.lt_of_lt_of_le h.lt hg.size, fun n2 c2 e => ?_⟩
  rw [own_any A' n2 c2 n' c'] at e
  rcases h3 with h3 | h3
  · exact h.ne n c (h3.symm.trans e)
  · have := h.lt
    rw [h3] at e
    have := Option.some.inj e
    omega
def outK (y : Int) (b : Bool) (s l : Int) : Nat → List St
  | 0 => []
  | 1 => rowS y b s l 4
  | _ => rawL y b s l
theorem KX.made (w : World) (p q : Int) (T : TypeId) (A : Option Addr) (hA : ∀ (n c : Nat) (B : Nat), (Value.slice A n c).ownBlock = some B → B < w.heap.size) : KX (w.alloc (.cells #[.int .i64 p, .int .i64 q] T)) w.heap.size p q A :=
  ⟨by rw [cell_of_row _ _ _ _ _ _ (heap_alloc_new w _)]; rfl, by rw [cell_of_row _ _ _ _ _ _ (heap_alloc_new w _)]; rfl, by simp, fun n c e => by have := hA n c _ e; omega⟩
theorem run_pair0 (S L : Int) (W : World) : (Instr.index 85 (.agg #[.int .i64 S, .int .i64 L, .int .i64 L, .int .i64 S]) (.int .i64 0)).run Tryd.prog W = .ok (.agg #[.int .i64 S, .int .i64 L]) W := by kernel_rfl
theorem run_pair1 (S L : Int) (W : World) : (Instr.index 85 (.agg #[.int .i64 S, .int .i64 L, .int .i64 L, .int .i64 S]) (.int .i64 1)).run Tryd.prog W = .ok (.agg #[.int .i64 L, .int .i64 S]) W := by kernel_rfl
set_option maxRecDepth 100000 in
set_option maxHeartbeats 1000000 in
theorem psteps_yes (x : At) (w : World) (hx : okA x) : Calls Tryd.prog 26 #[aV x, .bool true] w fun e w' => StR (stepsL x true) e w w' := by
  have hX := Lib.hid (KA.new w x)
  have hb1 : Hid (Below w.heap.size w (w.alloc (.cells #[.int .i64 x.kind, .int .i64 x.short, .int .i64 x.long, .int .i64 x.most, .int .i64 x.mode, .int .i64 x.way] 40))) := (Below.refl _ _).alloc (Nat.le_refl _) _
  have htab := Lib.hid (table hx true)
  obtain ⟨_, _, hy, hsh, hlo, _⟩ := hx
  have hs7 : 0 ≤ x.short ∧ x.short ≤ 7 := by omega
  have hl7 : 0 ≤ x.long ∧ x.long ≤ 7 := by omega
  clear hsh hlo hy
  go_enter Tryd.func26, Tryd.ntmps26
  go_upto_region 1 with fail
  generalize w.heap.size = B0 at hX ⊢
  generalize w.alloc (.cells #[.int .i64 x.kind, .int .i64 x.short, .int .i64 x.long, .int .i64 x.most, .int .i64 x.mode, .int .i64 x.way] 40) = u at *
  obtain ⟨x0, x1, x2, x3, x4, x5, _⟩ := hX.out
  have hO0 : Hid (O1 sEnc 2 u.heap.size 43 u u none 0 (outK x.way true x.short x.long 0)) := O1.nil (Below.refl _ _) (Nat.le_refl _)
  have hn0 : (outK x.way true x.short x.long 0).length = 0 := rfl
  go_wp2_with fail
  clear x0 x1 x2 x3 x4 x5
  go_loopw [5, 22] (fun s i wr => ∃ (k : Nat) (A5 : Option Addr) (c5 : Nat), k ≤ 2 ∧ i = .int .i64 (k : Int) ∧ s = .slice A5 (outK x.way true x.short x.long k).length c5 ∧ Hid (O1 sEnc 2 u.heap.size 43 u wr A5 c5 (outK x.way true x.short x.long k))) (fun _ i _ => (3 - intOf i).toNat)
  case atStart => exact ⟨0, none, 0, by omega, rfl, rfl, hO0⟩
  case round =>
    clear hO0 hn0
    obtain ⟨k, A5, c5, hk, rfl, rfl, hO⟩ := hrel
    by_cases hk2 : k = 2
    · subst hk2
      obtain ⟨Z, hZ⟩ : ∃ Z, rawL x.way true x.short x.long = Z := ⟨_, rfl⟩
      have hZ8 : Z.length ≤ 8 := by
        rw [← hZ]
        unfold rawL
        rw [List.length_append]
        have h1 := rowS_le x.way true x.short x.long 4
        have h2 := rowS_le x.way true x.long x.short 4
        omega
      rw [hZ] at htab
      have hZ1 : 0 < Z.length := htab.out.2
      have hoz : outK x.way true x.short x.long 2 = Z := hZ
      rw [hoz] at hO ⊢
      clear hoz hZ hk
      have hso := Lib.hid (psort hO.out hZ1 (by omega))
      go_wp2_with (go_at_call 44; refine hso.out.mono ?_; rintro e w2 ⟨rfl, hO2⟩; replace hO2 := Lib.hid hO2)
      have hco := Lib.hid (pcompact hO2.out (by rw [sortS_len]; exact hZ1) (by rw [sortS_len]; omega))
      rw [sortS_len] at hco
      rw [htab.out.1] at hco
      clear hso hO
      go_at_call 46
      refine hco.out.mono ?_
      rintro e w3 ⟨rfl, hO3⟩
      have hfin : Hid (StR (stepsL x true) (.returned (.slice A5 (stepsL x true).length c5)) w w3) := ⟨⟨A5, c5, rfl, hO3.recs sEnc_len⟩, hb1.out.trans (hO3.below.mono hb1.out.size)⟩
      clear hO3
      go_wp2_with fail
      go_ret
      exact hfin.out
    obtain ⟨p, q, hpq, hp7, hq7, hnx, hl0⟩ : ∃ p q : Int, (k = 0 ∧ p = x.short ∧ q = x.long ∨ k = 1 ∧ p = x.long ∧ q = x.short) ∧ (0 ≤ p ∧ p ≤ 7) ∧ (0 ≤ q ∧ q ≤ 7) ∧ Hid (outK x.way true x.short x.long k ++ rowS x.way true p q 4 = outK x.way true x.short x.long (k + 1)) ∧ (outK x.way true x.short x.long k).length ≤ 4 := by
      by_cases hk0 : k = 0
      · subst hk0
        exact ⟨x.short, x.long, .inl ⟨rfl, rfl, rfl⟩, hs7, hl7, rfl, by show ([] : List St).length ≤ 4; simp⟩
      · obtain rfl : k = 1 := by omega
        exact ⟨x.long, x.short, .inr ⟨rfl, rfl, rfl⟩, hl7, hs7, rfl, rowS_le _ _ _ _ _⟩
    have hOa : ∀ (n c : Nat) (B : Nat), (Value.slice A5 n c).ownBlock = some B → B < wr.heap.size := fun n c B e => (World.ownsRow.lt hO.out.own B (by rw [own_any A5 _ _ n c]; exact e)).2
    have hKX := Lib.hid (KX.made wr p q 84 A5 hOa)
    have hO1 := Lib.hid (hO.out.alloc (.cells #[.int .i64 p, .int .i64 q] 84))
    clear hOa hO
    obtain ⟨E0, hE0⟩ : ∃ E0, outK x.way true x.short x.long k = E0 := ⟨_, rfl⟩
    rw [hE0] at hnx hl0 hO1 ⊢
    clear hE0
    obtain ⟨k1, hk1⟩ : ∃ k1 : Int, (k : Int) = k1 := ⟨_, rfl⟩
    have hkn : Hid (k1 + 1 = ((k + 1 : Nat) : Int)) := by show _ = _; omega
    rw [hk1]
    have hidx : ∀ W : World, (Instr.index 85 (.agg #[.int .i64 x.short, .int .i64 x.long, .int .i64 x.long, .int .i64 x.short]) (.int .i64 k1)).run Tryd.prog W = .ok (.agg #[.int .i64 p, .int .i64 q]) W := fun W => by
      rcases hpq with ⟨h1, rfl, rfl⟩ | ⟨h1, rfl, rfl⟩
      · obtain rfl : k1 = 0 := by omega
        exact run_pair0 _ _ _
      · obtain rfl : k1 = 1 := by omega
        exact run_pair1 _ _ _
    have hk12 : (k1 < 2) = True := eq_true (by omega)
    have hk1b : 0 ≤ k1 ∧ k1 ≤ 1 := by omega
    have hkm : Hid ((3 - (k1 + 1)).toNat < (3 - k1).toNat) := by show _ < _; omega
    have hkle : Hid (k + 1 ≤ 2) := by show _ ≤ _; omega
    clear hpq hk1 hk2 hk hs7 hl7
    go_upto_region 6 with fail
    generalize wr.heap.size = BX at hKX ⊢
    generalize wr.alloc (.cells #[.int .i64 p, .int .i64 q] 84) = v at *
    have hO2 : Hid (O1 sEnc 2 u.heap.size 43 u v A5 c5 (E0 ++ rowS x.way true p q 0)) := by
      show O1 _ _ _ _ _ _ _ _ (E0 ++ [])
      rw [List.append_nil]; exact hO1.out
    have hln : E0.length = (E0 ++ rowS x.way true p q 0).length := by
      show _ = (E0 ++ []).length
      rw [List.append_nil]
    rw [hln]
    clear hO1 hln hidx hk12
    obtain ⟨p', hp'⟩ : ∃ p' : Int, -p = p' := ⟨_, rfl⟩
    obtain ⟨q', hq'⟩ : ∃ q' : Int, -q = q' := ⟨_, rfl⟩
    have gp : IntKind.i64.wrap (-p) = p' := hp' ▸ IntWalk.i64_in _ (by omega)
    have gq : IntKind.i64.wrap (-q) = q' := hq' ▸ IntWalk.i64_in _ (by omega)
    have gq' : IntKind.i64.wrap (-q') = q := by rw [IntWalk.i64_in _ (by omega)]; omega
    have hp'H := Lib.hid hp'
    have hq'H := Lib.hid hq'
    clear hp' hq'
    go_loopw [5, 25] (fun s i wr => ∃ (n : Nat) (A5 : Option Addr) (c5 : Nat), n ≤ 4 ∧ i = .int .i64 (n : Int) ∧ s = .slice A5 (E0 ++ rowS x.way true p q n).length c5 ∧ Hid (O1 sEnc 2 u.heap.size 43 u wr A5 c5 (E0 ++ rowS x.way true p q n)) ∧ Hid (KX wr BX p q A5)) (fun _ i _ => (5 - intOf i).toNat)
    case atStart => exact ⟨0, A5, c5, by omega, rfl, rfl, hO2, hKX⟩
    case round =>
      clear hO2 hKX
      obtain ⟨n, A5, c5, hn, rfl, rfl, hO, hKX⟩ := hrel
      have hrl := rowS_le x.way true p q n
      by_cases hn4 : n = 4
      · subst hn4
        rw [hnx.out] at hO ⊢
        clear gp gq gq'
        go_wp2_with fail
        go_roundw
        case rel => exact ⟨k + 1, A5, c5, hkle.out, by rw [← hkn.out]; try go_num, rfl, hO⟩
        case measure => exact hkm.out
      obtain ⟨y0, y1, _, _⟩ := hKX.out
      have hel : (E0 ++ rowS x.way true p q n).length ≤ 8 := by rw [List.length_append]; omega
      obtain ⟨N, hN⟩ : ∃ N : Int, (n : Int) = N := ⟨_, rfl⟩
      have hNn : Hid (N + 1 = ((n + 1 : Nat) : Int)) := by show _ = _; omega
      have hn1 : Hid (n + 1 ≤ 4) := by show _ ≤ _; omega
      have hNm : Hid ((5 - (N + 1)).toNat < (5 - N).toNat) := by show _ < _; omega
      have hN4 : (N < 4) = True := eq_true (by omega)
      have hno : Hid (keepW x.way true (rawS p q n).ranks = false → E0 ++ rowS x.way true p q n = E0 ++ rowS x.way true p q (n + 1)) := fun h => by
        show _ = E0 ++ (if keepW x.way true (rawS p q n).ranks = true then _ else _)
        rw [h]; rfl
      have hyes : Hid (keepW x.way true (rawS p q n).ranks = true → (E0 ++ rowS x.way true p q n) ++ [rawS p q n] = E0 ++ rowS x.way true p q (n + 1)) := fun h => by
        show _ = E0 ++ (if keepW x.way true (rawS p q n).ranks = true then _ else _)
        rw [h, List.append_assoc]; rfl
      have hN3 : 0 ≤ N ∧ N ≤ 3 := by omega
      rw [hN]
      have hc4 : n = 0 ∨ n = 1 ∨ n = 2 ∨ n = 3 := by omega
      clear hrl hn hn4
      rcases hc4 with hc | hc | hc | hc
      · have hA1 : bits BinOp.and IntKind.i64 N 1 = 0 := by rw [← hN, hc]; rfl
        have hA2 : bits BinOp.and IntKind.i64 N 2 = 0 := by rw [← hN, hc]; rfl
        have hs : Hid (rawS p q n = ⟨p, q⟩) := by
          show rawS p q n = _
          rw [hc]; rfl
        have hke : Hid (keepW x.way true (rawS p q n).ranks = !(decide (x.way = 1 ∧ q' ≤ 0) || decide (x.way = 2 ∧ 0 ≤ q'))) := by
          show keepW x.way true (rawS p q n).ranks = _
          rw [hs.out]
          have hu : upS true q = q' := by
            have := hq'H.out
            unfold upS
            simp
            omega
          unfold keepW
          rw [hu]
        clear hN hc
        go_upto_region 13 with fail
        have hKs := Lib.hid (KS.new wr p q)
        have hO2 := Lib.hid (hO.out.alloc (.cells #[.int .i64 p, .int .i64 q] 43))
        have hK2 : Hid (KX (wr.alloc (.cells #[.int .i64 p, .int .i64 q] 43)) BX p q A5) := hKX.out.next ((Below.refl _ _).alloc (Nat.le_refl _) _)
        clear hO hKX y0 y1 hA1 hA2
        generalize wr.heap.size = BS at hKs ⊢
        generalize wr.alloc (.cells #[.int .i64 p, .int .i64 q] 43) = v2 at *
        obtain ⟨s0, s1, _⟩ := hKs.out
        obtain ⟨_, _, _, _, _, x5, _⟩ := hX.out.next hO2.out.below
        by_cases k3 : x.way = 1
        · have q3 : (x.way == 1) = true := by rw [beq_iff_eq]; exact k3
          have q4 : (x.way == 2) = false := by rw [beq_eq_false_iff_ne]; omega
          by_cases k4 : q' ≤ 0
          · have q5 : (q' ≤ 0) = True := eq_true k4
            have hk : Hid (keepW x.way true (rawS p q n).ranks = false) := by
              show keepW x.way true (rawS p q n).ranks = false
              rw [hke.out, decide_eq_true ⟨k3, k4⟩]; rfl
            clear k3 k4
            have hL := hno.out hk.out
            rw [hL] at hO2 ⊢
            clear hk hno hyes hke hL
            go_wp2_with fail
            go_roundw
            case rel => exact ⟨n + 1, A5, c5, hn1.out, by rw [← hNn.out]; try go_num, by first | rfl | rw [List.length_append], hO2, hK2⟩
            case measure => exact hNm.out
          · have q5 : (q' ≤ 0) = False := eq_false k4
            have hk : Hid (keepW x.way true (rawS p q n).ranks = true) := by
              show keepW x.way true (rawS p q n).ranks = true
              rw [hke.out, decide_eq_false (fun h => k4 h.2), decide_eq_false (fun h => by omega)]; rfl
            clear k3 k4
            have hL := Lib.hid (hs.out ▸ hyes.out hk.out)
            have hsl : (E0 ++ rowS x.way true p q n).length + 1 = (E0 ++ rowS x.way true p q (n + 1)).length := len_app1 hL.out
            clear hk hno hyes hke
            generalize hel2 : E0 ++ rowS x.way true p q n = E at *
            go_wp2_with (at_builtin; refine wpList_append_recs stepRow sEnc_len sEnc_one rfl _ _ rfl u.heap.size A5 c5 E rfl (hO2.out.alloc _).own _ 1 [(⟨p, q⟩ : St)] rfl (recs_st _ ⟨p, q⟩ _) (by simp; omega) (hO2.out.alloc _).size ?_; intro A' c' w' hown hg h3; rw [hL.out] at hown ⊢; have hO' := Lib.hid ((hO2.out.alloc _).app hown hg); have hK' := Lib.hid ((hK2.out.next ((Below.refl _ _).alloc (Nat.le_refl _) _)).app hg h3); clear hown hg h3)
            go_roundw
            case rel => exact ⟨n + 1, A', c', hn1.out, by rw [← hNn.out]; try go_num, by first | rfl | rw [List.length_append], hO', hK'⟩
            case measure => exact hNm.out
        have q3 : (x.way == 1) = false := by rw [beq_eq_false_iff_ne]; exact k3
        by_cases k5 : x.way = 2
        · have q4 : (x.way == 2) = true := by rw [beq_iff_eq]; exact k5
          by_cases k4 : 0 ≤ q'
          · have q5 : (0 ≤ q') = True := eq_true k4
            have hk : Hid (keepW x.way true (rawS p q n).ranks = false) := by
              show keepW x.way true (rawS p q n).ranks = false
              rw [hke.out, decide_eq_false (fun h => k3 h.1), decide_eq_true ⟨k5, k4⟩]; rfl
            clear k3 k4 k5
            have hL := hno.out hk.out
            rw [hL] at hO2 ⊢
            clear hk hno hyes hke hL
            go_wp2_with fail
            go_roundw
            case rel => exact ⟨n + 1, A5, c5, hn1.out, by rw [← hNn.out]; try go_num, by first | rfl | rw [List.length_append], hO2, hK2⟩
            case measure => exact hNm.out
          · have q5 : (0 ≤ q') = False := eq_false k4
            have hk : Hid (keepW x.way true (rawS p q n).ranks = true) := by
              show keepW x.way true (rawS p q n).ranks = true
              rw [hke.out, decide_eq_false (fun h => k3 h.1), decide_eq_false (fun h => k4 h.2)]; rfl
            clear k3 k4 k5
            have hL := Lib.hid (hs.out ▸ hyes.out hk.out)
            have hsl : (E0 ++ rowS x.way true p q n).length + 1 = (E0 ++ rowS x.way true p q (n + 1)).length := len_app1 hL.out
            clear hk hno hyes hke
            generalize hel2 : E0 ++ rowS x.way true p q n = E at *
            go_wp2_with (at_builtin; refine wpList_append_recs stepRow sEnc_len sEnc_one rfl _ _ rfl u.heap.size A5 c5 E rfl (hO2.out.alloc _).own _ 1 [(⟨p, q⟩ : St)] rfl (recs_st _ ⟨p, q⟩ _) (by simp; omega) (hO2.out.alloc _).size ?_; intro A' c' w' hown hg h3; rw [hL.out] at hown ⊢; have hO' := Lib.hid ((hO2.out.alloc _).app hown hg); have hK' := Lib.hid ((hK2.out.next ((Below.refl _ _).alloc (Nat.le_refl _) _)).app hg h3); clear hown hg h3)
            go_roundw
            case rel => exact ⟨n + 1, A', c', hn1.out, by rw [← hNn.out]; try go_num, by first | rfl | rw [List.length_append], hO', hK'⟩
            case measure => exact hNm.out
        have q4 : (x.way == 2) = false := by rw [beq_eq_false_iff_ne]; exact k5
        have hk : Hid (keepW x.way true (rawS p q n).ranks = true) := by
          show keepW x.way true (rawS p q n).ranks = true
          rw [hke.out, decide_eq_false (fun h => k3 h.1), decide_eq_false (fun h => k5 h.1)]; rfl
        clear k3 k5
        have hL := Lib.hid (hs.out ▸ hyes.out hk.out)
        have hsl : (E0 ++ rowS x.way true p q n).length + 1 = (E0 ++ rowS x.way true p q (n + 1)).length := len_app1 hL.out
        clear hk hno hyes hke
        generalize hel2 : E0 ++ rowS x.way true p q n = E at *
        go_wp2_with (at_builtin; refine wpList_append_recs stepRow sEnc_len sEnc_one rfl _ _ rfl u.heap.size A5 c5 E rfl (hO2.out.alloc _).own _ 1 [(⟨p, q⟩ : St)] rfl (recs_st _ ⟨p, q⟩ _) (by simp; omega) (hO2.out.alloc _).size ?_; intro A' c' w' hown hg h3; rw [hL.out] at hown ⊢; have hO' := Lib.hid ((hO2.out.alloc _).app hown hg); have hK' := Lib.hid ((hK2.out.next ((Below.refl _ _).alloc (Nat.le_refl _) _)).app hg h3); clear hown hg h3)
        go_roundw
        case rel => exact ⟨n + 1, A', c', hn1.out, by rw [← hNn.out]; try go_num, by first | rfl | rw [List.length_append], hO', hK'⟩
        case measure => exact hNm.out
      · have hA1 : bits BinOp.and IntKind.i64 N 1 = 1 := by rw [← hN, hc]; rfl
        have hA2 : bits BinOp.and IntKind.i64 N 2 = 0 := by rw [← hN, hc]; rfl
        have hs : Hid (rawS p q n = ⟨p', q⟩) := by
          show rawS p q n = _
          rw [hc]; rw [← hp'H.out]; rfl
        have hke : Hid (keepW x.way true (rawS p q n).ranks = !(decide (x.way = 1 ∧ q' ≤ 0) || decide (x.way = 2 ∧ 0 ≤ q'))) := by
          show keepW x.way true (rawS p q n).ranks = _
          rw [hs.out]
          have hu : upS true q = q' := by
            have := hq'H.out
            unfold upS
            simp
            omega
          unfold keepW
          rw [hu]
        clear hN hc
        go_upto_region 13 with fail
        have hKs := Lib.hid (KS.new wr p' q)
        have hO2 := Lib.hid (hO.out.alloc (.cells #[.int .i64 p', .int .i64 q] 43))
        have hK2 : Hid (KX (wr.alloc (.cells #[.int .i64 p', .int .i64 q] 43)) BX p q A5) := hKX.out.next ((Below.refl _ _).alloc (Nat.le_refl _) _)
        clear hO hKX y0 y1 hA1 hA2
        generalize wr.heap.size = BS at hKs ⊢
        generalize wr.alloc (.cells #[.int .i64 p', .int .i64 q] 43) = v2 at *
        obtain ⟨s0, s1, _⟩ := hKs.out
        obtain ⟨_, _, _, _, _, x5, _⟩ := hX.out.next hO2.out.below
        by_cases k3 : x.way = 1
        · have q3 : (x.way == 1) = true := by rw [beq_iff_eq]; exact k3
          have q4 : (x.way == 2) = false := by rw [beq_eq_false_iff_ne]; omega
          by_cases k4 : q' ≤ 0
          · have q5 : (q' ≤ 0) = True := eq_true k4
            have hk : Hid (keepW x.way true (rawS p q n).ranks = false) := by
              show keepW x.way true (rawS p q n).ranks = false
              rw [hke.out, decide_eq_true ⟨k3, k4⟩]; rfl
            clear k3 k4
            have hL := hno.out hk.out
            rw [hL] at hO2 ⊢
            clear hk hno hyes hke hL
            go_wp2_with fail
            go_roundw
            case rel => exact ⟨n + 1, A5, c5, hn1.out, by rw [← hNn.out]; try go_num, by first | rfl | rw [List.length_append], hO2, hK2⟩
            case measure => exact hNm.out
          · have q5 : (q' ≤ 0) = False := eq_false k4
            have hk : Hid (keepW x.way true (rawS p q n).ranks = true) := by
              show keepW x.way true (rawS p q n).ranks = true
              rw [hke.out, decide_eq_false (fun h => k4 h.2), decide_eq_false (fun h => by omega)]; rfl
            clear k3 k4
            have hL := Lib.hid (hs.out ▸ hyes.out hk.out)
            have hsl : (E0 ++ rowS x.way true p q n).length + 1 = (E0 ++ rowS x.way true p q (n + 1)).length := len_app1 hL.out
            clear hk hno hyes hke
            generalize hel2 : E0 ++ rowS x.way true p q n = E at *
            go_wp2_with (at_builtin; refine wpList_append_recs stepRow sEnc_len sEnc_one rfl _ _ rfl u.heap.size A5 c5 E rfl (hO2.out.alloc _).own _ 1 [(⟨p', q⟩ : St)] rfl (recs_st _ ⟨p', q⟩ _) (by simp; omega) (hO2.out.alloc _).size ?_; intro A' c' w' hown hg h3; rw [hL.out] at hown ⊢; have hO' := Lib.hid ((hO2.out.alloc _).app hown hg); have hK' := Lib.hid ((hK2.out.next ((Below.refl _ _).alloc (Nat.le_refl _) _)).app hg h3); clear hown hg h3)
            go_roundw
            case rel => exact ⟨n + 1, A', c', hn1.out, by rw [← hNn.out]; try go_num, by first | rfl | rw [List.length_append], hO', hK'⟩
            case measure => exact hNm.out
        have q3 : (x.way == 1) = false := by rw [beq_eq_false_iff_ne]; exact k3
        by_cases k5 : x.way = 2
        · have q4 : (x.way == 2) = true := by rw [beq_iff_eq]; exact k5
          by_cases k4 : 0 ≤ q'
          · have q5 : (0 ≤ q') = True := eq_true k4
            have hk : Hid (keepW x.way true (rawS p q n).ranks = false) := by
              show keepW x.way true (rawS p q n).ranks = false
              rw [hke.out, decide_eq_false (fun h => k3 h.1), decide_eq_true ⟨k5, k4⟩]; rfl
            clear k3 k4 k5
            have hL := hno.out hk.out
            rw [hL] at hO2 ⊢
            clear hk hno hyes hke hL
            go_wp2_with fail
            go_roundw
            case rel => exact ⟨n + 1, A5, c5, hn1.out, by rw [← hNn.out]; try go_num, by first | rfl | rw [List.length_append], hO2, hK2⟩
            case measure => exact hNm.out
          · have q5 : (0 ≤ q') = False := eq_false k4
            have hk : Hid (keepW x.way true (rawS p q n).ranks = true) := by
              show keepW x.way true (rawS p q n).ranks = true
              rw [hke.out, decide_eq_false (fun h => k3 h.1), decide_eq_false (fun h => k4 h.2)]; rfl
            clear k3 k4 k5
            have hL := Lib.hid (hs.out ▸ hyes.out hk.out)
            have hsl : (E0 ++ rowS x.way true p q n).length + 1 = (E0 ++ rowS x.way true p q (n + 1)).length := len_app1 hL.out
            clear hk hno hyes hke
            generalize hel2 : E0 ++ rowS x.way true p q n = E at *
            go_wp2_with (at_builtin; refine wpList_append_recs stepRow sEnc_len sEnc_one rfl _ _ rfl u.heap.size A5 c5 E rfl (hO2.out.alloc _).own _ 1 [(⟨p', q⟩ : St)] rfl (recs_st _ ⟨p', q⟩ _) (by simp; omega) (hO2.out.alloc _).size ?_; intro A' c' w' hown hg h3; rw [hL.out] at hown ⊢; have hO' := Lib.hid ((hO2.out.alloc _).app hown hg); have hK' := Lib.hid ((hK2.out.next ((Below.refl _ _).alloc (Nat.le_refl _) _)).app hg h3); clear hown hg h3)
            go_roundw
            case rel => exact ⟨n + 1, A', c', hn1.out, by rw [← hNn.out]; try go_num, by first | rfl | rw [List.length_append], hO', hK'⟩
            case measure => exact hNm.out
        have q4 : (x.way == 2) = false := by rw [beq_eq_false_iff_ne]; exact k5
        have hk : Hid (keepW x.way true (rawS p q n).ranks = true) := by
          show keepW x.way true (rawS p q n).ranks = true
          rw [hke.out, decide_eq_false (fun h => k3 h.1), decide_eq_false (fun h => k5 h.1)]; rfl
        clear k3 k5
        have hL := Lib.hid (hs.out ▸ hyes.out hk.out)
        have hsl : (E0 ++ rowS x.way true p q n).length + 1 = (E0 ++ rowS x.way true p q (n + 1)).length := len_app1 hL.out
        clear hk hno hyes hke
        generalize hel2 : E0 ++ rowS x.way true p q n = E at *
        go_wp2_with (at_builtin; refine wpList_append_recs stepRow sEnc_len sEnc_one rfl _ _ rfl u.heap.size A5 c5 E rfl (hO2.out.alloc _).own _ 1 [(⟨p', q⟩ : St)] rfl (recs_st _ ⟨p', q⟩ _) (by simp; omega) (hO2.out.alloc _).size ?_; intro A' c' w' hown hg h3; rw [hL.out] at hown ⊢; have hO' := Lib.hid ((hO2.out.alloc _).app hown hg); have hK' := Lib.hid ((hK2.out.next ((Below.refl _ _).alloc (Nat.le_refl _) _)).app hg h3); clear hown hg h3)
        go_roundw
        case rel => exact ⟨n + 1, A', c', hn1.out, by rw [← hNn.out]; try go_num, by first | rfl | rw [List.length_append], hO', hK'⟩
        case measure => exact hNm.out
      · have hA1 : bits BinOp.and IntKind.i64 N 1 = 0 := by rw [← hN, hc]; rfl
        have hA2 : bits BinOp.and IntKind.i64 N 2 = 2 := by rw [← hN, hc]; rfl
        have hs : Hid (rawS p q n = ⟨p, q'⟩) := by
          show rawS p q n = _
          rw [hc]; rw [← hq'H.out]; rfl
        have hke : Hid (keepW x.way true (rawS p q n).ranks = !(decide (x.way = 1 ∧ q ≤ 0) || decide (x.way = 2 ∧ 0 ≤ q))) := by
          show keepW x.way true (rawS p q n).ranks = _
          rw [hs.out]
          have hu : upS true q' = q := by
            have := hq'H.out
            unfold upS
            simp
            omega
          unfold keepW
          rw [hu]
        clear hN hc
        go_upto_region 13 with fail
        have hKs := Lib.hid (KS.new wr p q')
        have hO2 := Lib.hid (hO.out.alloc (.cells #[.int .i64 p, .int .i64 q'] 43))
        have hK2 : Hid (KX (wr.alloc (.cells #[.int .i64 p, .int .i64 q'] 43)) BX p q A5) := hKX.out.next ((Below.refl _ _).alloc (Nat.le_refl _) _)
        clear hO hKX y0 y1 hA1 hA2
        generalize wr.heap.size = BS at hKs ⊢
        generalize wr.alloc (.cells #[.int .i64 p, .int .i64 q'] 43) = v2 at *
        obtain ⟨s0, s1, _⟩ := hKs.out
        obtain ⟨_, _, _, _, _, x5, _⟩ := hX.out.next hO2.out.below
        by_cases k3 : x.way = 1
        · have q3 : (x.way == 1) = true := by rw [beq_iff_eq]; exact k3
          have q4 : (x.way == 2) = false := by rw [beq_eq_false_iff_ne]; omega
          by_cases k4 : q ≤ 0
          · have q5 : (q ≤ 0) = True := eq_true k4
            have hk : Hid (keepW x.way true (rawS p q n).ranks = false) := by
              show keepW x.way true (rawS p q n).ranks = false
              rw [hke.out, decide_eq_true ⟨k3, k4⟩]; rfl
            clear k3 k4
            have hL := hno.out hk.out
            rw [hL] at hO2 ⊢
            clear hk hno hyes hke hL
            go_wp2_with fail
            go_roundw
            case rel => exact ⟨n + 1, A5, c5, hn1.out, by rw [← hNn.out]; try go_num, by first | rfl | rw [List.length_append], hO2, hK2⟩
            case measure => exact hNm.out
          · have q5 : (q ≤ 0) = False := eq_false k4
            have hk : Hid (keepW x.way true (rawS p q n).ranks = true) := by
              show keepW x.way true (rawS p q n).ranks = true
              rw [hke.out, decide_eq_false (fun h => k4 h.2), decide_eq_false (fun h => by omega)]; rfl
            clear k3 k4
            have hL := Lib.hid (hs.out ▸ hyes.out hk.out)
            have hsl : (E0 ++ rowS x.way true p q n).length + 1 = (E0 ++ rowS x.way true p q (n + 1)).length := len_app1 hL.out
            clear hk hno hyes hke
            generalize hel2 : E0 ++ rowS x.way true p q n = E at *
            go_wp2_with (at_builtin; refine wpList_append_recs stepRow sEnc_len sEnc_one rfl _ _ rfl u.heap.size A5 c5 E rfl (hO2.out.alloc _).own _ 1 [(⟨p, q'⟩ : St)] rfl (recs_st _ ⟨p, q'⟩ _) (by simp; omega) (hO2.out.alloc _).size ?_; intro A' c' w' hown hg h3; rw [hL.out] at hown ⊢; have hO' := Lib.hid ((hO2.out.alloc _).app hown hg); have hK' := Lib.hid ((hK2.out.next ((Below.refl _ _).alloc (Nat.le_refl _) _)).app hg h3); clear hown hg h3)
            go_roundw
            case rel => exact ⟨n + 1, A', c', hn1.out, by rw [← hNn.out]; try go_num, by first | rfl | rw [List.length_append], hO', hK'⟩
            case measure => exact hNm.out
        have q3 : (x.way == 1) = false := by rw [beq_eq_false_iff_ne]; exact k3
        by_cases k5 : x.way = 2
        · have q4 : (x.way == 2) = true := by rw [beq_iff_eq]; exact k5
          by_cases k4 : 0 ≤ q
          · have q5 : (0 ≤ q) = True := eq_true k4
            have hk : Hid (keepW x.way true (rawS p q n).ranks = false) := by
              show keepW x.way true (rawS p q n).ranks = false
              rw [hke.out, decide_eq_false (fun h => k3 h.1), decide_eq_true ⟨k5, k4⟩]; rfl
            clear k3 k4 k5
            have hL := hno.out hk.out
            rw [hL] at hO2 ⊢
            clear hk hno hyes hke hL
            go_wp2_with fail
            go_roundw
            case rel => exact ⟨n + 1, A5, c5, hn1.out, by rw [← hNn.out]; try go_num, by first | rfl | rw [List.length_append], hO2, hK2⟩
            case measure => exact hNm.out
          · exact absurd hq7.1 k4
        have q4 : (x.way == 2) = false := by rw [beq_eq_false_iff_ne]; exact k5
        have hk : Hid (keepW x.way true (rawS p q n).ranks = true) := by
          show keepW x.way true (rawS p q n).ranks = true
          rw [hke.out, decide_eq_false (fun h => k3 h.1), decide_eq_false (fun h => k5 h.1)]; rfl
        clear k3 k5
        have hL := Lib.hid (hs.out ▸ hyes.out hk.out)
        have hsl : (E0 ++ rowS x.way true p q n).length + 1 = (E0 ++ rowS x.way true p q (n + 1)).length := len_app1 hL.out
        clear hk hno hyes hke
        generalize hel2 : E0 ++ rowS x.way true p q n = E at *
        go_wp2_with (at_builtin; refine wpList_append_recs stepRow sEnc_len sEnc_one rfl _ _ rfl u.heap.size A5 c5 E rfl (hO2.out.alloc _).own _ 1 [(⟨p, q'⟩ : St)] rfl (recs_st _ ⟨p, q'⟩ _) (by simp; omega) (hO2.out.alloc _).size ?_; intro A' c' w' hown hg h3; rw [hL.out] at hown ⊢; have hO' := Lib.hid ((hO2.out.alloc _).app hown hg); have hK' := Lib.hid ((hK2.out.next ((Below.refl _ _).alloc (Nat.le_refl _) _)).app hg h3); clear hown hg h3)
        go_roundw
        case rel => exact ⟨n + 1, A', c', hn1.out, by rw [← hNn.out]; try go_num, by first | rfl | rw [List.length_append], hO', hK'⟩
        case measure => exact hNm.out
      · have hA1 : bits BinOp.and IntKind.i64 N 1 = 1 := by rw [← hN, hc]; rfl
        have hA2 : bits BinOp.and IntKind.i64 N 2 = 2 := by rw [← hN, hc]; rfl
        have hs : Hid (rawS p q n = ⟨p', q'⟩) := by
          show rawS p q n = _
          rw [hc]; rw [← hp'H.out]; rw [← hq'H.out]; rfl
        have hke : Hid (keepW x.way true (rawS p q n).ranks = !(decide (x.way = 1 ∧ q ≤ 0) || decide (x.way = 2 ∧ 0 ≤ q))) := by
          show keepW x.way true (rawS p q n).ranks = _
          rw [hs.out]
          have hu : upS true q' = q := by
            have := hq'H.out
            unfold upS
            simp
            omega
          unfold keepW
          rw [hu]
        clear hN hc
        go_upto_region 13 with fail
        have hKs := Lib.hid (KS.new wr p' q')
        have hO2 := Lib.hid (hO.out.alloc (.cells #[.int .i64 p', .int .i64 q'] 43))
        have hK2 : Hid (KX (wr.alloc (.cells #[.int .i64 p', .int .i64 q'] 43)) BX p q A5) := hKX.out.next ((Below.refl _ _).alloc (Nat.le_refl _) _)
        clear hO hKX y0 y1 hA1 hA2
        generalize wr.heap.size = BS at hKs ⊢
        generalize wr.alloc (.cells #[.int .i64 p', .int .i64 q'] 43) = v2 at *
        obtain ⟨s0, s1, _⟩ := hKs.out
        obtain ⟨_, _, _, _, _, x5, _⟩ := hX.out.next hO2.out.below
        by_cases k3 : x.way = 1
        · have q3 : (x.way == 1) = true := by rw [beq_iff_eq]; exact k3
          have q4 : (x.way == 2) = false := by rw [beq_eq_false_iff_ne]; omega
          by_cases k4 : q ≤ 0
          · have q5 : (q ≤ 0) = True := eq_true k4
            have hk : Hid (keepW x.way true (rawS p q n).ranks = false) := by
              show keepW x.way true (rawS p q n).ranks = false
              rw [hke.out, decide_eq_true ⟨k3, k4⟩]; rfl
            clear k3 k4
            have hL := hno.out hk.out
            rw [hL] at hO2 ⊢
            clear hk hno hyes hke hL
            go_wp2_with fail
            go_roundw
            case rel => exact ⟨n + 1, A5, c5, hn1.out, by rw [← hNn.out]; try go_num, by first | rfl | rw [List.length_append], hO2, hK2⟩
            case measure => exact hNm.out
          · have q5 : (q ≤ 0) = False := eq_false k4
            have hk : Hid (keepW x.way true (rawS p q n).ranks = true) := by
              show keepW x.way true (rawS p q n).ranks = true
              rw [hke.out, decide_eq_false (fun h => k4 h.2), decide_eq_false (fun h => by omega)]; rfl
            clear k3 k4
            have hL := Lib.hid (hs.out ▸ hyes.out hk.out)
            have hsl : (E0 ++ rowS x.way true p q n).length + 1 = (E0 ++ rowS x.way true p q (n + 1)).length := len_app1 hL.out
            clear hk hno hyes hke
            generalize hel2 : E0 ++ rowS x.way true p q n = E at *
            go_wp2_with (at_builtin; refine wpList_append_recs stepRow sEnc_len sEnc_one rfl _ _ rfl u.heap.size A5 c5 E rfl (hO2.out.alloc _).own _ 1 [(⟨p', q'⟩ : St)] rfl (recs_st _ ⟨p', q'⟩ _) (by simp; omega) (hO2.out.alloc _).size ?_; intro A' c' w' hown hg h3; rw [hL.out] at hown ⊢; have hO' := Lib.hid ((hO2.out.alloc _).app hown hg); have hK' := Lib.hid ((hK2.out.next ((Below.refl _ _).alloc (Nat.le_refl _) _)).app hg h3); clear hown hg h3)
            go_roundw
            case rel => exact ⟨n + 1, A', c', hn1.out, by rw [← hNn.out]; try go_num, by first | rfl | rw [List.length_append], hO', hK'⟩
            case measure => exact hNm.out
        have q3 : (x.way == 1) = false := by rw [beq_eq_false_iff_ne]; exact k3
        by_cases k5 : x.way = 2
        · have q4 : (x.way == 2) = true := by rw [beq_iff_eq]; exact k5
          by_cases k4 : 0 ≤ q
          · have q5 : (0 ≤ q) = True := eq_true k4
            have hk : Hid (keepW x.way true (rawS p q n).ranks = false) := by
              show keepW x.way true (rawS p q n).ranks = false
              rw [hke.out, decide_eq_false (fun h => k3 h.1), decide_eq_true ⟨k5, k4⟩]; rfl
            clear k3 k4 k5
            have hL := hno.out hk.out
            rw [hL] at hO2 ⊢
            clear hk hno hyes hke hL
            go_wp2_with fail
            go_roundw
            case rel => exact ⟨n + 1, A5, c5, hn1.out, by rw [← hNn.out]; try go_num, by first | rfl | rw [List.length_append], hO2, hK2⟩
            case measure => exact hNm.out
          · exact absurd hq7.1 k4
        have q4 : (x.way == 2) = false := by rw [beq_eq_false_iff_ne]; exact k5
        have hk : Hid (keepW x.way true (rawS p q n).ranks = true) := by
          show keepW x.way true (rawS p q n).ranks = true
          rw [hke.out, decide_eq_false (fun h => k3 h.1), decide_eq_false (fun h => k5 h.1)]; rfl
        clear k3 k5
        have hL := Lib.hid (hs.out ▸ hyes.out hk.out)
        have hsl : (E0 ++ rowS x.way true p q n).length + 1 = (E0 ++ rowS x.way true p q (n + 1)).length := len_app1 hL.out
        clear hk hno hyes hke
        generalize hel2 : E0 ++ rowS x.way true p q n = E at *
        go_wp2_with (at_builtin; refine wpList_append_recs stepRow sEnc_len sEnc_one rfl _ _ rfl u.heap.size A5 c5 E rfl (hO2.out.alloc _).own _ 1 [(⟨p', q'⟩ : St)] rfl (recs_st _ ⟨p', q'⟩ _) (by simp; omega) (hO2.out.alloc _).size ?_; intro A' c' w' hown hg h3; rw [hL.out] at hown ⊢; have hO' := Lib.hid ((hO2.out.alloc _).app hown hg); have hK' := Lib.hid ((hK2.out.next ((Below.refl _ _).alloc (Nat.le_refl _) _)).app hg h3); clear hown hg h3)
        go_roundw
        case rel => exact ⟨n + 1, A', c', hn1.out, by rw [← hNn.out]; try go_num, by first | rfl | rw [List.length_append], hO', hK'⟩
        case measure => exact hNm.out
set_option maxRecDepth 100000 in
set_option maxHeartbeats 1000000 in
theorem psteps_no (x : At) (w : World) (hx : okA x) : Calls Tryd.prog 26 #[aV x, .bool false] w fun e w' => StR (stepsL x false) e w w' := by
  have hX := Lib.hid (KA.new w x)
  have hb1 : Hid (Below w.heap.size w (w.alloc (.cells #[.int .i64 x.kind, .int .i64 x.short, .int .i64 x.long, .int .i64 x.most, .int .i64 x.mode, .int .i64 x.way] 40))) := (Below.refl _ _).alloc (Nat.le_refl _) _
  have htab := Lib.hid (table hx false)
  obtain ⟨_, _, hy, hsh, hlo, _⟩ := hx
  have hs7 : 0 ≤ x.short ∧ x.short ≤ 7 := by omega
  have hl7 : 0 ≤ x.long ∧ x.long ≤ 7 := by omega
  clear hsh hlo hy
  go_enter Tryd.func26, Tryd.ntmps26
  go_upto_region 1 with fail
  generalize w.heap.size = B0 at hX ⊢
  generalize w.alloc (.cells #[.int .i64 x.kind, .int .i64 x.short, .int .i64 x.long, .int .i64 x.most, .int .i64 x.mode, .int .i64 x.way] 40) = u at *
  obtain ⟨x0, x1, x2, x3, x4, x5, _⟩ := hX.out
  have hO0 : Hid (O1 sEnc 2 u.heap.size 43 u u none 0 (outK x.way false x.short x.long 0)) := O1.nil (Below.refl _ _) (Nat.le_refl _)
  have hn0 : (outK x.way false x.short x.long 0).length = 0 := rfl
  go_wp2_with fail
  clear x0 x1 x2 x3 x4 x5
  go_loopw [5, 22] (fun s i wr => ∃ (k : Nat) (A5 : Option Addr) (c5 : Nat), k ≤ 2 ∧ i = .int .i64 (k : Int) ∧ s = .slice A5 (outK x.way false x.short x.long k).length c5 ∧ Hid (O1 sEnc 2 u.heap.size 43 u wr A5 c5 (outK x.way false x.short x.long k))) (fun _ i _ => (3 - intOf i).toNat)
  case atStart => exact ⟨0, none, 0, by omega, rfl, rfl, hO0⟩
  case round =>
    clear hO0 hn0
    obtain ⟨k, A5, c5, hk, rfl, rfl, hO⟩ := hrel
    by_cases hk2 : k = 2
    · subst hk2
      obtain ⟨Z, hZ⟩ : ∃ Z, rawL x.way false x.short x.long = Z := ⟨_, rfl⟩
      have hZ8 : Z.length ≤ 8 := by
        rw [← hZ]
        unfold rawL
        rw [List.length_append]
        have h1 := rowS_le x.way false x.short x.long 4
        have h2 := rowS_le x.way false x.long x.short 4
        omega
      rw [hZ] at htab
      have hZ1 : 0 < Z.length := htab.out.2
      have hoz : outK x.way false x.short x.long 2 = Z := hZ
      rw [hoz] at hO ⊢
      clear hoz hZ hk
      have hso := Lib.hid (psort hO.out hZ1 (by omega))
      go_wp2_with (go_at_call 44; refine hso.out.mono ?_; rintro e w2 ⟨rfl, hO2⟩; replace hO2 := Lib.hid hO2)
      have hco := Lib.hid (pcompact hO2.out (by rw [sortS_len]; exact hZ1) (by rw [sortS_len]; omega))
      rw [sortS_len] at hco
      rw [htab.out.1] at hco
      clear hso hO
      go_at_call 46
      refine hco.out.mono ?_
      rintro e w3 ⟨rfl, hO3⟩
      have hfin : Hid (StR (stepsL x false) (.returned (.slice A5 (stepsL x false).length c5)) w w3) := ⟨⟨A5, c5, rfl, hO3.recs sEnc_len⟩, hb1.out.trans (hO3.below.mono hb1.out.size)⟩
      clear hO3
      go_wp2_with fail
      go_ret
      exact hfin.out
    obtain ⟨p, q, hpq, hp7, hq7, hnx, hl0⟩ : ∃ p q : Int, (k = 0 ∧ p = x.short ∧ q = x.long ∨ k = 1 ∧ p = x.long ∧ q = x.short) ∧ (0 ≤ p ∧ p ≤ 7) ∧ (0 ≤ q ∧ q ≤ 7) ∧ Hid (outK x.way false x.short x.long k ++ rowS x.way false p q 4 = outK x.way false x.short x.long (k + 1)) ∧ (outK x.way false x.short x.long k).length ≤ 4 := by
      by_cases hk0 : k = 0
      · subst hk0
        exact ⟨x.short, x.long, .inl ⟨rfl, rfl, rfl⟩, hs7, hl7, rfl, by show ([] : List St).length ≤ 4; simp⟩
      · obtain rfl : k = 1 := by omega
        exact ⟨x.long, x.short, .inr ⟨rfl, rfl, rfl⟩, hl7, hs7, rfl, rowS_le _ _ _ _ _⟩
    have hOa : ∀ (n c : Nat) (B : Nat), (Value.slice A5 n c).ownBlock = some B → B < wr.heap.size := fun n c B e => (World.ownsRow.lt hO.out.own B (by rw [own_any A5 _ _ n c]; exact e)).2
    have hKX := Lib.hid (KX.made wr p q 84 A5 hOa)
    have hO1 := Lib.hid (hO.out.alloc (.cells #[.int .i64 p, .int .i64 q] 84))
    clear hOa hO
    obtain ⟨E0, hE0⟩ : ∃ E0, outK x.way false x.short x.long k = E0 := ⟨_, rfl⟩
    rw [hE0] at hnx hl0 hO1 ⊢
    clear hE0
    obtain ⟨k1, hk1⟩ : ∃ k1 : Int, (k : Int) = k1 := ⟨_, rfl⟩
    have hkn : Hid (k1 + 1 = ((k + 1 : Nat) : Int)) := by show _ = _; omega
    rw [hk1]
    have hidx : ∀ W : World, (Instr.index 85 (.agg #[.int .i64 x.short, .int .i64 x.long, .int .i64 x.long, .int .i64 x.short]) (.int .i64 k1)).run Tryd.prog W = .ok (.agg #[.int .i64 p, .int .i64 q]) W := fun W => by
      rcases hpq with ⟨h1, rfl, rfl⟩ | ⟨h1, rfl, rfl⟩
      · obtain rfl : k1 = 0 := by omega
        exact run_pair0 _ _ _
      · obtain rfl : k1 = 1 := by omega
        exact run_pair1 _ _ _
    have hk12 : (k1 < 2) = True := eq_true (by omega)
    have hk1b : 0 ≤ k1 ∧ k1 ≤ 1 := by omega
    have hkm : Hid ((3 - (k1 + 1)).toNat < (3 - k1).toNat) := by show _ < _; omega
    have hkle : Hid (k + 1 ≤ 2) := by show _ ≤ _; omega
    clear hpq hk1 hk2 hk hs7 hl7
    go_upto_region 6 with fail
    generalize wr.heap.size = BX at hKX ⊢
    generalize wr.alloc (.cells #[.int .i64 p, .int .i64 q] 84) = v at *
    have hO2 : Hid (O1 sEnc 2 u.heap.size 43 u v A5 c5 (E0 ++ rowS x.way false p q 0)) := by
      show O1 _ _ _ _ _ _ _ _ (E0 ++ [])
      rw [List.append_nil]; exact hO1.out
    have hln : E0.length = (E0 ++ rowS x.way false p q 0).length := by
      show _ = (E0 ++ []).length
      rw [List.append_nil]
    rw [hln]
    clear hO1 hln hidx hk12
    obtain ⟨p', hp'⟩ : ∃ p' : Int, -p = p' := ⟨_, rfl⟩
    obtain ⟨q', hq'⟩ : ∃ q' : Int, -q = q' := ⟨_, rfl⟩
    have gp : IntKind.i64.wrap (-p) = p' := hp' ▸ IntWalk.i64_in _ (by omega)
    have gq : IntKind.i64.wrap (-q) = q' := hq' ▸ IntWalk.i64_in _ (by omega)
    have gq' : IntKind.i64.wrap (-q') = q := by rw [IntWalk.i64_in _ (by omega)]; omega
    have hp'H := Lib.hid hp'
    have hq'H := Lib.hid hq'
    clear hp' hq'
    go_loopw [5, 25] (fun s i wr => ∃ (n : Nat) (A5 : Option Addr) (c5 : Nat), n ≤ 4 ∧ i = .int .i64 (n : Int) ∧ s = .slice A5 (E0 ++ rowS x.way false p q n).length c5 ∧ Hid (O1 sEnc 2 u.heap.size 43 u wr A5 c5 (E0 ++ rowS x.way false p q n)) ∧ Hid (KX wr BX p q A5)) (fun _ i _ => (5 - intOf i).toNat)
    case atStart => exact ⟨0, A5, c5, by omega, rfl, rfl, hO2, hKX⟩
    case round =>
      clear hO2 hKX
      obtain ⟨n, A5, c5, hn, rfl, rfl, hO, hKX⟩ := hrel
      have hrl := rowS_le x.way false p q n
      by_cases hn4 : n = 4
      · subst hn4
        rw [hnx.out] at hO ⊢
        clear gp gq gq'
        go_wp2_with fail
        go_roundw
        case rel => exact ⟨k + 1, A5, c5, hkle.out, by rw [← hkn.out]; try go_num, rfl, hO⟩
        case measure => exact hkm.out
      obtain ⟨y0, y1, _, _⟩ := hKX.out
      have hel : (E0 ++ rowS x.way false p q n).length ≤ 8 := by rw [List.length_append]; omega
      obtain ⟨N, hN⟩ : ∃ N : Int, (n : Int) = N := ⟨_, rfl⟩
      have hNn : Hid (N + 1 = ((n + 1 : Nat) : Int)) := by show _ = _; omega
      have hn1 : Hid (n + 1 ≤ 4) := by show _ ≤ _; omega
      have hNm : Hid ((5 - (N + 1)).toNat < (5 - N).toNat) := by show _ < _; omega
      have hN4 : (N < 4) = True := eq_true (by omega)
      have hno : Hid (keepW x.way false (rawS p q n).ranks = false → E0 ++ rowS x.way false p q n = E0 ++ rowS x.way false p q (n + 1)) := fun h => by
        show _ = E0 ++ (if keepW x.way false (rawS p q n).ranks = true then _ else _)
        rw [h]; rfl
      have hyes : Hid (keepW x.way false (rawS p q n).ranks = true → (E0 ++ rowS x.way false p q n) ++ [rawS p q n] = E0 ++ rowS x.way false p q (n + 1)) := fun h => by
        show _ = E0 ++ (if keepW x.way false (rawS p q n).ranks = true then _ else _)
        rw [h, List.append_assoc]; rfl
      have hN3 : 0 ≤ N ∧ N ≤ 3 := by omega
      rw [hN]
      have hc4 : n = 0 ∨ n = 1 ∨ n = 2 ∨ n = 3 := by omega
      clear hrl hn hn4
      rcases hc4 with hc | hc | hc | hc
      · have hA1 : bits BinOp.and IntKind.i64 N 1 = 0 := by rw [← hN, hc]; rfl
        have hA2 : bits BinOp.and IntKind.i64 N 2 = 0 := by rw [← hN, hc]; rfl
        have hs : Hid (rawS p q n = ⟨p, q⟩) := by
          show rawS p q n = _
          rw [hc]; rfl
        have hke : Hid (keepW x.way false (rawS p q n).ranks = !(decide (x.way = 1 ∧ q ≤ 0) || decide (x.way = 2 ∧ 0 ≤ q))) := by
          show keepW x.way false (rawS p q n).ranks = _
          rw [hs.out]
          have hu : upS false q = q := by
            rfl
          unfold keepW
          rw [hu]
        clear hN hc
        go_upto_region 13 with fail
        have hKs := Lib.hid (KS.new wr p q)
        have hO2 := Lib.hid (hO.out.alloc (.cells #[.int .i64 p, .int .i64 q] 43))
        have hK2 : Hid (KX (wr.alloc (.cells #[.int .i64 p, .int .i64 q] 43)) BX p q A5) := hKX.out.next ((Below.refl _ _).alloc (Nat.le_refl _) _)
        clear hO hKX y0 y1 hA1 hA2
        generalize wr.heap.size = BS at hKs ⊢
        generalize wr.alloc (.cells #[.int .i64 p, .int .i64 q] 43) = v2 at *
        obtain ⟨s0, s1, _⟩ := hKs.out
        obtain ⟨_, _, _, _, _, x5, _⟩ := hX.out.next hO2.out.below
        by_cases k3 : x.way = 1
        · have q3 : (x.way == 1) = true := by rw [beq_iff_eq]; exact k3
          have q4 : (x.way == 2) = false := by rw [beq_eq_false_iff_ne]; omega
          by_cases k4 : q ≤ 0
          · have q5 : (q ≤ 0) = True := eq_true k4
            have hk : Hid (keepW x.way false (rawS p q n).ranks = false) := by
              show keepW x.way false (rawS p q n).ranks = false
              rw [hke.out, decide_eq_true ⟨k3, k4⟩]; rfl
            clear k3 k4
            have hL := hno.out hk.out
            rw [hL] at hO2 ⊢
            clear hk hno hyes hke hL
            go_wp2_with fail
            go_roundw
            case rel => exact ⟨n + 1, A5, c5, hn1.out, by rw [← hNn.out]; try go_num, by first | rfl | rw [List.length_append], hO2, hK2⟩
            case measure => exact hNm.out
          · have q5 : (q ≤ 0) = False := eq_false k4
            have hk : Hid (keepW x.way false (rawS p q n).ranks = true) := by
              show keepW x.way false (rawS p q n).ranks = true
              rw [hke.out, decide_eq_false (fun h => k4 h.2), decide_eq_false (fun h => by omega)]; rfl
            clear k3 k4
            have hL := Lib.hid (hs.out ▸ hyes.out hk.out)
            have hsl : (E0 ++ rowS x.way false p q n).length + 1 = (E0 ++ rowS x.way false p q (n + 1)).length := len_app1 hL.out
            clear hk hno hyes hke
            generalize hel2 : E0 ++ rowS x.way false p q n = E at *
            go_wp2_with (at_builtin; refine wpList_append_recs stepRow sEnc_len sEnc_one rfl _ _ rfl u.heap.size A5 c5 E rfl (hO2.out.alloc _).own _ 1 [(⟨p, q⟩ : St)] rfl (recs_st _ ⟨p, q⟩ _) (by simp; omega) (hO2.out.alloc _).size ?_; intro A' c' w' hown hg h3; rw [hL.out] at hown ⊢; have hO' := Lib.hid ((hO2.out.alloc _).app hown hg); have hK' := Lib.hid ((hK2.out.next ((Below.refl _ _).alloc (Nat.le_refl _) _)).app hg h3); clear hown hg h3)
            go_roundw
            case rel => exact ⟨n + 1, A', c', hn1.out, by rw [← hNn.out]; try go_num, by first | rfl | rw [List.length_append], hO', hK'⟩
            case measure => exact hNm.out
        have q3 : (x.way == 1) = false := by rw [beq_eq_false_iff_ne]; exact k3
        by_cases k5 : x.way = 2
        · have q4 : (x.way == 2) = true := by rw [beq_iff_eq]; exact k5
          by_cases k4 : 0 ≤ q
          · have q5 : (0 ≤ q) = True := eq_true k4
            have hk : Hid (keepW x.way false (rawS p q n).ranks = false) := by
              show keepW x.way false (rawS p q n).ranks = false
              rw [hke.out, decide_eq_false (fun h => k3 h.1), decide_eq_true ⟨k5, k4⟩]; rfl
            clear k3 k4 k5
            have hL := hno.out hk.out
            rw [hL] at hO2 ⊢
            clear hk hno hyes hke hL
            go_wp2_with fail
            go_roundw
            case rel => exact ⟨n + 1, A5, c5, hn1.out, by rw [← hNn.out]; try go_num, by first | rfl | rw [List.length_append], hO2, hK2⟩
            case measure => exact hNm.out
          · exact absurd hq7.1 k4
        have q4 : (x.way == 2) = false := by rw [beq_eq_false_iff_ne]; exact k5
        have hk : Hid (keepW x.way false (rawS p q n).ranks = true) := by
          show keepW x.way false (rawS p q n).ranks = true
          rw [hke.out, decide_eq_false (fun h => k3 h.1), decide_eq_false (fun h => k5 h.1)]; rfl
        clear k3 k5
        have hL := Lib.hid (hs.out ▸ hyes.out hk.out)
        have hsl : (E0 ++ rowS x.way false p q n).length + 1 = (E0 ++ rowS x.way false p q (n + 1)).length := len_app1 hL.out
        clear hk hno hyes hke
        generalize hel2 : E0 ++ rowS x.way false p q n = E at *
        go_wp2_with (at_builtin; refine wpList_append_recs stepRow sEnc_len sEnc_one rfl _ _ rfl u.heap.size A5 c5 E rfl (hO2.out.alloc _).own _ 1 [(⟨p, q⟩ : St)] rfl (recs_st _ ⟨p, q⟩ _) (by simp; omega) (hO2.out.alloc _).size ?_; intro A' c' w' hown hg h3; rw [hL.out] at hown ⊢; have hO' := Lib.hid ((hO2.out.alloc _).app hown hg); have hK' := Lib.hid ((hK2.out.next ((Below.refl _ _).alloc (Nat.le_refl _) _)).app hg h3); clear hown hg h3)
        go_roundw
        case rel => exact ⟨n + 1, A', c', hn1.out, by rw [← hNn.out]; try go_num, by first | rfl | rw [List.length_append], hO', hK'⟩
        case measure => exact hNm.out
      · have hA1 : bits BinOp.and IntKind.i64 N 1 = 1 := by rw [← hN, hc]; rfl
        have hA2 : bits BinOp.and IntKind.i64 N 2 = 0 := by rw [← hN, hc]; rfl
        have hs : Hid (rawS p q n = ⟨p', q⟩) := by
          show rawS p q n = _
          rw [hc]; rw [← hp'H.out]; rfl
        have hke : Hid (keepW x.way false (rawS p q n).ranks = !(decide (x.way = 1 ∧ q ≤ 0) || decide (x.way = 2 ∧ 0 ≤ q))) := by
          show keepW x.way false (rawS p q n).ranks = _
          rw [hs.out]
          have hu : upS false q = q := by
            rfl
          unfold keepW
          rw [hu]
        clear hN hc
        go_upto_region 13 with fail
        have hKs := Lib.hid (KS.new wr p' q)
        have hO2 := Lib.hid (hO.out.alloc (.cells #[.int .i64 p', .int .i64 q] 43))
        have hK2 : Hid (KX (wr.alloc (.cells #[.int .i64 p', .int .i64 q] 43)) BX p q A5) := hKX.out.next ((Below.refl _ _).alloc (Nat.le_refl _) _)
        clear hO hKX y0 y1 hA1 hA2
        generalize wr.heap.size = BS at hKs ⊢
        generalize wr.alloc (.cells #[.int .i64 p', .int .i64 q] 43) = v2 at *
        obtain ⟨s0, s1, _⟩ := hKs.out
        obtain ⟨_, _, _, _, _, x5, _⟩ := hX.out.next hO2.out.below
        by_cases k3 : x.way = 1
        · have q3 : (x.way == 1) = true := by rw [beq_iff_eq]; exact k3
          have q4 : (x.way == 2) = false := by rw [beq_eq_false_iff_ne]; omega
          by_cases k4 : q ≤ 0
          · have q5 : (q ≤ 0) = True := eq_true k4
            have hk : Hid (keepW x.way false (rawS p q n).ranks = false) := by
              show keepW x.way false (rawS p q n).ranks = false
              rw [hke.out, decide_eq_true ⟨k3, k4⟩]; rfl
            clear k3 k4
            have hL := hno.out hk.out
            rw [hL] at hO2 ⊢
            clear hk hno hyes hke hL
            go_wp2_with fail
            go_roundw
            case rel => exact ⟨n + 1, A5, c5, hn1.out, by rw [← hNn.out]; try go_num, by first | rfl | rw [List.length_append], hO2, hK2⟩
            case measure => exact hNm.out
          · have q5 : (q ≤ 0) = False := eq_false k4
            have hk : Hid (keepW x.way false (rawS p q n).ranks = true) := by
              show keepW x.way false (rawS p q n).ranks = true
              rw [hke.out, decide_eq_false (fun h => k4 h.2), decide_eq_false (fun h => by omega)]; rfl
            clear k3 k4
            have hL := Lib.hid (hs.out ▸ hyes.out hk.out)
            have hsl : (E0 ++ rowS x.way false p q n).length + 1 = (E0 ++ rowS x.way false p q (n + 1)).length := len_app1 hL.out
            clear hk hno hyes hke
            generalize hel2 : E0 ++ rowS x.way false p q n = E at *
            go_wp2_with (at_builtin; refine wpList_append_recs stepRow sEnc_len sEnc_one rfl _ _ rfl u.heap.size A5 c5 E rfl (hO2.out.alloc _).own _ 1 [(⟨p', q⟩ : St)] rfl (recs_st _ ⟨p', q⟩ _) (by simp; omega) (hO2.out.alloc _).size ?_; intro A' c' w' hown hg h3; rw [hL.out] at hown ⊢; have hO' := Lib.hid ((hO2.out.alloc _).app hown hg); have hK' := Lib.hid ((hK2.out.next ((Below.refl _ _).alloc (Nat.le_refl _) _)).app hg h3); clear hown hg h3)
            go_roundw
            case rel => exact ⟨n + 1, A', c', hn1.out, by rw [← hNn.out]; try go_num, by first | rfl | rw [List.length_append], hO', hK'⟩
            case measure => exact hNm.out
        have q3 : (x.way == 1) = false := by rw [beq_eq_false_iff_ne]; exact k3
        by_cases k5 : x.way = 2
        · have q4 : (x.way == 2) = true := by rw [beq_iff_eq]; exact k5
          by_cases k4 : 0 ≤ q
          · have q5 : (0 ≤ q) = True := eq_true k4
            have hk : Hid (keepW x.way false (rawS p q n).ranks = false) := by
              show keepW x.way false (rawS p q n).ranks = false
              rw [hke.out, decide_eq_false (fun h => k3 h.1), decide_eq_true ⟨k5, k4⟩]; rfl
            clear k3 k4 k5
            have hL := hno.out hk.out
            rw [hL] at hO2 ⊢
            clear hk hno hyes hke hL
            go_wp2_with fail
            go_roundw
            case rel => exact ⟨n + 1, A5, c5, hn1.out, by rw [← hNn.out]; try go_num, by first | rfl | rw [List.length_append], hO2, hK2⟩
            case measure => exact hNm.out
          · exact absurd hq7.1 k4
        have q4 : (x.way == 2) = false := by rw [beq_eq_false_iff_ne]; exact k5
        have hk : Hid (keepW x.way false (rawS p q n).ranks = true) := by
          show keepW x.way false (rawS p q n).ranks = true
          rw [hke.out, decide_eq_false (fun h => k3 h.1), decide_eq_false (fun h => k5 h.1)]; rfl
        clear k3 k5
        have hL := Lib.hid (hs.out ▸ hyes.out hk.out)
        have hsl : (E0 ++ rowS x.way false p q n).length + 1 = (E0 ++ rowS x.way false p q (n + 1)).length := len_app1 hL.out
        clear hk hno hyes hke
        generalize hel2 : E0 ++ rowS x.way false p q n = E at *
        go_wp2_with (at_builtin; refine wpList_append_recs stepRow sEnc_len sEnc_one rfl _ _ rfl u.heap.size A5 c5 E rfl (hO2.out.alloc _).own _ 1 [(⟨p', q⟩ : St)] rfl (recs_st _ ⟨p', q⟩ _) (by simp; omega) (hO2.out.alloc _).size ?_; intro A' c' w' hown hg h3; rw [hL.out] at hown ⊢; have hO' := Lib.hid ((hO2.out.alloc _).app hown hg); have hK' := Lib.hid ((hK2.out.next ((Below.refl _ _).alloc (Nat.le_refl _) _)).app hg h3); clear hown hg h3)
        go_roundw
        case rel => exact ⟨n + 1, A', c', hn1.out, by rw [← hNn.out]; try go_num, by first | rfl | rw [List.length_append], hO', hK'⟩
        case measure => exact hNm.out
      · have hA1 : bits BinOp.and IntKind.i64 N 1 = 0 := by rw [← hN, hc]; rfl
        have hA2 : bits BinOp.and IntKind.i64 N 2 = 2 := by rw [← hN, hc]; rfl
        have hs : Hid (rawS p q n = ⟨p, q'⟩) := by
          show rawS p q n = _
          rw [hc]; rw [← hq'H.out]; rfl
        have hke : Hid (keepW x.way false (rawS p q n).ranks = !(decide (x.way = 1 ∧ q' ≤ 0) || decide (x.way = 2 ∧ 0 ≤ q'))) := by
          show keepW x.way false (rawS p q n).ranks = _
          rw [hs.out]
          have hu : upS false q' = q' := by
            rfl
          unfold keepW
          rw [hu]
        clear hN hc
        go_upto_region 13 with fail
        have hKs := Lib.hid (KS.new wr p q')
        have hO2 := Lib.hid (hO.out.alloc (.cells #[.int .i64 p, .int .i64 q'] 43))
        have hK2 : Hid (KX (wr.alloc (.cells #[.int .i64 p, .int .i64 q'] 43)) BX p q A5) := hKX.out.next ((Below.refl _ _).alloc (Nat.le_refl _) _)
        clear hO hKX y0 y1 hA1 hA2
        generalize wr.heap.size = BS at hKs ⊢
        generalize wr.alloc (.cells #[.int .i64 p, .int .i64 q'] 43) = v2 at *
        obtain ⟨s0, s1, _⟩ := hKs.out
        obtain ⟨_, _, _, _, _, x5, _⟩ := hX.out.next hO2.out.below
        by_cases k3 : x.way = 1
        · have q3 : (x.way == 1) = true := by rw [beq_iff_eq]; exact k3
          have q4 : (x.way == 2) = false := by rw [beq_eq_false_iff_ne]; omega
          by_cases k4 : q' ≤ 0
          · have q5 : (q' ≤ 0) = True := eq_true k4
            have hk : Hid (keepW x.way false (rawS p q n).ranks = false) := by
              show keepW x.way false (rawS p q n).ranks = false
              rw [hke.out, decide_eq_true ⟨k3, k4⟩]; rfl
            clear k3 k4
            have hL := hno.out hk.out
            rw [hL] at hO2 ⊢
            clear hk hno hyes hke hL
            go_wp2_with fail
            go_roundw
            case rel => exact ⟨n + 1, A5, c5, hn1.out, by rw [← hNn.out]; try go_num, by first | rfl | rw [List.length_append], hO2, hK2⟩
            case measure => exact hNm.out
          · have q5 : (q' ≤ 0) = False := eq_false k4
            have hk : Hid (keepW x.way false (rawS p q n).ranks = true) := by
              show keepW x.way false (rawS p q n).ranks = true
              rw [hke.out, decide_eq_false (fun h => k4 h.2), decide_eq_false (fun h => by omega)]; rfl
            clear k3 k4
            have hL := Lib.hid (hs.out ▸ hyes.out hk.out)
            have hsl : (E0 ++ rowS x.way false p q n).length + 1 = (E0 ++ rowS x.way false p q (n + 1)).length := len_app1 hL.out
            clear hk hno hyes hke
            generalize hel2 : E0 ++ rowS x.way false p q n = E at *
            go_wp2_with (at_builtin; refine wpList_append_recs stepRow sEnc_len sEnc_one rfl _ _ rfl u.heap.size A5 c5 E rfl (hO2.out.alloc _).own _ 1 [(⟨p, q'⟩ : St)] rfl (recs_st _ ⟨p, q'⟩ _) (by simp; omega) (hO2.out.alloc _).size ?_; intro A' c' w' hown hg h3; rw [hL.out] at hown ⊢; have hO' := Lib.hid ((hO2.out.alloc _).app hown hg); have hK' := Lib.hid ((hK2.out.next ((Below.refl _ _).alloc (Nat.le_refl _) _)).app hg h3); clear hown hg h3)
            go_roundw
            case rel => exact ⟨n + 1, A', c', hn1.out, by rw [← hNn.out]; try go_num, by first | rfl | rw [List.length_append], hO', hK'⟩
            case measure => exact hNm.out
        have q3 : (x.way == 1) = false := by rw [beq_eq_false_iff_ne]; exact k3
        by_cases k5 : x.way = 2
        · have q4 : (x.way == 2) = true := by rw [beq_iff_eq]; exact k5
          by_cases k4 : 0 ≤ q'
          · have q5 : (0 ≤ q') = True := eq_true k4
            have hk : Hid (keepW x.way false (rawS p q n).ranks = false) := by
              show keepW x.way false (rawS p q n).ranks = false
              rw [hke.out, decide_eq_false (fun h => k3 h.1), decide_eq_true ⟨k5, k4⟩]; rfl
            clear k3 k4 k5
            have hL := hno.out hk.out
            rw [hL] at hO2 ⊢
            clear hk hno hyes hke hL
            go_wp2_with fail
            go_roundw
            case rel => exact ⟨n + 1, A5, c5, hn1.out, by rw [← hNn.out]; try go_num, by first | rfl | rw [List.length_append], hO2, hK2⟩
            case measure => exact hNm.out
          · have q5 : (0 ≤ q') = False := eq_false k4
            have hk : Hid (keepW x.way false (rawS p q n).ranks = true) := by
              show keepW x.way false (rawS p q n).ranks = true
              rw [hke.out, decide_eq_false (fun h => k3 h.1), decide_eq_false (fun h => k4 h.2)]; rfl
            clear k3 k4 k5
            have hL := Lib.hid (hs.out ▸ hyes.out hk.out)
            have hsl : (E0 ++ rowS x.way false p q n).length + 1 = (E0 ++ rowS x.way false p q (n + 1)).length := len_app1 hL.out
            clear hk hno hyes hke
            generalize hel2 : E0 ++ rowS x.way false p q n = E at *
            go_wp2_with (at_builtin; refine wpList_append_recs stepRow sEnc_len sEnc_one rfl _ _ rfl u.heap.size A5 c5 E rfl (hO2.out.alloc _).own _ 1 [(⟨p, q'⟩ : St)] rfl (recs_st _ ⟨p, q'⟩ _) (by simp; omega) (hO2.out.alloc _).size ?_; intro A' c' w' hown hg h3; rw [hL.out] at hown ⊢; have hO' := Lib.hid ((hO2.out.alloc _).app hown hg); have hK' := Lib.hid ((hK2.out.next ((Below.refl _ _).alloc (Nat.le_refl _) _)).app hg h3); clear hown hg h3)
            go_roundw
            case rel => exact ⟨n + 1, A', c', hn1.out, by rw [← hNn.out]; try go_num, by first | rfl | rw [List.length_append], hO', hK'⟩
            case measure => exact hNm.out
        have q4 : (x.way == 2) = false := by rw [beq_eq_false_iff_ne]; exact k5
        have hk : Hid (keepW x.way false (rawS p q n).ranks = true) := by
          show keepW x.way false (rawS p q n).ranks = true
          rw [hke.out, decide_eq_false (fun h => k3 h.1), decide_eq_false (fun h => k5 h.1)]; rfl
        clear k3 k5
        have hL := Lib.hid (hs.out ▸ hyes.out hk.out)
        have hsl : (E0 ++ rowS x.way false p q n).length + 1 = (E0 ++ rowS x.way false p q (n + 1)).length := len_app1 hL.out
        clear hk hno hyes hke
        generalize hel2 : E0 ++ rowS x.way false p q n = E at *
        go_wp2_with (at_builtin; refine wpList_append_recs stepRow sEnc_len sEnc_one rfl _ _ rfl u.heap.size A5 c5 E rfl (hO2.out.alloc _).own _ 1 [(⟨p, q'⟩ : St)] rfl (recs_st _ ⟨p, q'⟩ _) (by simp; omega) (hO2.out.alloc _).size ?_; intro A' c' w' hown hg h3; rw [hL.out] at hown ⊢; have hO' := Lib.hid ((hO2.out.alloc _).app hown hg); have hK' := Lib.hid ((hK2.out.next ((Below.refl _ _).alloc (Nat.le_refl _) _)).app hg h3); clear hown hg h3)
        go_roundw
        case rel => exact ⟨n + 1, A', c', hn1.out, by rw [← hNn.out]; try go_num, by first | rfl | rw [List.length_append], hO', hK'⟩
        case measure => exact hNm.out
      · have hA1 : bits BinOp.and IntKind.i64 N 1 = 1 := by rw [← hN, hc]; rfl
        have hA2 : bits BinOp.and IntKind.i64 N 2 = 2 := by rw [← hN, hc]; rfl
        have hs : Hid (rawS p q n = ⟨p', q'⟩) := by
          show rawS p q n = _
          rw [hc]; rw [← hp'H.out]; rw [← hq'H.out]; rfl
        have hke : Hid (keepW x.way false (rawS p q n).ranks = !(decide (x.way = 1 ∧ q' ≤ 0) || decide (x.way = 2 ∧ 0 ≤ q'))) := by
          show keepW x.way false (rawS p q n).ranks = _
          rw [hs.out]
          have hu : upS false q' = q' := by
            rfl
          unfold keepW
          rw [hu]
        clear hN hc
        go_upto_region 13 with fail
        have hKs := Lib.hid (KS.new wr p' q')
        have hO2 := Lib.hid (hO.out.alloc (.cells #[.int .i64 p', .int .i64 q'] 43))
        have hK2 : Hid (KX (wr.alloc (.cells #[.int .i64 p', .int .i64 q'] 43)) BX p q A5) := hKX.out.next ((Below.refl _ _).alloc (Nat.le_refl _) _)
        clear hO hKX y0 y1 hA1 hA2
        generalize wr.heap.size = BS at hKs ⊢
        generalize wr.alloc (.cells #[.int .i64 p', .int .i64 q'] 43) = v2 at *
        obtain ⟨s0, s1, _⟩ := hKs.out
        obtain ⟨_, _, _, _, _, x5, _⟩ := hX.out.next hO2.out.below
        by_cases k3 : x.way = 1
        · have q3 : (x.way == 1) = true := by rw [beq_iff_eq]; exact k3
          have q4 : (x.way == 2) = false := by rw [beq_eq_false_iff_ne]; omega
          by_cases k4 : q' ≤ 0
          · have q5 : (q' ≤ 0) = True := eq_true k4
            have hk : Hid (keepW x.way false (rawS p q n).ranks = false) := by
              show keepW x.way false (rawS p q n).ranks = false
              rw [hke.out, decide_eq_true ⟨k3, k4⟩]; rfl
            clear k3 k4
            have hL := hno.out hk.out
            rw [hL] at hO2 ⊢
            clear hk hno hyes hke hL
            go_wp2_with fail
            go_roundw
            case rel => exact ⟨n + 1, A5, c5, hn1.out, by rw [← hNn.out]; try go_num, by first | rfl | rw [List.length_append], hO2, hK2⟩
            case measure => exact hNm.out
          · have q5 : (q' ≤ 0) = False := eq_false k4
            have hk : Hid (keepW x.way false (rawS p q n).ranks = true) := by
              show keepW x.way false (rawS p q n).ranks = true
              rw [hke.out, decide_eq_false (fun h => k4 h.2), decide_eq_false (fun h => by omega)]; rfl
            clear k3 k4
            have hL := Lib.hid (hs.out ▸ hyes.out hk.out)
            have hsl : (E0 ++ rowS x.way false p q n).length + 1 = (E0 ++ rowS x.way false p q (n + 1)).length := len_app1 hL.out
            clear hk hno hyes hke
            generalize hel2 : E0 ++ rowS x.way false p q n = E at *
            go_wp2_with (at_builtin; refine wpList_append_recs stepRow sEnc_len sEnc_one rfl _ _ rfl u.heap.size A5 c5 E rfl (hO2.out.alloc _).own _ 1 [(⟨p', q'⟩ : St)] rfl (recs_st _ ⟨p', q'⟩ _) (by simp; omega) (hO2.out.alloc _).size ?_; intro A' c' w' hown hg h3; rw [hL.out] at hown ⊢; have hO' := Lib.hid ((hO2.out.alloc _).app hown hg); have hK' := Lib.hid ((hK2.out.next ((Below.refl _ _).alloc (Nat.le_refl _) _)).app hg h3); clear hown hg h3)
            go_roundw
            case rel => exact ⟨n + 1, A', c', hn1.out, by rw [← hNn.out]; try go_num, by first | rfl | rw [List.length_append], hO', hK'⟩
            case measure => exact hNm.out
        have q3 : (x.way == 1) = false := by rw [beq_eq_false_iff_ne]; exact k3
        by_cases k5 : x.way = 2
        · have q4 : (x.way == 2) = true := by rw [beq_iff_eq]; exact k5
          by_cases k4 : 0 ≤ q'
          · have q5 : (0 ≤ q') = True := eq_true k4
            have hk : Hid (keepW x.way false (rawS p q n).ranks = false) := by
              show keepW x.way false (rawS p q n).ranks = false
              rw [hke.out, decide_eq_false (fun h => k3 h.1), decide_eq_true ⟨k5, k4⟩]; rfl
            clear k3 k4 k5
            have hL := hno.out hk.out
            rw [hL] at hO2 ⊢
            clear hk hno hyes hke hL
            go_wp2_with fail
            go_roundw
            case rel => exact ⟨n + 1, A5, c5, hn1.out, by rw [← hNn.out]; try go_num, by first | rfl | rw [List.length_append], hO2, hK2⟩
            case measure => exact hNm.out
          · have q5 : (0 ≤ q') = False := eq_false k4
            have hk : Hid (keepW x.way false (rawS p q n).ranks = true) := by
              show keepW x.way false (rawS p q n).ranks = true
              rw [hke.out, decide_eq_false (fun h => k3 h.1), decide_eq_false (fun h => k4 h.2)]; rfl
            clear k3 k4 k5
            have hL := Lib.hid (hs.out ▸ hyes.out hk.out)
            have hsl : (E0 ++ rowS x.way false p q n).length + 1 = (E0 ++ rowS x.way false p q (n + 1)).length := len_app1 hL.out
            clear hk hno hyes hke
            generalize hel2 : E0 ++ rowS x.way false p q n = E at *
            go_wp2_with (at_builtin; refine wpList_append_recs stepRow sEnc_len sEnc_one rfl _ _ rfl u.heap.size A5 c5 E rfl (hO2.out.alloc _).own _ 1 [(⟨p', q'⟩ : St)] rfl (recs_st _ ⟨p', q'⟩ _) (by simp; omega) (hO2.out.alloc _).size ?_; intro A' c' w' hown hg h3; rw [hL.out] at hown ⊢; have hO' := Lib.hid ((hO2.out.alloc _).app hown hg); have hK' := Lib.hid ((hK2.out.next ((Below.refl _ _).alloc (Nat.le_refl _) _)).app hg h3); clear hown hg h3)
            go_roundw
            case rel => exact ⟨n + 1, A', c', hn1.out, by rw [← hNn.out]; try go_num, by first | rfl | rw [List.length_append], hO', hK'⟩
            case measure => exact hNm.out
        have q4 : (x.way == 2) = false := by rw [beq_eq_false_iff_ne]; exact k5
        have hk : Hid (keepW x.way false (rawS p q n).ranks = true) := by
          show keepW x.way false (rawS p q n).ranks = true
          rw [hke.out, decide_eq_false (fun h => k3 h.1), decide_eq_false (fun h => k5 h.1)]; rfl
        clear k3 k5
        have hL := Lib.hid (hs.out ▸ hyes.out hk.out)
        have hsl : (E0 ++ rowS x.way false p q n).length + 1 = (E0 ++ rowS x.way false p q (n + 1)).length := len_app1 hL.out
        clear hk hno hyes hke
        generalize hel2 : E0 ++ rowS x.way false p q n = E at *
        go_wp2_with (at_builtin; refine wpList_append_recs stepRow sEnc_len sEnc_one rfl _ _ rfl u.heap.size A5 c5 E rfl (hO2.out.alloc _).own _ 1 [(⟨p', q'⟩ : St)] rfl (recs_st _ ⟨p', q'⟩ _) (by simp; omega) (hO2.out.alloc _).size ?_; intro A' c' w' hown hg h3; rw [hL.out] at hown ⊢; have hO' := Lib.hid ((hO2.out.alloc _).app hown hg); have hK' := Lib.hid ((hK2.out.next ((Below.refl _ _).alloc (Nat.le_refl _) _)).app hg h3); clear hown hg h3)
        go_roundw
        case rel => exact ⟨n + 1, A', c', hn1.out, by rw [← hNn.out]; try go_num, by first | rfl | rw [List.length_append], hO', hK'⟩
        case measure => exact hNm.out
theorem psteps (x : At) (b : Bool) (w : World) (hx : okA x) : Calls Tryd.prog 26 #[aV x, .bool b] w fun e w' => StR (stepsL x b) e w w' := by
  cases b with
  | true => exact psteps_yes x w hx
  | false => exact psteps_no x w hx
set_option maxRecDepth 100000 in
set_option maxHeartbeats 1000000 in
theorem pStepsOf (x : At) (b : Bool) (w : World) : Calls Tryd.prog 8 #[aV x, .bool b] w fun e w' => StE (stepsE x b) (errE x) e w w' := by
  have hX := Lib.hid (KA.new w x)
  have hb1 : Hid (Below w.heap.size w (w.alloc (.cells #[.int .i64 x.kind, .int .i64 x.short, .int .i64 x.long, .int .i64 x.most, .int .i64 x.mode, .int .i64 x.way] 40))) := (Below.refl _ _).alloc (Nat.le_refl _) _
  have hcA : Hid (∀ W, Calls Tryd.prog 25 #[aV x] W fun e w' => e = .returned (.bool (aB x)) ∧ Below W.heap.size W w') := fun W => pfine x W
  have hcS : Hid (okA x → ∀ W, Calls Tryd.prog 26 #[aV x, .bool b] W fun e w' => StR (stepsL x b) e W w') := fun h W => psteps x b W h
  have hL : Hid (stepsE x b = if aB x then stepsL x b else []) := rfl
  have hE : Hid (errE x = if aB x then 0 else 2) := rfl
  obtain ⟨L, hLe⟩ : ∃ L, stepsE x b = L := ⟨_, rfl⟩
  obtain ⟨E, hEe⟩ : ∃ E, errE x = E := ⟨_, rfl⟩
  rw [hLe] at hL ⊢
  rw [hEe] at hE ⊢
  obtain ⟨L1, hL1⟩ : ∃ L1, stepsL x b = L1 := ⟨_, rfl⟩
  rw [hL1] at hcS hL
  clear hLe hEe hL1
  go_enter Tryd.func8, Tryd.ntmps8
  go_upto_region 1 with fail
  generalize w.heap.size = B0 at hX ⊢
  generalize w.alloc (.cells #[.int .i64 x.kind, .int .i64 x.short, .int .i64 x.long, .int .i64 x.most, .int .i64 x.mode, .int .i64 x.way] 40) = u at *
  obtain ⟨x0, x1, x2, x3, x4, x5, _⟩ := hX.out
  by_cases hok : okA x
  rotate_left
  · rw [aB_no hok] at hcA hL hE
    obtain rfl : L = [] := hL.out
    obtain rfl : E = 2 := hE.out
    clear hok hcS hL hE
    go_wp2_with (go_at_call 25; refine (hcA.out _).mono ?_; rintro e w2 ⟨rfl, hb2⟩; replace hb2 := Lib.hid hb2)
    go_ret2
    exact ⟨⟨none, 0, rfl, recs_nil _ _ _ _ _⟩, hb1.out.trans (hb2.out.mono hb1.out.size)⟩
  · rw [aB_yes hok] at hcA hL hE
    obtain rfl : L = L1 := hL.out
    obtain rfl : E = 0 := hE.out
    have hcS2 := Lib.hid (hcS.out hok)
    clear hok hL hE hcS
    go_wp2_with (first | (go_at_call 25; refine (hcA.out _).mono ?_; rintro e w2 ⟨rfl, hb2⟩; replace hb2 := Lib.hid hb2; clear x0 x1 x2 x3 x4 x5; obtain ⟨x0, x1, x2, x3, x4, x5, _⟩ := hX.out.next hb2.out) | (go_at_call 26; refine (hcS2.out _).mono ?_; rintro e w3 hSt; obtain ⟨A2, c2, rfl, hR2⟩ := hSt.out; have hR2H := Lib.hid hR2; have hb3 := Lib.hid hSt.below; clear hSt hR2))
    go_ret2
    exact ⟨⟨A2, c2, rfl, hR2H.out⟩, hb1.out.trans ((hb2.out.trans (hb3.out.mono hb2.out.size)).mono hb1.out.size)⟩
end Go.Proofs.YtbcdimklblpdnaaDoor
