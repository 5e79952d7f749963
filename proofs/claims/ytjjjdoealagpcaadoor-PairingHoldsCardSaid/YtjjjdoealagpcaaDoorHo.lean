/- Layer 43: certificates, plain; Prove. -/
import Derived.Test.YtjjjdoealagpcaaDoorHn
namespace Go.Proofs.YtjjjdoealagpcaaDoor
open Go Go.RowKit
set_option linter.unusedSimpArgs false
set_option linter.unusedVariables false
attribute [local go_sem ↓] Go.wp_at_zero Go.wp_at_succ
/-- a pair of the lowest element of a set shows no lower cost -/
def pairK (l : List Ent) (c : List Int) (s j : Nat) : Prop := s.testBit j = true → cst l (lowE s) j ≠ -1 → oE c (restN s (lowE s) j) ≠ -1 → oE c s ≠ -1 ∧ oE c s ≤ oE c (restN s (lowE s) j) + cst l (lowE s) j
def inK (c : List Int) (s : Nat) : Prop := -1 ≤ oE c s ∧ oE c s ≤ 1099511627776
def rowK (l : List Ent) (c : List Int) (s : Nat) : Prop := inK c s ∧ (s ≠ 0 → cntE s % 2 = 0 → ∀ j, lowE s < j → j < szE l → pairK l c s j)
def rowsK (l : List Ent) (c : List Int) (k : Nat) : Prop := ∀ s, s < k → rowK l c s
def certP (l : List Ent) (c : List Int) : Prop := c.length = 2 ^ szE l ∧ oE c 0 = 0 ∧ rowsK l c (2 ^ szE l)
open Classical in
noncomputable def certB (l : List Ent) (c : List Int) : Bool := decide (certP l c)
open Classical in
theorem certB_yes {l : List Ent} {c : List Int} (h : certP l c) : certB l c = true := decide_eq_true h
open Classical in
theorem certB_no {l : List Ent} {c : List Int} (h : ¬ certP l c) : certB l c = false := decide_eq_false h
theorem certB_iff {l : List Ent} {c : List Int} : certB l c = true ↔ certP l c := by unfold certB; exact @decide_eq_true_iff _ (_)
/-- a certificate shows that a pairing is best -/
def chkP (l : List Ent) (o : List Int) (v : List Bool) (c : List Int) : Prop := valR l o v ≠ -1 ∧ certP l c ∧ oE c (2 ^ szE l - 1) = valR l o v
open Classical in
noncomputable def chkE (l : List Ent) (o : List Int) (v : List Bool) (c : List Int) : Int := if chkP l o v c then 0 else 10
theorem chkE_yes {l : List Ent} {o : List Int} {v : List Bool} {c : List Int} (h : chkP l o v c) : chkE l o v c = 0 := by unfold chkE; exact if_pos h
theorem chkE_no {l : List Ent} {o : List Int} {v : List Bool} {c : List Int} (h : ¬ chkP l o v c) : chkE l o v c = 10 := by unfold chkE; exact if_neg h
theorem rowsK.succ {l : List Ent} {c : List Int} {k : Nat} (h : rowsK l c k) (h1 : rowK l c k) : rowsK l c (k + 1) := fun s hs => by
  by_cases e : s = k
  · subst e; exact h1
  · exact h s (by omega)
/-- the table is a certificate -/
noncomputable def certL (l : List Ent) : List Int := tabL (cst l) (szE l) (2 ^ szE l)
theorem certL_len (l : List Ent) : (certL l).length = 2 ^ szE l := tabL_len _ _ _
theorem certL_at (l : List Ent) {s : Nat} (h : s < 2 ^ szE l) : oE (certL l) s = bst l s := oE_eq (tabL_get? (cst l) (szE l) h)
theorem certL_ok {l : List Ent} (h7 : l.length ≤ 7) (hok : ∀ x ∈ l, numOk x) : certP l (certL l) := by
  have hN := full_lt (szE_le h7).1
  have h0 := Nat.two_pow_pos (szE l)
  refine ⟨certL_len l, by rw [certL_at l h0]; rfl, fun s hs => ?_⟩
  have hs2 : s < 256 := by omega
  have hb := bestT_bd (cst_bd hok) (szE l) s hs2
  have e : oE (certL l) s = bestT (cst l) (szE l) s := certL_at l hs
  refine ⟨by unfold inK; rw [e]; omega, fun hs0 hc j hj hjn hbj hC hT => ?_⟩
  obtain ⟨l1, l2, l3⟩ := low_in hs2 hs0
  have hrl : ∀ q, lowE s < q → s.testBit q = true → restN s (lowE s) q < 2 ^ szE l := fun q hq hbq => by
    have := (rest_eq hs2 l2 (testBit_lt8 hs2 hbq) (by omega) l1 hbq).2.1
    omega
  have er : oE (certL l) (restN s (lowE s) j) = bestT (cst l) (szE l) (restN s (lowE s) j) := certL_at l (hrl j hj hbj)
  rw [e, er]
  rw [er] at hT
  have hT2 : bestT (cst l) (szE l) s = upT (cst l) (bestT (cst l) (szE l)) s (lowE s) (szE l - (lowE s + 1)) := by
    have he := bestT_eq (cst l) (szE l) s hs2
    unfold entT at he
    rwa [if_neg hs0, if_pos hc] at he
  have h9 := upT_low (C := cst l) (T := bestT (cst l) (szE l)) (s := s) (i := lowE s) (j := j) (fun q hq hb1 h1 h2 => by
    have a1 := cst_bd hok (lowE s) q
    have a2 := bestT_bd (cst_bd hok) (szE l) (restN s (lowE s) q) (by have := hrl q hq hb1; omega)
    omega) hj hbj hC hT (szE l - (lowE s + 1)) (by omega)
  rw [← hT2] at h9
  exact ⟨h9.1, by omega⟩
/-- what Prove hands back -/
structure ProveR (l : List Ent) (e : Ending) (w w' : World) : Prop where
  out : ∃ Br : Nat, e = .returned (.tuple #[.slice (some ⟨Br, 0, none⟩) (2 ^ szE l) (2 ^ szE l), .int .i64 0]) ∧ IRow w' Br 3 (certL l)
  below : Below w.heap.size w w'
theorem pProve_bad (A : Option Addr) (l : List Ent) (c : Nat) (w : World) (hF : FH w A l c) (hv : ¬ okF l) : Calls Tryd.prog 25 #[.slice A l.length c] w fun e w' => e = .returned (.tuple #[.slice none 0 0, .int .i64 2]) ∧ Below w.heap.size w w' := by
  have hV := Lib.hid hF.pvalid
  rw [fB_false hv] at hV
  clear hF hv
  go_enter Tryd.func25, Tryd.ntmps25
  go_wp2_with (first | (go_at_call 10; refine hV.out.mono ?_; rintro e w1 ⟨rfl, hb1⟩))
  go_ret2
  exact ⟨rfl, hb1⟩
set_option maxRecDepth 100000 in
set_option maxHeartbeats 4000000 in
theorem pProve (A : Option Addr) (l : List Ent) (c : Nat) (w : World) (hF : FH w A l c) (hv : okF l) (hl7 : l.length ≤ 7) (hT : TabOK w) :
    Calls Tryd.prog 25 #[.slice A l.length c] w fun e w' => ProveR l e w w' := by
  have hV := Lib.hid hF.pvalid
  rw [fB_true hv] at hV
  have htab : Hid (∀ W, Below w.heap.size w W → Calls Tryd.prog 32 #[.slice A l.length c] W fun e w' => PTab l (szE l) e W w') := fun W h => ptable A l c W (hF.next h) hv hl7 (hT.next h)
  have hz := (zero_of_info zero64).1
  have hi64 := Lib.hid (zero_of_info zero64).2
  obtain ⟨Z, hZ⟩ : ∃ Z, ((List.replicate 156 (0 : Int)).map (Value.int .i64)).toArray = Z := ⟨_, rfl⟩
  rw [hZ] at hz
  have hZs : Hid (Z.size = 156) := by show Z.size = 156; rw [← hZ]; simp
  clear hF hv hT hZ
  go_enter Tryd.func25, Tryd.ntmps25
  go_wp2_with fail
  go_at_call 10
  refine hV.out.mono ?_
  rintro e w1 ⟨rfl, hb1⟩
  replace hb1 := Lib.hid hb1
  clear hV
  go_wp2_with fail
  go_at_call 32
  refine (htab.out _ hb1.out).mono ?_
  rintro e w2 hPT
  obtain ⟨Br, CL, rfl, hBr, hTR, hCO⟩ := hPT.out
  have hb2 := Lib.hid (hb1.out.trans (hPT.below.mono hb1.out.size))
  clear hPT htab hb1 hBr
  have hszX : Hid ((Tryd.prog.info? 64).map (·.size) = some (CL.map (Value.int .i64)).toArray.size) := by show _ = _; rw [List.size_toArray, List.length_map, hCO.1]; exact hi64.out
  have hszZ : Hid (Z.size = (CL.map (Value.int .i64)).toArray.size) := by show Z.size = _; rw [show (CL.map (Value.int .i64)).toArray.size = 156 by simp [hCO.1]]; exact hZs.out
  have h1C : Hid (((CL.map (Value.int .i64)).toArray).all (·.oneCell') = true) := ones_i64 CL
  have hTRH := Lib.hid hTR
  clear hTR hCO hi64 hZs
  obtain ⟨N, hN2⟩ : ∃ N, 2 ^ szE l = N := ⟨_, rfl⟩
  have hN2H := Lib.hid hN2
  have hTC : Hid (IRow w2 Br 3 (certL l)) := hTRH.out
  clear hTRH
  rw [hN2]
  clear hN2
  generalize hCV : (CL.map (Value.int .i64)).toArray = CV at *
  clear hCV
  have hb3 : Hid (Below w2.heap.size w2 (w2.alloc (.cells CV 64))) := (Below.refl _ _).alloc (Nat.le_refl _) _
  go_upto_region 4 with (first | (refine wpList_store_row rfl 64 _ _ rfl w2.heap.size CV rfl rfl 64 Z (heap_alloc_new w2 _) hszX.out hszZ.out h1C.out ?_; rw [World.setRow_alloc_new]))
  clear hz hszX hszZ h1C
  generalize w2.alloc (.cells CV 64) = w3 at *
  go_wp2_with fail
  go_ret2
  exact ⟨⟨Br, by rw [hN2H.out]; rfl, hTC.out.next hb3.out⟩, hb2.out.trans (hb3.out.mono hb2.out.size)⟩
end Go.Proofs.YtjjjdoealagpcaaDoor
