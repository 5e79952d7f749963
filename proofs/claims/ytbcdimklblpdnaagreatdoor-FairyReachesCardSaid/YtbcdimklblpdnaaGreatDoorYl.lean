/- Layer 27: valid boards (reference), Fine, StepsOf. -/
import Derived.Test.YtbcdimklblpdnaaGreatDoorYk
namespace Go.Proofs.YtbcdimklblpdnaaGreatDoor
open Go Go.RowKit
set_option linter.unusedSimpArgs false
set_option linter.unusedVariables false
/-- a valid board -/
def okBd (f r : Int) (ps : List Int) : Prop := (3 ≤ f ∧ f ≤ 8) ∧ (3 ≤ r ∧ r ≤ 8) ∧ (ps.length : Int) = f * r ∧ ∀ p ∈ ps, -15 ≤ p ∧ p ≤ 15
instance (f r : Int) (ps : List Int) : Decidable (okBd f r ps) := by unfold okBd; infer_instance
def bdB (f r : Int) (ps : List Int) : Bool := decide (okBd f r ps)
theorem bdB_yes {f r : Int} {ps : List Int} (h : okBd f r ps) : bdB f r ps = true := decide_eq_true h
theorem bdB_no {f r : Int} {ps : List Int} (h : ¬ okBd f r ps) : bdB f r ps = false := decide_eq_false h
theorem prodB {f r : Int} (h1 : 3 ≤ f ∧ f ≤ 8) (h2 : 3 ≤ r ∧ r ≤ 8) : 9 ≤ f * r ∧ f * r ≤ 64 := by
  have a1 : 3 * 3 ≤ f * r := Int.mul_le_mul h1.1 h2.1 (by omega) (by omega)
  have a2 : f * r ≤ 8 * 8 := Int.mul_le_mul h1.2 h2.2 (by omega) (by omega)
  omega
set_option maxRecDepth 100000 in
set_option maxHeartbeats 1000000 in
theorem rboard (f r : Int) (ps : List Int) (P : Option Addr) (c : Nat) (w : World) (hP : RecAt pEnc 1 w w.heap.size P ps) (hl : ps.length ≤ 100000) (hps : ∀ p ∈ ps, -128 ≤ p ∧ p ≤ 127) :
    Calls Tryz.prog 45 #[.agg #[.int .i64 f, .int .i64 r, .slice P ps.length c]] w fun e w' => e = .returned (.bool (bdB f r ps)) ∧ Below w.heap.size w w' := by
  have hX := Lib.hid (KBd.new w f r P ps.length c)
  have hb1 : Hid (Below w.heap.size w (w.alloc (.cells #[.int .i64 f, .int .i64 r, .slice P ps.length c] 40))) := (Below.refl _ _).alloc (Nat.le_refl _) _
  have hPH := Lib.hid (recs_next hP hb1.out)
  have hno : Hid (¬ okBd f r ps → bdB f r ps = false) := bdB_no
  have hyes : Hid (okBd f r ps → bdB f r ps = true) := bdB_yes
  have hpsH := Lib.hid hps
  have ht1 : Hid (∀ W, Calls Tryz.prog 46 #[.int .i64 f, .int .i64 3, .int .i64 8] W fun e w' => e = .returned (.bool (inB f 3 8)) ∧ W = w') := fun W => rto _ _ _ _
  have ht2 : Hid (∀ W, Calls Tryz.prog 46 #[.int .i64 r, .int .i64 3, .int .i64 8] W fun e w' => e = .returned (.bool (inB r 3 8)) ∧ W = w') := fun W => rto _ _ _ _
  clear hP hps
  go_enter Tryz.func45, Tryz.ntmps45
  go_upto_region 1 with fail
  generalize w.heap.size = B0 at hX ⊢
  generalize w.alloc (.cells #[.int .i64 f, .int .i64 r, .slice P ps.length c] 40) = u at *
  obtain ⟨x0, x1, x2, _⟩ := hX.out
  by_cases k1 : 3 ≤ f ∧ f ≤ 8
  rotate_left
  · have hb := Lib.hid (hno.out fun h => k1 h.1)
    rw [inB_no k1] at ht1
    clear k1 hno hyes ht2
    go_wp2_with (go_at_call 46; refine (ht1.out _).mono ?_; rintro e w' ⟨rfl, rfl⟩)
    go_ret
    exact ⟨rb hb.out.symm, hb1.out⟩
  rw [inB_yes k1.1 k1.2] at ht1
  by_cases k2 : 3 ≤ r ∧ r ≤ 8
  rotate_left
  · have hb := Lib.hid (hno.out fun h => k2 h.2.1)
    rw [inB_no k2] at ht2
    clear k1 k2 hno hyes
    go_wp2_with fail
    go_at_call 46
    refine (ht1.out _).mono ?_
    rintro e w1 ⟨rfl, rfl⟩
    go_wp2_with fail
    go_at_call 46
    refine (ht2.out _).mono ?_
    rintro e w2 ⟨rfl, rfl⟩
    go_wp2_with fail
    go_ret
    exact ⟨rb hb.out.symm, hb1.out⟩
  rw [inB_yes k2.1 k2.2] at ht2
  obtain ⟨N, hN⟩ : ∃ N, f * r = N := ⟨_, rfl⟩
  have hNb := prodB k1 k2
  rw [hN] at hNb
  by_cases k3 : (ps.length : Int) = N
  rotate_left
  · have hb := Lib.hid (hno.out fun h => k3 (h.2.2.1.trans hN))
    have q3 : ((ps.length : Int) != N) = true := by rw [bne_iff_ne]; exact k3
    clear hno hyes k3
    go_wp2_with fail
    go_at_call 46
    refine (ht1.out _).mono ?_
    rintro e w1 ⟨rfl, rfl⟩
    go_wp2_with fail
    go_at_call 46
    refine (ht2.out _).mono ?_
    rintro e w2 ⟨rfl, rfl⟩
    go_wp2_with fail
    go_ret
    exact ⟨rb hb.out.symm, hb1.out⟩
  have q3 : ((ps.length : Int) != N) = false := by rw [bne_eq_false_iff_eq]; exact k3
  have k3H : Hid ((ps.length : Int) = f * r) := k3.trans hN.symm
  clear k3
  go_wp2_with fail
  go_at_call 46
  refine (ht1.out _).mono ?_
  rintro e w1 ⟨rfl, rfl⟩
  go_wp2_with fail
  go_at_call 46
  refine (ht2.out _).mono ?_
  rintro e w2 ⟨rfl, rfl⟩
  go_upto_region 3 with fail
  clear q3 hN hNb ht1 ht2
  go_wp2_with fail
  go_loop [3] (fun i => ∃ k : Nat, k ≤ ps.length ∧ i = .int .i64 (k : Int) ∧ Hid (∀ (j : Nat) (x : Int), j < k → ps[j]? = some x → -15 ≤ x ∧ x ≤ 15)) (fun i => ps.length - (intOf i).toNat)
  case atStart => exact ⟨0, by omega, rfl, fun j x hj => absurd hj (by omega)⟩
  case round =>
    obtain ⟨k, hk, rfl, hH⟩ := hrel
    have hk0 : (0 : Int) ≤ (k : Int) := Int.natCast_nonneg _
    by_cases hlt : k < ps.length
    · have hlI : (k : Int) < (ps.length : Int) := by omega
      obtain ⟨x, hx⟩ : ∃ x, ps[k]? = some x := ⟨_, List.getElem?_eq_getElem hlt⟩
      have hxb := hpsH.out x (List.mem_of_getElem? hx)
      obtain ⟨bk, off, rfl, hbk, hc⟩ := recP hPH.out hx
      have ht3 : Hid (∀ W, Calls Tryz.prog 46 #[.int .i64 x, .int .i64 (-15), .int .i64 15] W fun e w' => e = .returned (.bool (inB x (-15) 15)) ∧ W = w') := fun W => rto _ _ _ _
      by_cases k4 : -15 ≤ x ∧ x ≤ 15
      · have hnew : Hid (∀ (j : Nat) (y : Int), j < k + 1 → ps[j]? = some y → -15 ≤ y ∧ y ≤ 15) := fun j y hj hy => by
          by_cases e : j = k
          · subst e
            rw [hx] at hy
            obtain rfl := Option.some.inj hy
            exact k4
          · exact hH.out j y (by omega) hy
        rw [inB_yes k4.1 k4.2] at ht3
        clear hx hH k4
        go_wp2_with (go_at_call 46; refine (ht3.out _).mono ?_; rintro e w' ⟨rfl, rfl⟩)
        go_round
        case rel => exact ⟨k + 1, by omega, by go_num, hnew⟩
        case measure => simp [intOf]; omega
      · have hb := Lib.hid (hno.out fun h => k4 (h.2.2.2 x (List.mem_of_getElem? hx)))
        rw [inB_no k4] at ht3
        clear hx hH k4
        go_wp2_with (go_at_call 46; refine (ht3.out _).mono ?_; rintro e w' ⟨rfl, rfl⟩)
        go_ret
        exact ⟨rb hb.out.symm, hb1.out⟩
    · obtain rfl : k = ps.length := by omega
      have hb := Lib.hid (hyes.out ⟨k1, k2, k3H.out, fun p hp => by
        obtain ⟨j, hj⟩ := List.getElem?_of_mem hp
        exact hH.out j p (List.getElem?_eq_some_iff.1 hj).1 hj⟩)
      go_wp2_with fail
      go_ret
      exact ⟨rb hb.out.symm, hb1.out⟩
/-- board, piece and square are valid -/
def okAll (f r : Int) (ps : List Int) (s : ByteArray) (l : List At) (a : Int) : Prop := okBd f r ps ∧ okFy s l ∧ 0 ≤ a ∧ a < (ps.length : Int)
open Classical in
noncomputable def alB (f r : Int) (ps : List Int) (s : ByteArray) (l : List At) (a : Int) : Bool := decide (okAll f r ps s l a)
open Classical in
theorem alB_yes {f r : Int} {ps : List Int} {s : ByteArray} {l : List At} {a : Int} (h : okAll f r ps s l a) : alB f r ps s l a = true := by unfold alB; exact decide_eq_true h
open Classical in
theorem alB_no {f r : Int} {ps : List Int} {s : ByteArray} {l : List At} {a : Int} (h : ¬ okAll f r ps s l a) : alB f r ps s l a = false := by unfold alB; exact decide_eq_false h
set_option maxRecDepth 100000 in
set_option maxHeartbeats 1000000 in
theorem rfine (f r : Int) (ps : List Int) (P : Option Addr) (c : Nat) (s : ByteArray) (A : Option Addr) (l : List At) (ca : Nat) (a : Int) (w : World) (hP : RecAt pEnc 1 w w.heap.size P ps) (hR : RecAt aEnc 6 w w.heap.size A l) (hl : ps.length ≤ 100000) (hps : ∀ p ∈ ps, -128 ≤ p ∧ p ≤ 127) (hla : l.length ≤ 100000) (hs : s.size ≤ maxLen) :
    Calls Tryz.prog 17 #[.agg #[.int .i64 f, .int .i64 r, .slice P ps.length c], .agg #[.string s, .slice A l.length ca], .int .i64 a] w fun e w' => e = .returned (.bool (alB f r ps s l a)) ∧ Below w.heap.size w w' := by
  obtain ⟨u, hu⟩ : ∃ u, (w.alloc (.cells #[.int .i64 f, .int .i64 r, .slice P ps.length c] 40)).alloc (.cells #[.string s, .slice A l.length ca] 43) = u := ⟨_, rfl⟩
  have hbA : Below w.heap.size w (w.alloc (.cells #[.int .i64 f, .int .i64 r, .slice P ps.length c] 40)) := (Below.refl _ _).alloc (Nat.le_refl _) _
  have hbB : Below (w.alloc (.cells #[.int .i64 f, .int .i64 r, .slice P ps.length c] 40)).heap.size (w.alloc (.cells #[.int .i64 f, .int .i64 r, .slice P ps.length c] 40)) ((w.alloc (.cells #[.int .i64 f, .int .i64 r, .slice P ps.length c] 40)).alloc (.cells #[.string s, .slice A l.length ca] 43)) := (Below.refl _ _).alloc (Nat.le_refl _) _
  have e1 : (w.alloc (.cells #[.int .i64 f, .int .i64 r, .slice P ps.length c] 40)).heap.size = w.heap.size + 1 := by simp
  have hX0 : KBd u w.heap.size f r P ps.length c := hu ▸ (KBd.new w f r P ps.length c).next hbB
  have hF0 : KF u (w.heap.size + 1) s A l.length ca := by
    have h1 := KF.new (w.alloc (.cells #[.int .i64 f, .int .i64 r, .slice P ps.length c] 40)) s A l.length ca
    rw [e1] at h1
    exact hu ▸ h1
  have hb0 : Below w.heap.size w u := hu ▸ hbA.trans (hbB.mono hbA.size)
  have hX := Lib.hid hX0
  have hF := Lib.hid hF0
  have hb1 := Lib.hid hb0
  have hPH := Lib.hid (recs_next hP hb1.out)
  have hRH := Lib.hid (recs_next hR hb1.out)
  have hcB : Hid (∀ W, Below u.heap.size u W → Calls Tryz.prog 45 #[.agg #[.int .i64 f, .int .i64 r, .slice P ps.length c]] W fun e w' => e = .returned (.bool (bdB f r ps)) ∧ Below W.heap.size W w') := fun W h => rboard f r ps P c W (recs_next hPH.out h) hl hps
  have hcV : Hid (∀ W, Below u.heap.size u W → Calls Tryz.prog 26 #[.agg #[.string s, .slice A l.length ca]] W fun e w' => e = .returned (.bool (fyB s l)) ∧ Below W.heap.size W w') := fun W h => rvalid s A l ca W (recs_next hRH.out h) hla hs
  have hcT : Hid (∀ W, Calls Tryz.prog 46 #[.int .i64 a, .int .i64 0, .int .i64 ((ps.length : Int) - 1)] W fun e w' => e = .returned (.bool (inB a 0 ((ps.length : Int) - 1))) ∧ W = w') := fun W => rto _ _ _ _
  have hno : Hid (¬ okAll f r ps s l a → alB f r ps s l a = false) := alB_no
  have hyes : Hid (okAll f r ps s l a → alB f r ps s l a = true) := alB_yes
  clear hbA hbB e1 hX0 hF0 hb0 hP hR hPH hRH hps
  go_enter Tryz.func17, Tryz.ntmps17
  go_upto_region 1 with fail
  generalize w.heap.size = B0 at hX hF ⊢
  simp only [hu] at *
  clear hu
  obtain ⟨x0, x1, x2, _⟩ := hX.out
  obtain ⟨f0, f1, _⟩ := hF.out
  by_cases k1 : okBd f r ps
  rotate_left
  · have hb := Lib.hid (hno.out fun h => k1 h.1)
    rw [bdB_no k1] at hcB
    clear k1 hno hyes hcV hcT
    go_wp2_with (go_at_call 45; refine (hcB.out _ (Below.refl _ _)).mono ?_; rintro e w2 ⟨rfl, hb2⟩; replace hb2 := Lib.hid hb2)
    go_ret
    exact ⟨rb hb.out.symm, hb1.out.trans (hb2.out.mono hb1.out.size)⟩
  rw [bdB_yes k1] at hcB
  have k1H := Lib.hid k1
  clear k1
  by_cases k2 : okFy s l
  rotate_left
  · have hb := Lib.hid (hno.out fun h => k2 h.2.1)
    rw [fyB_no k2] at hcV
    clear k2 hno hyes hcT k1H
    go_wp2_with (first | (go_at_call 45; refine (hcB.out _ (Below.refl _ _)).mono ?_; rintro e w2 ⟨rfl, hb2⟩; replace hb2 := Lib.hid hb2; clear x0 x1 x2 f0 f1; obtain ⟨x0, x1, x2, _⟩ := hX.out.next hb2.out; obtain ⟨f0, f1, _⟩ := hF.out.next hb2.out) | (go_at_call 26; refine (hcV.out _ hb2.out).mono ?_; rintro e w3 ⟨rfl, hb3⟩; replace hb3 := Lib.hid hb3))
    go_ret
    exact ⟨rb hb.out.symm, hb1.out.trans ((hb2.out.trans (hb3.out.mono hb2.out.size)).mono hb1.out.size)⟩
  rw [fyB_yes k2] at hcV
  have k2H := Lib.hid k2
  clear k2
  have hfin : Hid (alB f r ps s l a = inB a 0 ((ps.length : Int) - 1)) := by
    show alB f r ps s l a = _
    by_cases k3 : 0 ≤ a ∧ a ≤ (ps.length : Int) - 1
    · rw [inB_yes k3.1 k3.2]
      exact alB_yes ⟨k1H.out, k2H.out, k3.1, by omega⟩
    · rw [inB_no k3]
      exact alB_no fun h => k3 ⟨h.2.2.1, by have := h.2.2.2; omega⟩
  obtain ⟨bb, hbb⟩ : ∃ bb, inB a 0 ((ps.length : Int) - 1) = bb := ⟨_, rfl⟩
  rw [hbb] at hcT hfin
  clear hbb hno hyes k1H k2H
  go_wp2_with (first | (go_at_call 45; refine (hcB.out _ (Below.refl _ _)).mono ?_; rintro e w2 ⟨rfl, hb2⟩; replace hb2 := Lib.hid hb2; clear x0 x1 x2 f0 f1; obtain ⟨x0, x1, x2, _⟩ := hX.out.next hb2.out; obtain ⟨f0, f1, _⟩ := hF.out.next hb2.out) | (go_at_call 26; refine (hcV.out _ hb2.out).mono ?_; rintro e w3 ⟨rfl, hb3⟩; replace hb3 := Lib.hid (hb2.out.trans (hb3.mono hb2.out.size)); clear x0 x1 x2 f0 f1 hb2; obtain ⟨x0, x1, x2, _⟩ := hX.out.next hb3.out) | (go_at_call 46; refine (hcT.out _).mono ?_; rintro e w4 ⟨rfl, rfl⟩))
  go_ret
  exact ⟨rb hfin.out.symm, hb1.out.trans (hb3.out.mono hb1.out.size)⟩
/-- the steps with an error number -/
structure StE (L : List St) (k : Int) (e : Ending) (w w' : World) : Prop where
  out : ∃ (A : Option Addr) (c : Nat), e = .returned (.tuple #[.slice A L.length c, .int .i64 k]) ∧ RecAt sEnc 2 w' w'.heap.size A L
  below : Below w.heap.size w w'
def stepsE (x : At) (b : Bool) : List St := if aB x then stepsL x b else []
def errE (x : At) : Int := if aB x then 0 else 2
theorem recs_nil {α : Type} (f : α → List Value) (size : Nat) (w : World) (B : Nat) (A : Option Addr) : RecAt f size w B A [] := fun h => absurd h (by simp)
set_option maxRecDepth 100000 in
set_option maxHeartbeats 1000000 in
theorem rstepsof (x : At) (b : Bool) (w : World) : Calls Tryz.prog 10 #[aV x, .bool b] w fun e w' => StE (stepsE x b) (errE x) e w w' := by
  have hX := Lib.hid (KA.new w x)
  have hb1 : Hid (Below w.heap.size w (w.alloc (.cells #[.int .i64 x.kind, .int .i64 x.short, .int .i64 x.long, .int .i64 x.most, .int .i64 x.mode, .int .i64 x.way] 26))) := (Below.refl _ _).alloc (Nat.le_refl _) _
  have hcA : Hid (∀ W, Calls Tryz.prog 34 #[aV x] W fun e w' => e = .returned (.bool (aB x)) ∧ Below W.heap.size W w') := fun W => rAtom x W
  have hcS : Hid (∀ W, Calls Tryz.prog 35 #[aV x, .bool b] W fun e w' => StR (stepsL x b) e W w') := fun W => rsteps x b W
  have hL : Hid (stepsE x b = if aB x then stepsL x b else []) := rfl
  have hE : Hid (errE x = if aB x then 0 else 2) := rfl
  obtain ⟨L, hLe⟩ : ∃ L, stepsE x b = L := ⟨_, rfl⟩
  obtain ⟨E, hEe⟩ : ∃ E, errE x = E := ⟨_, rfl⟩
  rw [hLe] at hL ⊢
  rw [hEe] at hE ⊢
  obtain ⟨L1, hL1⟩ : ∃ L1, stepsL x b = L1 := ⟨_, rfl⟩
  rw [hL1] at hcS hL
  clear hLe hEe hL1
  go_enter Tryz.func10, Tryz.ntmps10
  go_upto_region 1 with fail
  generalize w.heap.size = B0 at hX ⊢
  generalize w.alloc (.cells #[.int .i64 x.kind, .int .i64 x.short, .int .i64 x.long, .int .i64 x.most, .int .i64 x.mode, .int .i64 x.way] 26) = u at *
  obtain ⟨x0, x1, x2, x3, x4, x5, _⟩ := hX.out
  cases hk : aB x
  · rw [hk] at hcA hL hE
    obtain rfl : L = [] := hL.out
    obtain rfl : E = 2 := hE.out
    clear hk hcS hL hE
    go_wp2_with (go_at_call 34; refine (hcA.out _).mono ?_; rintro e w2 ⟨rfl, hb2⟩; replace hb2 := Lib.hid hb2)
    go_ret2
    exact ⟨⟨none, 0, rfl, recs_nil _ _ _ _ _⟩, hb1.out.trans (hb2.out.mono hb1.out.size)⟩
  · rw [hk] at hcA hL hE
    obtain rfl : L = L1 := hL.out
    obtain rfl : E = 0 := hE.out
    clear hk hL hE
    go_wp2_with (first | (go_at_call 34; refine (hcA.out _).mono ?_; rintro e w2 ⟨rfl, hb2⟩; replace hb2 := Lib.hid hb2; clear x0 x1 x2 x3 x4 x5; obtain ⟨x0, x1, x2, x3, x4, x5, _⟩ := hX.out.next hb2.out) | (go_at_call 35; refine (hcS.out _).mono ?_; rintro e w3 hSt; obtain ⟨A2, c2, rfl, hR2⟩ := hSt.out; have hR2H := Lib.hid hR2; have hb3 := Lib.hid hSt.below; clear hSt hR2))
    go_ret2
    exact ⟨⟨A2, c2, rfl, hR2H.out⟩, hb1.out.trans ((hb2.out.trans (hb3.out.mono hb2.out.size)).mono hb1.out.size)⟩
end Go.Proofs.YtbcdimklblpdnaaGreatDoor
