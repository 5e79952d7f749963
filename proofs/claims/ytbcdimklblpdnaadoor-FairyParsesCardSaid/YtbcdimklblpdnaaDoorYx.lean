/- Layer 27: Attacks, Goes and Takes of the program. -/
import Derived.Test.YtbcdimklblpdnaaDoorYw
namespace Go.Proofs.YtbcdimklblpdnaaDoor
open Go Go.RowKit
set_option linter.unusedSimpArgs false
set_option linter.unusedVariables false
theorem Bd.okAll {f r a : Nat} {ps : List Int} {s : ByteArray} {l : List At} (h : Bd f r a ps) (hfy : okFy s l) (hpv : ∀ p ∈ ps, -15 ≤ p ∧ p ≤ 15) : Go.Proofs.YtbcdimklblpdnaaDoor.okAll (f : Int) (r : Int) ps s l (a : Int) := by
  have h0 := h.f0; have h1 := h.f1; have h2 := h.r0; have h3 := h.r1; have h4 := h.a0
  refine ⟨⟨⟨by omega, by omega⟩, ⟨by omega, by omega⟩, by rw [h.len, Int.natCast_mul], hpv⟩, hfy, by omega, ?_⟩
  rw [h.len]
  exact_mod_cast h4
theorem okFy_at {s : ByteArray} {l : List At} (h : okFy s l) : ∀ x ∈ l, okA x := fun x hx => by
  obtain ⟨k, hk⟩ := List.getElem?_of_mem hx
  exact (h.1.1 k x (List.getElem?_eq_some_iff.1 hk).1 hk).1
theorem okFy_len {s : ByteArray} {l : List At} (h : okFy s l) : l.length ≤ 1000 := by have := h.1.2.2; omega
set_option maxRecDepth 100000 in
set_option maxHeartbeats 1000000 in
theorem pattacks_no (f r : Int) (ps : List Int) (P : Option Addr) (c : Nat) (s : ByteArray) (A : Option Addr) (l : List At) (ca : Nat) (a : Int) (b : Bool) (w : World) (hP : RecAt pEnc 1 w w.heap.size P ps) (hR : RecAt aEnc 6 w w.heap.size A l) (hl : ps.length ≤ 100000) (hwf : ∀ x ∈ l, wfA x) (hla : l.length ≤ 100000) (hs : s.size ≤ maxLen) (hno : ¬ okAll f r ps s l a) :
    Calls Tryd.prog 27 #[.agg #[.int .i64 f, .int .i64 r, .slice P ps.length c], .agg #[.string s, .slice A l.length ca], .int .i64 a, .bool b] w fun e w' => e = .returned (.tuple #[.int .u64 0, .int .i64 2]) ∧ Below w.heap.size w w' := by
  obtain ⟨u, hu⟩ : ∃ u, (w.alloc (.cells #[.int .i64 f, .int .i64 r, .slice P ps.length c] 48)).alloc (.cells #[.string s, .slice A l.length ca] 25) = u := ⟨_, rfl⟩
  have hbA : Below w.heap.size w (w.alloc (.cells #[.int .i64 f, .int .i64 r, .slice P ps.length c] 48)) := (Below.refl _ _).alloc (Nat.le_refl _) _
  have hbB : Below (w.alloc (.cells #[.int .i64 f, .int .i64 r, .slice P ps.length c] 48)).heap.size (w.alloc (.cells #[.int .i64 f, .int .i64 r, .slice P ps.length c] 48)) ((w.alloc (.cells #[.int .i64 f, .int .i64 r, .slice P ps.length c] 48)).alloc (.cells #[.string s, .slice A l.length ca] 25)) := (Below.refl _ _).alloc (Nat.le_refl _) _
  have e1 : (w.alloc (.cells #[.int .i64 f, .int .i64 r, .slice P ps.length c] 48)).heap.size = w.heap.size + 1 := by simp
  have hX0 : KBd u w.heap.size f r P ps.length c := hu ▸ (KBd.new w f r P ps.length c).next hbB
  have hF0 : KF u (w.heap.size + 1) s A l.length ca := by
    have h1 := KF.new (w.alloc (.cells #[.int .i64 f, .int .i64 r, .slice P ps.length c] 48)) s A l.length ca
    rw [e1] at h1
    exact hu ▸ h1
  have hb0 : Below w.heap.size w u := hu ▸ hbA.trans (hbB.mono hbA.size)
  have hX := Lib.hid hX0
  have hF := Lib.hid hF0
  have hb1 := Lib.hid hb0
  have hPH := Lib.hid (recs_next hP hb1.out)
  have hRH := Lib.hid (recs_next hR hb1.out)
  clear hbA hbB e1 hX0 hF0 hb0 hP hR
  have hck : Hid (∀ W, Below u.heap.size u W → Calls Tryd.prog 28 #[.agg #[.int .i64 f, .int .i64 r, .slice P ps.length c], .agg #[.string s, .slice A l.length ca], .int .i64 a] W fun e w' => e = .returned (.int .i64 (if alB f r ps s l a then 0 else 2)) ∧ Below W.heap.size W w') := fun W h => pcheck f r ps P c s A l ca a W (recs_next hPH.out h) (recs_next hRH.out h) hl hwf hla hs
  rw [alB_no hno] at hck
  clear hno hwf hPH hRH
  go_enter Tryd.func27, Tryd.ntmps27
  go_upto_region 1 with fail
  generalize w.heap.size = B0 at hX hF ⊢
  simp only [hu] at *
  clear hu
  obtain ⟨x0, x1, x2, _⟩ := hX.out
  obtain ⟨f0, f1, _⟩ := hF.out
  go_wp2_with (go_at_call 28; refine (hck.out _ (Below.refl _ _)).mono ?_; rintro e w2 ⟨rfl, hb2⟩; replace hb2 := Lib.hid hb2)
  go_ret2
  exact ⟨rfl, hb1.out.trans (hb2.out.mono hb1.out.size)⟩
set_option maxRecDepth 100000 in
set_option maxHeartbeats 1000000 in
theorem pgoes_no (f r : Int) (ps : List Int) (P : Option Addr) (c : Nat) (s : ByteArray) (A : Option Addr) (l : List At) (ca : Nat) (a : Int) (b : Bool) (w : World) (hP : RecAt pEnc 1 w w.heap.size P ps) (hR : RecAt aEnc 6 w w.heap.size A l) (hl : ps.length ≤ 100000) (hwf : ∀ x ∈ l, wfA x) (hla : l.length ≤ 100000) (hs : s.size ≤ maxLen) (hno : ¬ okAll f r ps s l a) :
    Calls Tryd.prog 14 #[.agg #[.int .i64 f, .int .i64 r, .slice P ps.length c], .agg #[.string s, .slice A l.length ca], .int .i64 a, .bool b] w fun e w' => e = .returned (.tuple #[.int .u64 0, .int .i64 2]) ∧ Below w.heap.size w w' := by
  obtain ⟨u, hu⟩ : ∃ u, (w.alloc (.cells #[.int .i64 f, .int .i64 r, .slice P ps.length c] 48)).alloc (.cells #[.string s, .slice A l.length ca] 25) = u := ⟨_, rfl⟩
  have hbA : Below w.heap.size w (w.alloc (.cells #[.int .i64 f, .int .i64 r, .slice P ps.length c] 48)) := (Below.refl _ _).alloc (Nat.le_refl _) _
  have hbB : Below (w.alloc (.cells #[.int .i64 f, .int .i64 r, .slice P ps.length c] 48)).heap.size (w.alloc (.cells #[.int .i64 f, .int .i64 r, .slice P ps.length c] 48)) ((w.alloc (.cells #[.int .i64 f, .int .i64 r, .slice P ps.length c] 48)).alloc (.cells #[.string s, .slice A l.length ca] 25)) := (Below.refl _ _).alloc (Nat.le_refl _) _
  have e1 : (w.alloc (.cells #[.int .i64 f, .int .i64 r, .slice P ps.length c] 48)).heap.size = w.heap.size + 1 := by simp
  have hX0 : KBd u w.heap.size f r P ps.length c := hu ▸ (KBd.new w f r P ps.length c).next hbB
  have hF0 : KF u (w.heap.size + 1) s A l.length ca := by
    have h1 := KF.new (w.alloc (.cells #[.int .i64 f, .int .i64 r, .slice P ps.length c] 48)) s A l.length ca
    rw [e1] at h1
    exact hu ▸ h1
  have hb0 : Below w.heap.size w u := hu ▸ hbA.trans (hbB.mono hbA.size)
  have hX := Lib.hid hX0
  have hF := Lib.hid hF0
  have hb1 := Lib.hid hb0
  have hPH := Lib.hid (recs_next hP hb1.out)
  have hRH := Lib.hid (recs_next hR hb1.out)
  clear hbA hbB e1 hX0 hF0 hb0 hP hR
  have hck : Hid (∀ W, Below u.heap.size u W → Calls Tryd.prog 28 #[.agg #[.int .i64 f, .int .i64 r, .slice P ps.length c], .agg #[.string s, .slice A l.length ca], .int .i64 a] W fun e w' => e = .returned (.int .i64 (if alB f r ps s l a then 0 else 2)) ∧ Below W.heap.size W w') := fun W h => pcheck f r ps P c s A l ca a W (recs_next hPH.out h) (recs_next hRH.out h) hl hwf hla hs
  rw [alB_no hno] at hck
  clear hno hwf hPH hRH
  go_enter Tryd.func14, Tryd.ntmps14
  go_upto_region 1 with fail
  generalize w.heap.size = B0 at hX hF ⊢
  simp only [hu] at *
  clear hu
  obtain ⟨x0, x1, x2, _⟩ := hX.out
  obtain ⟨f0, f1, _⟩ := hF.out
  go_wp2_with (go_at_call 28; refine (hck.out _ (Below.refl _ _)).mono ?_; rintro e w2 ⟨rfl, hb2⟩; replace hb2 := Lib.hid hb2)
  go_ret2
  exact ⟨rfl, hb1.out.trans (hb2.out.mono hb1.out.size)⟩
set_option maxRecDepth 100000 in
set_option maxHeartbeats 1000000 in
theorem ptakes_no (f r : Int) (ps : List Int) (P : Option Addr) (c : Nat) (s : ByteArray) (A : Option Addr) (l : List At) (ca : Nat) (a : Int) (b : Bool) (w : World) (hP : RecAt pEnc 1 w w.heap.size P ps) (hR : RecAt aEnc 6 w w.heap.size A l) (hl : ps.length ≤ 100000) (hwf : ∀ x ∈ l, wfA x) (hla : l.length ≤ 100000) (hs : s.size ≤ maxLen) (hno : ¬ okAll f r ps s l a) :
    Calls Tryd.prog 15 #[.agg #[.int .i64 f, .int .i64 r, .slice P ps.length c], .agg #[.string s, .slice A l.length ca], .int .i64 a, .bool b] w fun e w' => e = .returned (.tuple #[.int .u64 0, .int .i64 2]) ∧ Below w.heap.size w w' := by
  obtain ⟨u, hu⟩ : ∃ u, ((w.alloc (.cells #[.int .i64 f, .int .i64 r, .slice P ps.length c] 48)).alloc (.cells #[.string s, .slice A l.length ca] 25)).alloc (.cells #[.bool b] 4) = u := ⟨_, rfl⟩
  have hbA : Below w.heap.size w (w.alloc (.cells #[.int .i64 f, .int .i64 r, .slice P ps.length c] 48)) := (Below.refl _ _).alloc (Nat.le_refl _) _
  have hbB : Below (w.alloc (.cells #[.int .i64 f, .int .i64 r, .slice P ps.length c] 48)).heap.size (w.alloc (.cells #[.int .i64 f, .int .i64 r, .slice P ps.length c] 48)) ((w.alloc (.cells #[.int .i64 f, .int .i64 r, .slice P ps.length c] 48)).alloc (.cells #[.string s, .slice A l.length ca] 25)) := (Below.refl _ _).alloc (Nat.le_refl _) _
  have hbC : Below ((w.alloc (.cells #[.int .i64 f, .int .i64 r, .slice P ps.length c] 48)).alloc (.cells #[.string s, .slice A l.length ca] 25)).heap.size ((w.alloc (.cells #[.int .i64 f, .int .i64 r, .slice P ps.length c] 48)).alloc (.cells #[.string s, .slice A l.length ca] 25)) (((w.alloc (.cells #[.int .i64 f, .int .i64 r, .slice P ps.length c] 48)).alloc (.cells #[.string s, .slice A l.length ca] 25)).alloc (.cells #[.bool b] 4)) := (Below.refl _ _).alloc (Nat.le_refl _) _
  have e1 : (w.alloc (.cells #[.int .i64 f, .int .i64 r, .slice P ps.length c] 48)).heap.size = w.heap.size + 1 := by simp
  have e2 : ((w.alloc (.cells #[.int .i64 f, .int .i64 r, .slice P ps.length c] 48)).alloc (.cells #[.string s, .slice A l.length ca] 25)).heap.size = w.heap.size + 1 + 1 := by simp
  have hX0 : KBd u w.heap.size f r P ps.length c := hu ▸ ((KBd.new w f r P ps.length c).next hbB).next hbC
  have hF0 : KF u (w.heap.size + 1) s A l.length ca := by
    have h1 := (KF.new (w.alloc (.cells #[.int .i64 f, .int .i64 r, .slice P ps.length c] 48)) s A l.length ca).next hbC
    rw [e1] at h1
    exact hu ▸ h1
  have hQ0 : C1 u (w.heap.size + 1 + 1) (.bool b) := by
    have h1 := C1.new ((w.alloc (.cells #[.int .i64 f, .int .i64 r, .slice P ps.length c] 48)).alloc (.cells #[.string s, .slice A l.length ca] 25)) (.bool b) 4
    rw [e2] at h1
    exact hu ▸ h1
  have hb0 : Below w.heap.size w u := hu ▸ (hbA.trans ((hbB.mono hbA.size).trans (hbC.mono (Nat.le_trans hbA.size hbB.size))))
  have hX := Lib.hid hX0
  have hF := Lib.hid hF0
  have hQ := Lib.hid hQ0
  have hb1 := Lib.hid hb0
  have hPH := Lib.hid (recs_next hP hb1.out)
  have hRH := Lib.hid (recs_next hR hb1.out)
  clear hbA hbB hbC e1 e2 hX0 hF0 hQ0 hb0 hP hR
  have hck : Hid (∀ W, Below u.heap.size u W → Calls Tryd.prog 28 #[.agg #[.int .i64 f, .int .i64 r, .slice P ps.length c], .agg #[.string s, .slice A l.length ca], .int .i64 a] W fun e w' => e = .returned (.int .i64 (if alB f r ps s l a then 0 else 2)) ∧ Below W.heap.size W w') := fun W h => pcheck f r ps P c s A l ca a W (recs_next hPH.out h) (recs_next hRH.out h) hl hwf hla hs
  rw [alB_no hno] at hck
  clear hno hwf hPH hRH
  go_enter Tryd.func15, Tryd.ntmps15
  go_upto_region 1 with fail
  generalize w.heap.size = B0 at hX hF hQ ⊢
  simp only [hu] at *
  clear hu
  obtain ⟨x0, x1, x2, _⟩ := hX.out
  obtain ⟨f0, f1, _⟩ := hF.out
  have q0 := hQ.out.c
  go_wp2_with (go_at_call 28; refine (hck.out _ (Below.refl _ _)).mono ?_; rintro e w2 ⟨rfl, hb2⟩; replace hb2 := Lib.hid hb2)
  go_ret2
  exact ⟨rfl, hb1.out.trans (hb2.out.mono hb1.out.size)⟩
set_option maxRecDepth 100000 in
set_option maxHeartbeats 1000000 in
theorem pattacks_yes (f r a : Nat) (ps : List Int) (P : Option Addr) (c : Nat) (s : ByteArray) (A : Option Addr) (l : List At) (ca : Nat) (b : Bool) (w : World) (hP : RecAt pEnc 1 w w.heap.size P ps) (hR : RecAt aEnc 6 w w.heap.size A l) (hl : ps.length ≤ 100000) (hwf : ∀ x ∈ l, wfA x) (hla : l.length ≤ 100000) (hs : s.size ≤ maxLen) (h : Bd f r a ps) (hfy : okFy s l) (hpv : ∀ p ∈ ps, -15 ≤ p ∧ p ≤ 15) :
    Calls Tryd.prog 27 #[.agg #[.int .i64 (f : Int), .int .i64 (r : Int), .slice P ps.length c], .agg #[.string s, .slice A l.length ca], .int .i64 (a : Int), .bool b] w fun e w' => e = .returned (.tuple #[.int .u64 (orL (visP f r a ps b 1 l) : Nat), .int .i64 0]) ∧ orL (visP f r a ps b 1 l) < 18446744073709551616 ∧ Below w.heap.size w w' := by
  obtain ⟨u, hu⟩ : ∃ u, (w.alloc (.cells #[.int .i64 (f : Int), .int .i64 (r : Int), .slice P ps.length c] 48)).alloc (.cells #[.string s, .slice A l.length ca] 25) = u := ⟨_, rfl⟩
  have hbA : Below w.heap.size w (w.alloc (.cells #[.int .i64 (f : Int), .int .i64 (r : Int), .slice P ps.length c] 48)) := (Below.refl _ _).alloc (Nat.le_refl _) _
  have hbB : Below (w.alloc (.cells #[.int .i64 (f : Int), .int .i64 (r : Int), .slice P ps.length c] 48)).heap.size (w.alloc (.cells #[.int .i64 (f : Int), .int .i64 (r : Int), .slice P ps.length c] 48)) ((w.alloc (.cells #[.int .i64 (f : Int), .int .i64 (r : Int), .slice P ps.length c] 48)).alloc (.cells #[.string s, .slice A l.length ca] 25)) := (Below.refl _ _).alloc (Nat.le_refl _) _
  have e1 : (w.alloc (.cells #[.int .i64 (f : Int), .int .i64 (r : Int), .slice P ps.length c] 48)).heap.size = w.heap.size + 1 := by simp
  have hX0 : KBd u w.heap.size f r P ps.length c := hu ▸ (KBd.new w f r P ps.length c).next hbB
  have hF0 : KF u (w.heap.size + 1) s A l.length ca := by
    have h1 := KF.new (w.alloc (.cells #[.int .i64 (f : Int), .int .i64 (r : Int), .slice P ps.length c] 48)) s A l.length ca
    rw [e1] at h1
    exact hu ▸ h1
  have hb0 : Below w.heap.size w u := hu ▸ hbA.trans (hbB.mono hbA.size)
  have hX := Lib.hid hX0
  have hF := Lib.hid hF0
  have hb1 := Lib.hid hb0
  have hPH := Lib.hid (recs_next hP hb1.out)
  have hRH := Lib.hid (recs_next hR hb1.out)
  clear hbA hbB e1 hX0 hF0 hb0 hP hR
  have hck : Hid (∀ W, Below u.heap.size u W → Calls Tryd.prog 28 #[.agg #[.int .i64 (f : Int), .int .i64 (r : Int), .slice P ps.length c], .agg #[.string s, .slice A l.length ca], .int .i64 (a : Int)] W fun e w' => e = .returned (.int .i64 (if alB (f : Int) (r : Int) ps s l a then 0 else 2)) ∧ Below W.heap.size W w') := fun W h => pcheck f r ps P c s A l ca a W (recs_next hPH.out h) (recs_next hRH.out h) hl hwf hla hs
  rw [alB_yes (h.okAll hfy hpv)] at hck
  have hl64 : ps.length ≤ 64 := by rw [h.len]; exact Nat.mul_le_mul h.f1 h.r1
  have hsq : Hid (∀ W, Below u.heap.size u W → Calls Tryd.prog 30 #[.agg #[.int .i64 (f : Int), .int .i64 (r : Int), .slice P ps.length c], .agg #[.string s, .slice A l.length ca], .int .i64 (a : Int), .bool b, .int .i64 1] W fun e w' => e = .returned (.int .u64 (orL (visP f r a ps b 1 l) : Nat)) ∧ orL (visP f r a ps b 1 l) < 18446744073709551616 ∧ Below W.heap.size W w') := fun W hh => psquares f r a ps P c s A l ca b 1 W h (recs_next hPH.out hh) (recs_next hRH.out hh) (okFy_at hfy) (okFy_len hfy)
  obtain ⟨T, hT⟩ : ∃ T, orL (visP f r a ps b 1 l) = T := ⟨_, rfl⟩
  rw [hT] at hsq ⊢
  clear hT h hfy hpv hwf
  clear hPH hRH
  go_enter Tryd.func27, Tryd.ntmps27
  go_upto_region 1 with fail
  generalize w.heap.size = B0 at hX hF ⊢
  simp only [hu] at *
  clear hu
  obtain ⟨x0, x1, x2, _⟩ := hX.out
  obtain ⟨f0, f1, _⟩ := hF.out
  go_upto_region 4 with (go_at_call 28; refine (hck.out _ (Below.refl _ _)).mono ?_; rintro e w2 ⟨rfl, hb2⟩; replace hb2 := Lib.hid hb2; clear x0 x1 x2 f0 f1; obtain ⟨x0, x1, x2, _⟩ := hX.out.next hb2.out; obtain ⟨f0, f1, _⟩ := hF.out.next hb2.out)
  go_wp2_with (go_at_call 30; refine (hsq.out _ hb2.out).mono ?_; rintro e w3 ⟨rfl, hTl, hb3⟩; replace hTl := Lib.hid hTl; replace hb3 := Lib.hid hb3)
  go_ret2
  exact ⟨rfl, hTl.out, hb1.out.trans ((hb2.out.trans (hb3.out.mono hb2.out.size)).mono hb1.out.size)⟩
set_option maxRecDepth 100000 in
set_option maxHeartbeats 1000000 in
theorem pgoes_yes (f r a : Nat) (ps : List Int) (P : Option Addr) (c : Nat) (s : ByteArray) (A : Option Addr) (l : List At) (ca : Nat) (b : Bool) (w : World) (hP : RecAt pEnc 1 w w.heap.size P ps) (hR : RecAt aEnc 6 w w.heap.size A l) (hl : ps.length ≤ 100000) (hwf : ∀ x ∈ l, wfA x) (hla : l.length ≤ 100000) (hs : s.size ≤ maxLen) (h : Bd f r a ps) (hfy : okFy s l) (hpv : ∀ p ∈ ps, -15 ≤ p ∧ p ≤ 15) :
    Calls Tryd.prog 14 #[.agg #[.int .i64 (f : Int), .int .i64 (r : Int), .slice P ps.length c], .agg #[.string s, .slice A l.length ca], .int .i64 (a : Int), .bool b] w fun e w' => e = .returned (.tuple #[.int .u64 (keptN (fun p => p == 0) ps (orL (visP f r a ps b 2 l)) ps.length : Nat), .int .i64 0]) ∧ keptN (fun p => p == 0) ps (orL (visP f r a ps b 2 l)) ps.length < 18446744073709551616 ∧ Below w.heap.size w w' := by
  obtain ⟨u, hu⟩ : ∃ u, (w.alloc (.cells #[.int .i64 (f : Int), .int .i64 (r : Int), .slice P ps.length c] 48)).alloc (.cells #[.string s, .slice A l.length ca] 25) = u := ⟨_, rfl⟩
  have hbA : Below w.heap.size w (w.alloc (.cells #[.int .i64 (f : Int), .int .i64 (r : Int), .slice P ps.length c] 48)) := (Below.refl _ _).alloc (Nat.le_refl _) _
  have hbB : Below (w.alloc (.cells #[.int .i64 (f : Int), .int .i64 (r : Int), .slice P ps.length c] 48)).heap.size (w.alloc (.cells #[.int .i64 (f : Int), .int .i64 (r : Int), .slice P ps.length c] 48)) ((w.alloc (.cells #[.int .i64 (f : Int), .int .i64 (r : Int), .slice P ps.length c] 48)).alloc (.cells #[.string s, .slice A l.length ca] 25)) := (Below.refl _ _).alloc (Nat.le_refl _) _
  have e1 : (w.alloc (.cells #[.int .i64 (f : Int), .int .i64 (r : Int), .slice P ps.length c] 48)).heap.size = w.heap.size + 1 := by simp
  have hX0 : KBd u w.heap.size f r P ps.length c := hu ▸ (KBd.new w f r P ps.length c).next hbB
  have hF0 : KF u (w.heap.size + 1) s A l.length ca := by
    have h1 := KF.new (w.alloc (.cells #[.int .i64 (f : Int), .int .i64 (r : Int), .slice P ps.length c] 48)) s A l.length ca
    rw [e1] at h1
    exact hu ▸ h1
  have hb0 : Below w.heap.size w u := hu ▸ hbA.trans (hbB.mono hbA.size)
  have hX := Lib.hid hX0
  have hF := Lib.hid hF0
  have hb1 := Lib.hid hb0
  have hPH := Lib.hid (recs_next hP hb1.out)
  have hRH := Lib.hid (recs_next hR hb1.out)
  clear hbA hbB e1 hX0 hF0 hb0 hP hR
  have hck : Hid (∀ W, Below u.heap.size u W → Calls Tryd.prog 28 #[.agg #[.int .i64 (f : Int), .int .i64 (r : Int), .slice P ps.length c], .agg #[.string s, .slice A l.length ca], .int .i64 (a : Int)] W fun e w' => e = .returned (.int .i64 (if alB (f : Int) (r : Int) ps s l a then 0 else 2)) ∧ Below W.heap.size W w') := fun W h => pcheck f r ps P c s A l ca a W (recs_next hPH.out h) (recs_next hRH.out h) hl hwf hla hs
  rw [alB_yes (h.okAll hfy hpv)] at hck
  have hl64 : ps.length ≤ 64 := by rw [h.len]; exact Nat.mul_le_mul h.f1 h.r1
  have hsq : Hid (∀ W, Below u.heap.size u W → Calls Tryd.prog 30 #[.agg #[.int .i64 (f : Int), .int .i64 (r : Int), .slice P ps.length c], .agg #[.string s, .slice A l.length ca], .int .i64 (a : Int), .bool b, .int .i64 2] W fun e w' => e = .returned (.int .u64 (orL (visP f r a ps b 2 l) : Nat)) ∧ orL (visP f r a ps b 2 l) < 18446744073709551616 ∧ Below W.heap.size W w') := fun W hh => psquares f r a ps P c s A l ca b 2 W h (recs_next hPH.out hh) (recs_next hRH.out hh) (okFy_at hfy) (okFy_len hfy)
  obtain ⟨T, hT⟩ : ∃ T, orL (visP f r a ps b 2 l) = T := ⟨_, rfl⟩
  rw [hT] at hsq ⊢
  clear hT h hfy hpv hwf
  have eg : ∀ args w, (callFunc 31 args).run Tryd.prog w = .ok (.enter 31 args) w := enters_of Tryd.func31 (by kernel_rfl) rfl
  have hkp : Hid (∀ W, Below u.heap.size u W → T < 18446744073709551616 → Calls Tryd.prog 29 #[.agg #[.int .i64 (f : Int), .int .i64 (r : Int), .slice P ps.length c], .int .u64 (T : Int), .func (.func 31) #[] #[]] W fun e w' => e = .returned (.int .u64 (keptN (fun p => p == 0) ps T ps.length : Nat)) ∧ keptN (fun p => p == 0) ps T ps.length < 18446744073709551616 ∧ Below W.heap.size W w') := fun W hh ht => pkept f r ps P c T _ #[] (fun p => p == 0) W (recs_next hPH.out hh) hl64 ht eg (fun W2 p _ => pgoes1 p W2)
  generalize keptN (fun p => p == 0) ps T ps.length = K at *
  clear eg hPH hRH
  go_enter Tryd.func14, Tryd.ntmps14
  go_upto_region 1 with fail
  generalize w.heap.size = B0 at hX hF ⊢
  simp only [hu] at *
  clear hu
  obtain ⟨x0, x1, x2, _⟩ := hX.out
  obtain ⟨f0, f1, _⟩ := hF.out
  go_upto_region 4 with (go_at_call 28; refine (hck.out _ (Below.refl _ _)).mono ?_; rintro e w2 ⟨rfl, hb2⟩; replace hb2 := Lib.hid hb2; clear x0 x1 x2 f0 f1; obtain ⟨x0, x1, x2, _⟩ := hX.out.next hb2.out; obtain ⟨f0, f1, _⟩ := hF.out.next hb2.out)
  have hS : Hid (∀ W, Below u.heap.size u W → W.cell? ⟨B0, 0, none⟩ = some (.int .i64 (f : Int)) ∧ W.cell? ⟨B0, 1, none⟩ = some (.int .i64 (r : Int)) ∧ W.cell? ⟨B0, 2, none⟩ = some (.slice P ps.length c) ∧ W.cell? ⟨B0 + 1, 0, none⟩ = some (.string s) ∧ W.cell? ⟨B0 + 1, 1, none⟩ = some (.slice A l.length ca)) := fun W hh => by
    exact ⟨(hX.out.next hh).c0, (hX.out.next hh).c1, (hX.out.next hh).c2, (hF.out.next hh).c0, (hF.out.next hh).c1⟩
  clear x0 x1 x2 f0 f1
  refine wp_region_held_drew (S := fun W => W.cell? ⟨B0, 0, none⟩ = some (.int .i64 (f : Int)) ∧ W.cell? ⟨B0, 1, none⟩ = some (.int .i64 (r : Int)) ∧ W.cell? ⟨B0, 2, none⟩ = some (.slice P ps.length c) ∧ W.cell? ⟨B0 + 1, 0, none⟩ = some (.string s) ∧ W.cell? ⟨B0 + 1, 1, none⟩ = some (.slice A l.length ca)) (by kernel_rfl) (hS.out _ hb2.out.drew) (fun hHeld => ?_)
  refine wpAnyH_take (i := 0) (v := ?_) rfl (by kernel_rfl) (by kernel_rfl) (by kernel_rfl) (fun _ _ _ h => h) (Or.inl ⟨by rfl, ?_⟩) hHeld ?_
  rotate_left
  · intro W9 hSw; (try dsimp only at hSw); go_simp; (try with_reducible rfl)
  simp only [Act.put, List.getElem_toArray, List.getElem_cons_zero, List.getElem_cons_succ, List.setIfInBounds_toArray, List.set_cons_zero, List.set_cons_succ]
  refine wpAnyH_take (i := 1) (v := ?_) rfl (by kernel_rfl) (by kernel_rfl) (by kernel_rfl) (fun _ _ _ h => h) (Or.inl ⟨by rfl, ?_⟩) hHeld ?_
  rotate_left
  · intro W9 hSw; (try dsimp only at hSw); go_simp; (try with_reducible rfl)
  simp only [Act.put, List.getElem_toArray, List.getElem_cons_zero, List.getElem_cons_succ, List.setIfInBounds_toArray, List.set_cons_zero, List.set_cons_succ]
  refine wpAnyH_take (i := 2) (v := ?_) rfl (by kernel_rfl) (by kernel_rfl) (by kernel_rfl) (fun _ _ _ h => h) (Or.inl ⟨by rfl, ?_⟩) hHeld ?_
  rotate_left
  · intro W9 hSw; (try dsimp only at hSw); go_simp; (try with_reducible rfl)
  simp only [Act.put, List.getElem_toArray, List.getElem_cons_zero, List.getElem_cons_succ, List.setIfInBounds_toArray, List.set_cons_zero, List.set_cons_succ]
  refine wpAnyH_take (i := 3) (v := ?_) rfl (by kernel_rfl) (by kernel_rfl) (by kernel_rfl) (fun _ _ _ h => h) (Or.inl ⟨by rfl, ?_⟩) hHeld ?_
  rotate_left
  · intro W9 hSw; (try dsimp only at hSw); go_simp; (try with_reducible rfl)
  simp only [Act.put, List.getElem_toArray, List.getElem_cons_zero, List.getElem_cons_succ, List.setIfInBounds_toArray, List.set_cons_zero, List.set_cons_succ]
  refine wpAnyH_take (i := 4) (v := ?_) rfl (by kernel_rfl) (by kernel_rfl) (by kernel_rfl) (fun _ _ _ h => h) (Or.inl ⟨by rfl, ?_⟩) hHeld ?_
  rotate_left
  · intro W9 hSw; (try dsimp only at hSw); go_simp; (try with_reducible rfl)
  simp only [Act.put, List.getElem_toArray, List.getElem_cons_zero, List.getElem_cons_succ, List.setIfInBounds_toArray, List.set_cons_zero, List.set_cons_succ]
  refine wpAnyH_ready (rs := [5]) (by kernel_rfl) (by simp) ?_
  refine AllReadyH.cons rfl (fun K hK => ?_) AllReadyH.nil
  go_simp
  go_at_call 30
  refine (hsq.out _ hb2.out.drew).mono ?_
  rintro e w3 ⟨rfl, hTl, hb⟩
  have hb3 := Lib.hid (hb2.out.trans ((undrew hb).mono hb2.out.size))
  clear hb
  refine hK.out _ _ (hS.out _ hb3.out) (fun hHeld2 => ?_)
  clear hK K hHeld
  have hHeld := hHeld2
  clear hHeld2
  refine wpAnyH_ready (rs := [6]) (by kernel_rfl) (by simp) ?_
  refine AllReadyH.cons rfl (fun K hK => ?_) AllReadyH.nil
  go_simp
  go_at_call 29
  refine (hkp.out _ hb3.out hTl).mono ?_
  rintro e w4 ⟨rfl, hKl, hb⟩
  replace hKl := Lib.hid hKl
  have hb4 := Lib.hid (hb3.out.trans (hb.mono hb3.out.size))
  clear hb
  refine hK.out _ _ (hS.out _ hb4.out) (fun hHeld2 => ?_)
  clear hK K hHeld
  have hHeld := hHeld2
  clear hHeld2
  refine wpAnyH_take (i := 7) (v := ?_) rfl (by kernel_rfl) (by kernel_rfl) (by kernel_rfl) (fun _ _ _ h => h) (Or.inl ⟨by rfl, ?_⟩) hHeld ?_
  rotate_left
  · intro W9 hSw; (try dsimp only at hSw); go_simp; (try with_reducible rfl)
  simp only [Act.put, List.getElem_toArray, List.getElem_cons_zero, List.getElem_cons_succ, List.setIfInBounds_toArray, List.set_cons_zero, List.set_cons_succ]
  refine wpAnyH_take (i := 8) (v := ?_) rfl (by kernel_rfl) (by kernel_rfl) (by kernel_rfl) (fun _ _ _ h => h) (Or.inl ⟨by rfl, ?_⟩) hHeld ?_
  rotate_left
  · intro W9 hSw; (try dsimp only at hSw); go_simp; (try with_reducible rfl)
  simp only [Act.put, List.getElem_toArray, List.getElem_cons_zero, List.getElem_cons_succ, List.setIfInBounds_toArray, List.set_cons_zero, List.set_cons_succ]
  refine wpAnyH_done (by kernel_rfl) ?_ _
  go_wp2_with fail
  go_ret2
  exact ⟨rfl, hKl.out, hb1.out.trans (hb4.out.mono hb1.out.size)⟩
set_option maxRecDepth 100000 in
set_option maxHeartbeats 1000000 in
theorem ptakes_yes (f r a : Nat) (ps : List Int) (P : Option Addr) (c : Nat) (s : ByteArray) (A : Option Addr) (l : List At) (ca : Nat) (b : Bool) (w : World) (hP : RecAt pEnc 1 w w.heap.size P ps) (hR : RecAt aEnc 6 w w.heap.size A l) (hl : ps.length ≤ 100000) (hwf : ∀ x ∈ l, wfA x) (hla : l.length ≤ 100000) (hs : s.size ≤ maxLen) (h : Bd f r a ps) (hfy : okFy s l) (hpv : ∀ p ∈ ps, -15 ≤ p ∧ p ≤ 15) :
    Calls Tryd.prog 15 #[.agg #[.int .i64 (f : Int), .int .i64 (r : Int), .slice P ps.length c], .agg #[.string s, .slice A l.length ca], .int .i64 (a : Int), .bool b] w fun e w' => e = .returned (.tuple #[.int .u64 (keptN (enB b) ps (orL (visP f r a ps b 1 l)) ps.length : Nat), .int .i64 0]) ∧ keptN (enB b) ps (orL (visP f r a ps b 1 l)) ps.length < 18446744073709551616 ∧ Below w.heap.size w w' := by
  obtain ⟨u, hu⟩ : ∃ u, ((w.alloc (.cells #[.int .i64 (f : Int), .int .i64 (r : Int), .slice P ps.length c] 48)).alloc (.cells #[.string s, .slice A l.length ca] 25)).alloc (.cells #[.bool b] 4) = u := ⟨_, rfl⟩
  have hbA : Below w.heap.size w (w.alloc (.cells #[.int .i64 (f : Int), .int .i64 (r : Int), .slice P ps.length c] 48)) := (Below.refl _ _).alloc (Nat.le_refl _) _
  have hbB : Below (w.alloc (.cells #[.int .i64 (f : Int), .int .i64 (r : Int), .slice P ps.length c] 48)).heap.size (w.alloc (.cells #[.int .i64 (f : Int), .int .i64 (r : Int), .slice P ps.length c] 48)) ((w.alloc (.cells #[.int .i64 (f : Int), .int .i64 (r : Int), .slice P ps.length c] 48)).alloc (.cells #[.string s, .slice A l.length ca] 25)) := (Below.refl _ _).alloc (Nat.le_refl _) _
  have hbC : Below ((w.alloc (.cells #[.int .i64 (f : Int), .int .i64 (r : Int), .slice P ps.length c] 48)).alloc (.cells #[.string s, .slice A l.length ca] 25)).heap.size ((w.alloc (.cells #[.int .i64 (f : Int), .int .i64 (r : Int), .slice P ps.length c] 48)).alloc (.cells #[.string s, .slice A l.length ca] 25)) (((w.alloc (.cells #[.int .i64 (f : Int), .int .i64 (r : Int), .slice P ps.length c] 48)).alloc (.cells #[.string s, .slice A l.length ca] 25)).alloc (.cells #[.bool b] 4)) := (Below.refl _ _).alloc (Nat.le_refl _) _
  have e1 : (w.alloc (.cells #[.int .i64 (f : Int), .int .i64 (r : Int), .slice P ps.length c] 48)).heap.size = w.heap.size + 1 := by simp
  have e2 : ((w.alloc (.cells #[.int .i64 (f : Int), .int .i64 (r : Int), .slice P ps.length c] 48)).alloc (.cells #[.string s, .slice A l.length ca] 25)).heap.size = w.heap.size + 1 + 1 := by simp
  have hX0 : KBd u w.heap.size f r P ps.length c := hu ▸ ((KBd.new w f r P ps.length c).next hbB).next hbC
  have hF0 : KF u (w.heap.size + 1) s A l.length ca := by
    have h1 := (KF.new (w.alloc (.cells #[.int .i64 (f : Int), .int .i64 (r : Int), .slice P ps.length c] 48)) s A l.length ca).next hbC
    rw [e1] at h1
    exact hu ▸ h1
  have hQ0 : C1 u (w.heap.size + 1 + 1) (.bool b) := by
    have h1 := C1.new ((w.alloc (.cells #[.int .i64 (f : Int), .int .i64 (r : Int), .slice P ps.length c] 48)).alloc (.cells #[.string s, .slice A l.length ca] 25)) (.bool b) 4
    rw [e2] at h1
    exact hu ▸ h1
  have hb0 : Below w.heap.size w u := hu ▸ (hbA.trans ((hbB.mono hbA.size).trans (hbC.mono (Nat.le_trans hbA.size hbB.size))))
  have hX := Lib.hid hX0
  have hF := Lib.hid hF0
  have hQ := Lib.hid hQ0
  have hb1 := Lib.hid hb0
  have hPH := Lib.hid (recs_next hP hb1.out)
  have hRH := Lib.hid (recs_next hR hb1.out)
  clear hbA hbB hbC e1 e2 hX0 hF0 hQ0 hb0 hP hR
  have hck : Hid (∀ W, Below u.heap.size u W → Calls Tryd.prog 28 #[.agg #[.int .i64 (f : Int), .int .i64 (r : Int), .slice P ps.length c], .agg #[.string s, .slice A l.length ca], .int .i64 (a : Int)] W fun e w' => e = .returned (.int .i64 (if alB (f : Int) (r : Int) ps s l a then 0 else 2)) ∧ Below W.heap.size W w') := fun W h => pcheck f r ps P c s A l ca a W (recs_next hPH.out h) (recs_next hRH.out h) hl hwf hla hs
  rw [alB_yes (h.okAll hfy hpv)] at hck
  have hl64 : ps.length ≤ 64 := by rw [h.len]; exact Nat.mul_le_mul h.f1 h.r1
  have hsq : Hid (∀ W, Below u.heap.size u W → Calls Tryd.prog 30 #[.agg #[.int .i64 (f : Int), .int .i64 (r : Int), .slice P ps.length c], .agg #[.string s, .slice A l.length ca], .int .i64 (a : Int), .bool b, .int .i64 1] W fun e w' => e = .returned (.int .u64 (orL (visP f r a ps b 1 l) : Nat)) ∧ orL (visP f r a ps b 1 l) < 18446744073709551616 ∧ Below W.heap.size W w') := fun W hh => psquares f r a ps P c s A l ca b 1 W h (recs_next hPH.out hh) (recs_next hRH.out hh) (okFy_at hfy) (okFy_len hfy)
  obtain ⟨T, hT⟩ : ∃ T, orL (visP f r a ps b 1 l) = T := ⟨_, rfl⟩
  rw [hT] at hsq ⊢
  clear hT h hfy hpv hwf
  have eg : ∀ args w, (callFunc 32 args).run Tryd.prog w = .ok (.enter 32 args) w := enters_of Tryd.func32 (by kernel_rfl) rfl
  have hkp : Hid (∀ W, Below u.heap.size u W → T < 18446744073709551616 → Calls Tryd.prog 29 #[.agg #[.int .i64 (f : Int), .int .i64 (r : Int), .slice P ps.length c], .int .u64 (T : Int), .func (.func 32) #[] #[.pointer (some ⟨w.heap.size + 1 + 1, 0, none⟩)]] W fun e w' => e = .returned (.int .u64 (keptN (enB b) ps T ps.length : Nat)) ∧ keptN (enB b) ps T ps.length < 18446744073709551616 ∧ Below W.heap.size W w') := fun W hh ht => pkept f r ps P c T _ #[.pointer (some ⟨w.heap.size + 1 + 1, 0, none⟩)] (enB b) W (recs_next hPH.out hh) hl64 ht eg (fun W2 p h2 => ptakes1 p b _ W2 ((hQ.out.next hh).next h2).c)
  generalize keptN (enB b) ps T ps.length = K at *
  clear eg hPH hRH
  go_enter Tryd.func15, Tryd.ntmps15
  go_upto_region 1 with fail
  generalize w.heap.size = B0 at hX hF hQ hkp ⊢
  simp only [hu] at *
  clear hu
  obtain ⟨x0, x1, x2, _⟩ := hX.out
  obtain ⟨f0, f1, _⟩ := hF.out
  have q0 := hQ.out.c
  go_upto_region 4 with (go_at_call 28; refine (hck.out _ (Below.refl _ _)).mono ?_; rintro e w2 ⟨rfl, hb2⟩; replace hb2 := Lib.hid hb2; clear x0 x1 x2 f0 f1 q0; obtain ⟨x0, x1, x2, _⟩ := hX.out.next hb2.out; obtain ⟨f0, f1, _⟩ := hF.out.next hb2.out; have q0 := (hQ.out.next hb2.out).c)
  have hS : Hid (∀ W, Below u.heap.size u W → W.cell? ⟨B0, 0, none⟩ = some (.int .i64 (f : Int)) ∧ W.cell? ⟨B0, 1, none⟩ = some (.int .i64 (r : Int)) ∧ W.cell? ⟨B0, 2, none⟩ = some (.slice P ps.length c) ∧ W.cell? ⟨B0 + 1, 0, none⟩ = some (.string s) ∧ W.cell? ⟨B0 + 1, 1, none⟩ = some (.slice A l.length ca) ∧ W.cell? ⟨B0 + 1 + 1, 0, none⟩ = some (.bool b)) := fun W hh => by
    exact ⟨(hX.out.next hh).c0, (hX.out.next hh).c1, (hX.out.next hh).c2, (hF.out.next hh).c0, (hF.out.next hh).c1, (hQ.out.next hh).c⟩
  clear x0 x1 x2 f0 f1 q0
  refine wp_region_held_drew (S := fun W => W.cell? ⟨B0, 0, none⟩ = some (.int .i64 (f : Int)) ∧ W.cell? ⟨B0, 1, none⟩ = some (.int .i64 (r : Int)) ∧ W.cell? ⟨B0, 2, none⟩ = some (.slice P ps.length c) ∧ W.cell? ⟨B0 + 1, 0, none⟩ = some (.string s) ∧ W.cell? ⟨B0 + 1, 1, none⟩ = some (.slice A l.length ca) ∧ W.cell? ⟨B0 + 1 + 1, 0, none⟩ = some (.bool b)) (by kernel_rfl) (hS.out _ hb2.out.drew) (fun hHeld => ?_)
  refine wpAnyH_take (i := 0) (v := ?_) rfl (by kernel_rfl) (by kernel_rfl) (by kernel_rfl) (fun _ _ _ h => h) (Or.inl ⟨by rfl, ?_⟩) hHeld ?_
  rotate_left
  · intro W9 hSw; (try dsimp only at hSw); go_simp; (try with_reducible rfl)
  simp only [Act.put, List.getElem_toArray, List.getElem_cons_zero, List.getElem_cons_succ, List.setIfInBounds_toArray, List.set_cons_zero, List.set_cons_succ]
  refine wpAnyH_take (i := 1) (v := ?_) rfl (by kernel_rfl) (by kernel_rfl) (by kernel_rfl) (fun _ _ _ h => h) (Or.inl ⟨by rfl, ?_⟩) hHeld ?_
  rotate_left
  · intro W9 hSw; (try dsimp only at hSw); go_simp; (try with_reducible rfl)
  simp only [Act.put, List.getElem_toArray, List.getElem_cons_zero, List.getElem_cons_succ, List.setIfInBounds_toArray, List.set_cons_zero, List.set_cons_succ]
  refine wpAnyH_take (i := 2) (v := ?_) rfl (by kernel_rfl) (by kernel_rfl) (by kernel_rfl) (fun _ _ _ h => h) (Or.inl ⟨by rfl, ?_⟩) hHeld ?_
  rotate_left
  · intro W9 hSw; (try dsimp only at hSw); go_simp; (try with_reducible rfl)
  simp only [Act.put, List.getElem_toArray, List.getElem_cons_zero, List.getElem_cons_succ, List.setIfInBounds_toArray, List.set_cons_zero, List.set_cons_succ]
  refine wpAnyH_take (i := 3) (v := ?_) rfl (by kernel_rfl) (by kernel_rfl) (by kernel_rfl) (fun _ _ _ h => h) (Or.inl ⟨by rfl, ?_⟩) hHeld ?_
  rotate_left
  · intro W9 hSw; (try dsimp only at hSw); go_simp; (try with_reducible rfl)
  simp only [Act.put, List.getElem_toArray, List.getElem_cons_zero, List.getElem_cons_succ, List.setIfInBounds_toArray, List.set_cons_zero, List.set_cons_succ]
  refine wpAnyH_take (i := 4) (v := ?_) rfl (by kernel_rfl) (by kernel_rfl) (by kernel_rfl) (fun _ _ _ h => h) (Or.inl ⟨by rfl, ?_⟩) hHeld ?_
  rotate_left
  · intro W9 hSw; (try dsimp only at hSw); go_simp; (try with_reducible rfl)
  simp only [Act.put, List.getElem_toArray, List.getElem_cons_zero, List.getElem_cons_succ, List.setIfInBounds_toArray, List.set_cons_zero, List.set_cons_succ]
  refine wpAnyH_take (i := 6) (v := ?_) rfl (by kernel_rfl) (by kernel_rfl) (by kernel_rfl) (fun _ _ _ h => h) (Or.inl ⟨by rfl, ?_⟩) hHeld ?_
  rotate_left
  · intro W9 hSw; (try dsimp only at hSw); go_simp; (try with_reducible rfl)
  simp only [Act.put, List.getElem_toArray, List.getElem_cons_zero, List.getElem_cons_succ, List.setIfInBounds_toArray, List.set_cons_zero, List.set_cons_succ]
  refine wpAnyH_ready (rs := [5]) (by kernel_rfl) (by simp) ?_
  refine AllReadyH.cons rfl (fun K hK => ?_) AllReadyH.nil
  go_simp
  go_at_call 30
  refine (hsq.out _ hb2.out.drew).mono ?_
  rintro e w3 ⟨rfl, hTl, hb⟩
  have hb3 := Lib.hid (hb2.out.trans ((undrew hb).mono hb2.out.size))
  clear hb
  refine hK.out _ _ (hS.out _ hb3.out) (fun hHeld2 => ?_)
  clear hK K hHeld
  have hHeld := hHeld2
  clear hHeld2
  refine wpAnyH_ready (rs := [7]) (by kernel_rfl) (by simp) ?_
  refine AllReadyH.cons rfl (fun K hK => ?_) AllReadyH.nil
  go_simp
  go_at_call 29
  refine (hkp.out _ hb3.out hTl).mono ?_
  rintro e w4 ⟨rfl, hKl, hb⟩
  replace hKl := Lib.hid hKl
  have hb4 := Lib.hid (hb3.out.trans (hb.mono hb3.out.size))
  clear hb
  refine hK.out _ _ (hS.out _ hb4.out) (fun hHeld2 => ?_)
  clear hK K hHeld
  have hHeld := hHeld2
  clear hHeld2
  refine wpAnyH_take (i := 8) (v := ?_) rfl (by kernel_rfl) (by kernel_rfl) (by kernel_rfl) (fun _ _ _ h => h) (Or.inl ⟨by rfl, ?_⟩) hHeld ?_
  rotate_left
  · intro W9 hSw; (try dsimp only at hSw); go_simp; (try with_reducible rfl)
  simp only [Act.put, List.getElem_toArray, List.getElem_cons_zero, List.getElem_cons_succ, List.setIfInBounds_toArray, List.set_cons_zero, List.set_cons_succ]
  refine wpAnyH_take (i := 9) (v := ?_) rfl (by kernel_rfl) (by kernel_rfl) (by kernel_rfl) (fun _ _ _ h => h) (Or.inl ⟨by rfl, ?_⟩) hHeld ?_
  rotate_left
  · intro W9 hSw; (try dsimp only at hSw); go_simp; (try with_reducible rfl)
  simp only [Act.put, List.getElem_toArray, List.getElem_cons_zero, List.getElem_cons_succ, List.setIfInBounds_toArray, List.set_cons_zero, List.set_cons_succ]
  refine wpAnyH_done (by kernel_rfl) ?_ _
  go_wp2_with fail
  go_ret2
  exact ⟨rfl, hKl.out, hb1.out.trans (hb4.out.mono hb1.out.size)⟩
end Go.Proofs.YtbcdimklblpdnaaDoor
