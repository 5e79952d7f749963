/- Layer 27: the text of a fairy piece, plain; Text of the reference. -/
import Derived.Test.YtbcdimklblpdnaaGreatDoorZa
namespace Go.Proofs.YtbcdimklblpdnaaGreatDoor
open Go Go.RowKit
set_option linter.unusedSimpArgs false
set_option linter.unusedVariables false
theorem bs_of (s : ByteArray) : bsB s.data.toList = s := by
  unfold bsB
  rfl
theorem bs_ex (s : ByteArray) : ∃ l, s = bsB l := ⟨_, (bs_of s).symm⟩
instance : Inhabited At := ⟨⟨0, 0, 0, 0, 0, 0⟩⟩
/-- the texts of the first atoms with what is between them -/
def plusK (l : List At) : Nat → List UInt8
  | 0 => []
  | k + 1 => plusK l k ++ (if 0 < k then [43] else []) ++ atB (l.getD k default)
/-- the text of a fairy piece -/
def txL (nm : List UInt8) (l : List At) : List UInt8 := nm ++ [32] ++ plusK l l.length
theorem atB_len (x : At) : (atB x).length ≤ 7 := by
  unfold atB
  have h1 := modB_len x.mode
  have h2 := wayB_len x.way
  simp only [List.length_append, List.length_cons, List.length_nil]
  split <;> simp <;> omega
theorem plusK_len (l : List At) : ∀ k, (plusK l k).length ≤ 8 * k
  | 0 => Nat.le_refl _
  | k + 1 => by
    have ih := plusK_len l k
    have h1 := atB_len (l.getD k default)
    unfold plusK
    generalize atB (l.getD k default) = z at *
    simp only [List.length_append]
    split <;> simp <;> omega
theorem givV_len {nm : List UInt8} (h : PC.givV (bsB nm) = true) : 1 ≤ nm.length ∧ nm.length ≤ 32 := by
  unfold PC.givV at h
  obtain ⟨_, h2⟩ := Bool.and_eq_true_iff.1 h
  have h3 := of_decide_eq_true h2
  rw [bs_size] at h3
  exact h3
theorem fy_at {s : ByteArray} {l : List At} (h : okFy s l) {k : Nat} {x : At} (hx : l[k]? = some x) : okA x := (h.1.1 k x (List.getElem?_eq_some_iff.1 hx).1 hx).1
set_option maxRecDepth 100000 in
set_option maxHeartbeats 1000000 in
theorem rtext_no (s : ByteArray) (A : Option Addr) (l : List At) (ca : Nat) (w : World) (hR : RecAt aEnc 6 w w.heap.size A l) (hla : l.length ≤ 100000) (hs : s.size ≤ maxLen) (hno : ¬ okFy s l) :
    Calls Tryz.prog 23 #[.agg #[.string s, .slice A l.length ca]] w fun e w' => e = .returned (.tuple #[.string ⟨#[]⟩, .int .i64 2]) ∧ Below w.heap.size w w' := by
  have hF := Lib.hid (KF.new w s A l.length ca)
  have hb1 : Hid (Below w.heap.size w (w.alloc (.cells #[.string s, .slice A l.length ca] 43))) := (Below.refl _ _).alloc (Nat.le_refl _) _
  have hRH := Lib.hid (recs_next hR hb1.out)
  have hV := Lib.hid (rvalid s A l ca (w.alloc (.cells #[.string s, .slice A l.length ca] 43)) hRH.out hla hs)
  rw [fyB_no hno] at hV
  clear hno hR
  go_enter Tryz.func23, Tryz.ntmps23
  go_upto_region 1 with fail
  generalize w.heap.size = B0 at hF ⊢
  generalize w.alloc (.cells #[.string s, .slice A l.length ca] 43) = u at *
  obtain ⟨f0, f1, _⟩ := hF.out
  go_wp2_with (go_at_call 26; refine hV.out.mono ?_; rintro e w2 ⟨rfl, hb2⟩; replace hb2 := Lib.hid hb2)
  go_ret2
  exact ⟨rfl, hb1.out.trans (hb2.out.mono hb1.out.size)⟩
set_option maxRecDepth 100000 in
set_option maxHeartbeats 1000000 in
theorem rtext_yes (nm : List UInt8) (A : Option Addr) (l : List At) (ca : Nat) (w : World) (hR : RecAt aEnc 6 w w.heap.size A l) (hok : okFy (bsB nm) l) :
    Calls Tryz.prog 23 #[.agg #[.string (bsB nm), .slice A l.length ca]] w fun e w' => e = .returned (.tuple #[.string (bsB (txL nm l)), .int .i64 0]) ∧ Below w.heap.size w w' := by
  have hF := Lib.hid (KF.new w (bsB nm) A l.length ca)
  have hb1 : Hid (Below w.heap.size w (w.alloc (.cells #[.string (bsB nm), .slice A l.length ca] 43))) := (Below.refl _ _).alloc (Nat.le_refl _) _
  have hRH := Lib.hid (recs_next hR hb1.out)
  have hnl := (givV_len hok.2).2
  have hl8 : l.length ≤ 8 := hok.1.2.2
  have hV := Lib.hid (rvalid (bsB nm) A l ca (w.alloc (.cells #[.string (bsB nm), .slice A l.length ca] 43)) hRH.out (by omega) (by rw [bs_size]; unfold maxLen; omega))
  rw [fyB_yes hok] at hV
  have hokH := Lib.hid hok
  have htx : Hid (txL nm l = nm ++ [32] ++ plusK l l.length) := rfl
  have hst : Hid (∀ (k : Nat) (x : At), l[k]? = some x → plusK l (k + 1) = plusK l k ++ (if 0 < k then [43] else []) ++ atB x) := fun k x hx => by
    show plusK l k ++ (if 0 < k then [43] else []) ++ atB (l.getD k default) = _
    rw [List.getD_eq_getElem?_getD, hx]; rfl
  have hpl := Lib.hid (fun k => plusK_len l k)
  clear hR hok
  have happ := bs_app
  have hbsz := bs_size
  have h32 : (ByteArray.mk #[32]) = bsB [32] := rfl
  have z0 : (9223372036854775807 < nm.length + 1) = False := eq_false (by omega)
  go_enter Tryz.func23, Tryz.ntmps23
  go_upto_region 1 with fail
  generalize w.heap.size = B0 at hF ⊢
  generalize w.alloc (.cells #[.string (bsB nm), .slice A l.length ca] 43) = u at *
  obtain ⟨f0, f1, _⟩ := hF.out
  go_upto_region 3 with (go_at_call 26; refine hV.out.mono ?_; rintro e w2 ⟨rfl, hb2⟩; replace hb2 := Lib.hid hb2; clear f0 f1; obtain ⟨f0, f1, _⟩ := hF.out.next hb2.out)
  go_wp2_with fail
  clear f0 f1 hV z0 h32
  obtain ⟨T0, hT0⟩ : ∃ T0, nm ++ [32] = T0 := ⟨_, rfl⟩
  have hT3 : T0.length ≤ 33 := by rw [← hT0]; simp; omega
  rw [hT0] at htx ⊢
  clear hT0
  go_loopw [4, 5] (fun s4 i wr => ∃ (k : Nat), k ≤ l.length ∧ i = .int .i64 (k : Int) ∧ s4 = .string (bsB (T0 ++ plusK l k)) ∧ Hid (Below u.heap.size u wr)) (fun _ i _ => l.length - (intOf i).toNat)
  case atStart => exact ⟨0, by omega, rfl, by show _ = Value.string (bsB (T0 ++ [])); rw [List.append_nil], hb2.out⟩
  case round =>
    clear hb2
    obtain ⟨k, hk, rfl, rfl, hB⟩ := hrel
    have hk0 : (0 : Int) ≤ (k : Int) := Int.natCast_nonneg _
    obtain ⟨f0, f1, _⟩ := hF.out.next hB.out
    by_cases hkl : k < l.length
    rotate_left
    · obtain rfl : k = l.length := by omega
      have hfin : Hid (T0 ++ plusK l l.length = txL nm l) := htx.out.symm
      go_wp2_with fail
      go_ret2
      exact ⟨by rw [← hfin.out]; rfl, hb1.out.trans (hB.out.mono hb1.out.size)⟩
    have hkI : (k : Int) < (l.length : Int) := by omega
    obtain ⟨x, hx⟩ : ∃ x, l[k]? = some x := ⟨_, List.getElem?_eq_getElem hkl⟩
    have hxo : Hid (okA x) := fy_at hokH.out hx
    obtain ⟨ba, oa, rfl, hba, hat0⟩ := atoms6_of hRH.out hx
    obtain ⟨g0, g1, g2, g3, g4, g5⟩ := hat0.next hba hB.out
    have hse := Lib.hid (hst.out k x hx)
    have hlp := hpl.out k
    have hla := atB_len x
    obtain ⟨Pk, hPk⟩ : ∃ Pk, plusK l k = Pk := ⟨_, rfl⟩
    rw [hPk] at hse hlp ⊢
    obtain ⟨ax, hax⟩ : ∃ ax, atB x = ax := ⟨_, rfl⟩
    have hca : Hid (∀ W, Calls Tryz.prog 52 #[aV x] W fun e w' => e = .returned (.string (bsB ax)) ∧ Below W.heap.size W w') := fun W => hax ▸ ratom x W hxo.out
    rw [hax] at hse hla
    have h43 : (ByteArray.mk #[43]) = bsB [43] := rfl
    clear hx hat0 hPk hax
    by_cases hk1 : 0 < k
    · have q1 : ((0 : Int) < (k : Int)) = True := eq_true (by omega)
      rw [if_pos hk1] at hse
      have z1 : (9223372036854775807 < T0.length + Pk.length + 1) = False := eq_false (by omega)
      have z2 : (9223372036854775807 < T0.length + (Pk.length + 1)) = False := eq_false (by omega)
      have z3 : (9223372036854775807 < T0.length + (Pk.length + 1) + ax.length) = False := eq_false (by omega)
      have z4 : (9223372036854775807 < T0.length + Pk.length + 1 + ax.length) = False := eq_false (by omega)
      go_wp2_with (go_at_call 52; refine (hca.out _).mono ?_; rintro e w3 ⟨rfl, hb3⟩; have hB3 := Lib.hid (hB.out.trans (hb3.mono hB.out.size)); clear hb3)
      go_roundw
      case rel => exact ⟨k + 1, by omega, by go_num, by rw [hse.out] <;> simp [List.append_assoc], hB3⟩
      case measure => simp [intOf]; omega
    · have q1 : ((0 : Int) < (k : Int)) = False := eq_false (by omega)
      rw [if_neg hk1, List.append_nil] at hse
      have z2 : (9223372036854775807 < T0.length + Pk.length + ax.length) = False := eq_false (by omega)
      go_wp2_with (go_at_call 52; refine (hca.out _).mono ?_; rintro e w3 ⟨rfl, hb3⟩; have hB3 := Lib.hid (hB.out.trans (hb3.mono hB.out.size)); clear hb3)
      go_roundw
      case rel => exact ⟨k + 1, by omega, by go_num, by rw [hse.out] <;> simp [List.append_assoc], hB3⟩
      case measure => simp [intOf]; omega
end Go.Proofs.YtbcdimklblpdnaaGreatDoor
