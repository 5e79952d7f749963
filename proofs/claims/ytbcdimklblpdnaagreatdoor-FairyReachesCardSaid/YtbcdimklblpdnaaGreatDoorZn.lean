/- Layer 27: the usual pieces of program and reference. -/
import Derived.Test.YtbcdimklblpdnaaGreatDoorZm
namespace Go.Proofs.YtbcdimklblpdnaaGreatDoor
open Go Go.RowKit
set_option linter.unusedSimpArgs false
set_option linter.unusedVariables false
/-- the usual pieces: name and atoms -/
def uNm (k : Int) : List UInt8 := if k = 2 then [107, 110, 105, 103, 104, 116] else if k = 3 then [98, 105, 115, 104, 111, 112] else if k = 4 then [114, 111, 111, 107] else if k = 5 then [113, 117, 101, 101, 110] else if k = 6 then [107, 105, 110, 103] else []
def uAt (k : Int) : List At := if k = 2 then [⟨1, 1, 2, 0, 0, 0⟩] else if k = 3 then [⟨2, 1, 1, 0, 0, 0⟩] else if k = 4 then [⟨2, 0, 1, 0, 0, 0⟩] else if k = 5 then [⟨2, 0, 1, 0, 0, 0⟩, ⟨2, 1, 1, 0, 0, 0⟩] else if k = 6 then [⟨1, 0, 1, 0, 0, 0⟩, ⟨1, 1, 1, 0, 0, 0⟩] else []
theorem us_ok {k : Int} (h1 : 2 ≤ k) (h2 : k ≤ 6) : okFy (bsB (uNm k)) (uAt k) := by
  rcases (by omega : k = 2 ∨ k = 3 ∨ k = 4 ∨ k = 5 ∨ k = 6) with rfl | rfl | rfl | rfl | rfl <;> exact okFy_of (by decide +kernel) (by decide +kernel) (by decide) (by kernel_rfl)
theorem us_par2 : parR [107, 110, 105, 103, 104, 116, 32, 76, 49, 50] = some ([107, 110, 105, 103, 104, 116], [⟨1, 1, 2, 0, 0, 0⟩]) := (parR_iff _ _ _).2 ⟨us_ok (k := 2) (by decide) (by decide), by decide +kernel⟩
theorem us_par3 : parR [98, 105, 115, 104, 111, 112, 32, 82, 49, 49] = some ([98, 105, 115, 104, 111, 112], [⟨2, 1, 1, 0, 0, 0⟩]) := (parR_iff _ _ _).2 ⟨us_ok (k := 3) (by decide) (by decide), by decide +kernel⟩
theorem us_par4 : parR [114, 111, 111, 107, 32, 82, 48, 49] = some ([114, 111, 111, 107], [⟨2, 0, 1, 0, 0, 0⟩]) := (parR_iff _ _ _).2 ⟨us_ok (k := 4) (by decide) (by decide), by decide +kernel⟩
theorem us_par5 : parR [113, 117, 101, 101, 110, 32, 82, 48, 49, 43, 82, 49, 49] = some ([113, 117, 101, 101, 110], [⟨2, 0, 1, 0, 0, 0⟩, ⟨2, 1, 1, 0, 0, 0⟩]) := (parR_iff _ _ _).2 ⟨us_ok (k := 5) (by decide) (by decide), by decide +kernel⟩
theorem us_par6 : parR [107, 105, 110, 103, 32, 76, 48, 49, 43, 76, 49, 49] = some ([107, 105, 110, 103], [⟨1, 0, 1, 0, 0, 0⟩, ⟨1, 1, 1, 0, 0, 0⟩]) := (parR_iff _ _ _).2 ⟨us_ok (k := 6) (by decide) (by decide), by decide +kernel⟩
set_option maxRecDepth 100000 in
set_option maxHeartbeats 1000000 in
theorem pusual_2 (w : World) (m0 : Int) (hM : MX w m0) (hK : PC.KindsAt w) (hg : 3 < w.heap.size) : Calls Tryz.prog 19 #[.int .i8 2] w fun e w' => PaR (some ([107, 110, 105, 103, 104, 116], [⟨1, 1, 2, 0, 0, 0⟩])) e w w' := by
  have hR0 := Lib.hid (B2.new w (.string ⟨#[]⟩) (.slice none 0 0) 43)
  have hI0 := Lib.hid (NoI.new w ⟨#[]⟩ none 0 0 43)
  have hbX : Hid (Below w.heap.size w (w.alloc (.cells #[.string ⟨#[]⟩, .slice none 0 0] 43))) := (Below.refl _ _).alloc (Nat.le_refl _) _
  have hMu := Lib.hid (hM.next hbX.out)
  have hKu := Lib.hid (hK.below hg hbX.out)
  obtain ⟨nm, hnm⟩ : ∃ nm : List UInt8, [107, 110, 105, 103, 104, 116] = nm := ⟨_, rfl⟩
  obtain ⟨at_, hat⟩ : ∃ at_ : List UInt8, [76, 49, 50] = at_ := ⟨_, rfl⟩
  obtain ⟨l, hl⟩ : ∃ l : List At, [⟨1, 1, 2, 0, 0, 0⟩] = l := ⟨_, rfl⟩
  have hp : parR (nm ++ 32 :: at_) = some (nm, l) := by rw [← hnm, ← hat, ← hl]; exact us_par2
  have hnl : nm.length = 6 := by rw [← hnm]; rfl
  have hal : at_.length = 3 := by rw [← hat]; rfl
  have hpc := Lib.hid (fun W hM => pparse_is (s := nm ++ 32 :: at_) W m0 hM (by rw [List.length_append, List.length_cons]; omega) hp)
  have hname : Hid (∀ W, PC.KindsAt W → Calls Tryz.prog 48 #[.int .i8 2] W fun e w' => e = .returned (.tuple #[.string (bsB nm), .int .i64 0]) ∧ W = w') := fun W h => by
    rw [← hnm]
    exact PC.pname_yes 2 W h (by decide) (by decide)
  have hlit : (ByteArray.mk #[76, 49, 50]) = bsB at_ := by rw [← hat]; rfl
  have h32 : (ByteArray.mk #[32]) = bsB [32] := rfl
  have hLn : Hid ([⟨1, 1, 2, 0, 0, 0⟩] = l) := hl
  have hNn : Hid ([107, 110, 105, 103, 104, 116] = nm) := hnm
  have happ := bs_app
  have hbsz := bs_size
  have z0 : (9223372036854775807 < nm.length + 1) = False := eq_false (by omega)
  have z1 : (9223372036854775807 < nm.length + 1 + at_.length) = False := eq_false (by omega)
  rw [hl, hnm]
  clear hp hnm hat hl hM hK hnl hal
  go_enter Tryz.func19, Tryz.ntmps19
  go_upto_region 1 with fail
  obtain ⟨BR, hBR⟩ : ∃ BR, w.heap.size = BR := ⟨_, rfl⟩
  rw [hBR] at hR0 hI0
  simp only [hBR]
  have hBRH : Hid (w.heap.size = BR) := hBR
  clear hBR
  generalize w.alloc (.cells #[.string ⟨#[]⟩, .slice none 0 0] 43) = u at *
  go_upto_region 17 with (go_at_call 48; refine (hname.out _ hKu.out).mono ?_; rintro e w1 ⟨rfl, rfl⟩)
  go_wp2_with fail
  go_at_call 24
  refine (hpc.out _ hMu.out).mono ?_
  rintro e w2 ⟨A, c, rfl, hRc, hb2⟩
  replace hRc := Lib.hid hRc
  have hR2 := Lib.hid (hR0.out.next hb2)
  have hI2 := Lib.hid (hI0.out.next hR0.out.lt hb2)
  have hbw2 : Hid (Below w.heap.size w w2) := hbX.out.trans (hb2.mono hbX.out.size)
  clear hb2 hR0 hI0 hpc h32 hlit happ hbsz z0 z1 hbX hname
  have hset : Hid (B2 ((w2.setCell ⟨BR, 0, none⟩ (.string (bsB nm))).setCell ⟨BR, 1, none⟩ (.slice A l.length c)) BR (.string (bsB nm)) (.slice A l.length c)) := (hR2.out.set0 _).set1 _
  have hbz : Hid (Below w.heap.size w ((w2.setCell ⟨BR, 0, none⟩ (.string (bsB nm))).setCell ⟨BR, 1, none⟩ (.slice A l.length c))) := (hbw2.out.setCell (p := ⟨BR, 0, none⟩) (by show w.heap.size ≤ BR; have := hBRH.out; omega) _).setCell (p := ⟨BR, 1, none⟩) (by show w.heap.size ≤ BR; have := hBRH.out; omega) _
  have hrc : Hid (RecAt aEnc 6 ((w2.setCell ⟨BR, 0, none⟩ (.string (bsB nm))).setCell ⟨BR, 1, none⟩ (.slice A l.length c)) ((w2.setCell ⟨BR, 0, none⟩ (.string (bsB nm))).setCell ⟨BR, 1, none⟩ (.slice A l.length c)).heap.size A l) := by
    have := hI2.out.both hR2.out hRc.out (bsB nm) (.slice A l.length c)
    rw [nblk_set, nblk_set]
    exact this
  obtain ⟨r0, r1, rf0, rf1, _⟩ := hR2.out
  go_wp2_with fail
  refine bodyPost_ret (v := .tuple #[.agg #[.string (bsB nm), .slice A l.length c], .int .i64 0]) ?hres rfl ?hfin
  case hfin => exact ⟨(fun h => by cases h), (fun nm2 l2 h => by cases h; exact ⟨A, c, rfl, hrc.out⟩), hbz.out⟩
  case hres =>
    have k0 := hset.out.c0
    have k1 := hset.out.c1
    generalize ((w2.setCell ⟨BR, 0, none⟩ (.string (bsB nm))).setCell ⟨BR, 1, none⟩ (.slice A l.length c)) = wz at *
    simp [results, Tryz.results19, go_sem, k0, k1]
set_option maxRecDepth 100000 in
set_option maxHeartbeats 1000000 in
theorem rusual_2 (w : World) : Calls Tryz.prog 20 #[.int .i64 2] w fun e w' => PaR (some ([107, 110, 105, 103, 104, 116], [⟨1, 1, 2, 0, 0, 0⟩])) e w w' := by
  have hR0 := Lib.hid (B2.new w (.string ⟨#[]⟩) (.slice none 0 0) 43)
  have hI0 := Lib.hid (NoI.new w ⟨#[]⟩ none 0 0 43)
  have hbX : Hid (Below w.heap.size w (w.alloc (.cells #[.string ⟨#[]⟩, .slice none 0 0] 43))) := (Below.refl _ _).alloc (Nat.le_refl _) _
  obtain ⟨nm, hnm⟩ : ∃ nm : List UInt8, [107, 110, 105, 103, 104, 116] = nm := ⟨_, rfl⟩
  obtain ⟨l, hl⟩ : ∃ l : List At, [⟨1, 1, 2, 0, 0, 0⟩] = l := ⟨_, rfl⟩
  have hp : parR [107, 110, 105, 103, 104, 116, 32, 76, 49, 50] = some (nm, l) := by rw [← hnm, ← hl]; exact us_par2
  have hpc : Hid (∀ W, Calls Tryz.prog 49 #[.string ⟨#[107, 110, 105, 103, 104, 116, 32, 76, 49, 50]⟩] W fun e w' => ∃ A c, e = .returned (.tuple #[.agg #[.string (bsB nm), .slice A l.length c], .int .i64 0]) ∧ RecAt aEnc 6 w' w'.heap.size A l ∧ Below W.heap.size W w') := fun W => rparse_is (s := [107, 110, 105, 103, 104, 116, 32, 76, 49, 50]) W (by decide) hp
  rw [hl, hnm]
  have hLn : Hid ([⟨1, 1, 2, 0, 0, 0⟩] = l) := hl
  have hNn : Hid ([107, 110, 105, 103, 104, 116] = nm) := hnm
  clear hp hnm hl
  go_enter Tryz.func20, Tryz.ntmps20
  go_upto_region 1 with fail
  obtain ⟨BR, hBR⟩ : ∃ BR, w.heap.size = BR := ⟨_, rfl⟩
  rw [hBR] at hR0 hI0
  simp only [hBR]
  have hBRH : Hid (w.heap.size = BR) := hBR
  clear hBR
  generalize w.alloc (.cells #[.string ⟨#[]⟩, .slice none 0 0] 43) = u at *
  have hto : Hid (∀ W, Calls Tryz.prog 46 #[.int .i64 2, .int .i64 2, .int .i64 6] W fun e w' => e = .returned (.bool true) ∧ W = w') := fun W => rto 2 2 6 W
  go_upto_region 3 with (go_at_call 46; refine (hto.out _).mono ?_; rintro e w1 ⟨rfl, rfl⟩)
  have hba : Below u.heap.size u (u.alloc (.cells #[.string ⟨#[107, 110, 105, 103, 104, 116, 32, 76, 49, 50]⟩, .string ⟨#[98, 105, 115, 104, 111, 112, 32, 82, 49, 49]⟩, .string ⟨#[114, 111, 111, 107, 32, 82, 48, 49]⟩, .string ⟨#[113, 117, 101, 101, 110, 32, 82, 48, 49, 43, 82, 49, 49]⟩, .string ⟨#[107, 105, 110, 103, 32, 76, 48, 49, 43, 76, 49, 49]⟩] 9)) := (Below.refl _ _).alloc (Nat.le_refl _) _
  have hR1 := Lib.hid (hR0.out.next hba)
  have hI1 := Lib.hid (hI0.out.next hR0.out.lt hba)
  have hb1 : Hid (Below w.heap.size w (u.alloc (.cells #[.string ⟨#[107, 110, 105, 103, 104, 116, 32, 76, 49, 50]⟩, .string ⟨#[98, 105, 115, 104, 111, 112, 32, 82, 49, 49]⟩, .string ⟨#[114, 111, 111, 107, 32, 82, 48, 49]⟩, .string ⟨#[113, 117, 101, 101, 110, 32, 82, 48, 49, 43, 82, 49, 49]⟩, .string ⟨#[107, 105, 110, 103, 32, 76, 48, 49, 43, 76, 49, 49]⟩] 9))) := hbX.out.trans (hba.mono hbX.out.size)
  have hidx : (u.alloc (.cells #[.string ⟨#[107, 110, 105, 103, 104, 116, 32, 76, 49, 50]⟩, .string ⟨#[98, 105, 115, 104, 111, 112, 32, 82, 49, 49]⟩, .string ⟨#[114, 111, 111, 107, 32, 82, 48, 49]⟩, .string ⟨#[113, 117, 101, 101, 110, 32, 82, 48, 49, 43, 82, 49, 49]⟩, .string ⟨#[107, 105, 110, 103, 32, 76, 48, 49, 43, 76, 49, 49]⟩] 9)).cell? ⟨u.heap.size, 0, none⟩ = some (.string ⟨#[107, 110, 105, 103, 104, 116, 32, 76, 49, 50]⟩) := by rw [cell_of_row _ _ _ _ _ _ (heap_alloc_new u _)]; rfl
  clear hba hR0 hI0 hbX
  go_wp2_with fail
  go_at_call 49
  refine (hpc.out _).mono ?_
  rintro e w2 ⟨A, c, rfl, hRc, hb2⟩
  replace hRc := Lib.hid hRc
  have hR2 := Lib.hid (hR1.out.next hb2)
  have hI2 := Lib.hid (hI1.out.next hR1.out.lt hb2)
  have hbw2 : Hid (Below w.heap.size w w2) := hb1.out.trans (hb2.mono hb1.out.size)
  have hba : Below w2.heap.size w2 (w2.alloc (.cells #[.string (bsB nm), .slice A l.length c] 43)) := (Below.refl _ _).alloc (Nat.le_refl _) _
  have hR3 := Lib.hid (hR2.out.next hba)
  have hI3 := Lib.hid (hI2.out.next hR2.out.lt hba)
  have hRc3 := Lib.hid (recs_next hRc.out hba)
  have hF3 := Lib.hid (B2.new w2 (.string (bsB nm)) (.slice A l.length c) 43)
  have hbw3 : Hid (Below w.heap.size w (w2.alloc (.cells #[.string (bsB nm), .slice A l.length c] 43))) := hbw2.out.trans (hba.mono hbw2.out.size)
  clear hb2 hR1 hI1 hb1 hRc hR2 hI2 hba hbw2 hpc hidx hto
  go_upto_region 4 with fail
  obtain ⟨B3, hB3⟩ : ∃ B3, w2.heap.size = B3 := ⟨_, rfl⟩
  rw [hB3] at hF3
  simp only [hB3]
  clear hB3
  generalize w2.alloc (.cells #[.string (bsB nm), .slice A l.length c] 43) = w3 at *
  have hset : Hid (B2 ((w3.setCell ⟨BR, 0, none⟩ (.string (bsB nm))).setCell ⟨BR, 1, none⟩ (.slice A l.length c)) BR (.string (bsB nm)) (.slice A l.length c)) := (hR3.out.set0 _).set1 _
  have hbz : Hid (Below w.heap.size w ((w3.setCell ⟨BR, 0, none⟩ (.string (bsB nm))).setCell ⟨BR, 1, none⟩ (.slice A l.length c))) := (hbw3.out.setCell (p := ⟨BR, 0, none⟩) (by show w.heap.size ≤ BR; have := hBRH.out; omega) _).setCell (p := ⟨BR, 1, none⟩) (by show w.heap.size ≤ BR; have := hBRH.out; omega) _
  have hrc : Hid (RecAt aEnc 6 ((w3.setCell ⟨BR, 0, none⟩ (.string (bsB nm))).setCell ⟨BR, 1, none⟩ (.slice A l.length c)) ((w3.setCell ⟨BR, 0, none⟩ (.string (bsB nm))).setCell ⟨BR, 1, none⟩ (.slice A l.length c)).heap.size A l) := by
    have := hI3.out.both hR3.out hRc3.out (bsB nm) (.slice A l.length c)
    rw [nblk_set, nblk_set]
    exact this
  obtain ⟨p0, p1, _, _, _⟩ := hF3.out
  obtain ⟨r0, r1, rf0, rf1, _⟩ := hR3.out
  go_wp2_with fail
  refine bodyPost_ret (v := .tuple #[.agg #[.string (bsB nm), .slice A l.length c], .int .i64 0]) ?hres rfl ?hfin
  case hfin => exact ⟨(fun h => by cases h), (fun nm2 l2 h => by cases h; exact ⟨A, c, rfl, hrc.out⟩), hbz.out⟩
  case hres =>
    have k0 := hset.out.c0
    have k1 := hset.out.c1
    generalize ((w3.setCell ⟨BR, 0, none⟩ (.string (bsB nm))).setCell ⟨BR, 1, none⟩ (.slice A l.length c)) = wz at *
    simp [results, Tryz.results20, go_sem, k0, k1]
set_option maxRecDepth 100000 in
set_option maxHeartbeats 1000000 in
theorem pusual_3 (w : World) (m0 : Int) (hM : MX w m0) (hK : PC.KindsAt w) (hg : 3 < w.heap.size) : Calls Tryz.prog 19 #[.int .i8 3] w fun e w' => PaR (some ([98, 105, 115, 104, 111, 112], [⟨2, 1, 1, 0, 0, 0⟩])) e w w' := by
  have hR0 := Lib.hid (B2.new w (.string ⟨#[]⟩) (.slice none 0 0) 43)
  have hI0 := Lib.hid (NoI.new w ⟨#[]⟩ none 0 0 43)
  have hbX : Hid (Below w.heap.size w (w.alloc (.cells #[.string ⟨#[]⟩, .slice none 0 0] 43))) := (Below.refl _ _).alloc (Nat.le_refl _) _
  have hMu := Lib.hid (hM.next hbX.out)
  have hKu := Lib.hid (hK.below hg hbX.out)
  obtain ⟨nm, hnm⟩ : ∃ nm : List UInt8, [98, 105, 115, 104, 111, 112] = nm := ⟨_, rfl⟩
  obtain ⟨at_, hat⟩ : ∃ at_ : List UInt8, [82, 49, 49] = at_ := ⟨_, rfl⟩
  obtain ⟨l, hl⟩ : ∃ l : List At, [⟨2, 1, 1, 0, 0, 0⟩] = l := ⟨_, rfl⟩
  have hp : parR (nm ++ 32 :: at_) = some (nm, l) := by rw [← hnm, ← hat, ← hl]; exact us_par3
  have hnl : nm.length = 6 := by rw [← hnm]; rfl
  have hal : at_.length = 3 := by rw [← hat]; rfl
  have hpc := Lib.hid (fun W hM => pparse_is (s := nm ++ 32 :: at_) W m0 hM (by rw [List.length_append, List.length_cons]; omega) hp)
  have hname : Hid (∀ W, PC.KindsAt W → Calls Tryz.prog 48 #[.int .i8 3] W fun e w' => e = .returned (.tuple #[.string (bsB nm), .int .i64 0]) ∧ W = w') := fun W h => by
    rw [← hnm]
    exact PC.pname_yes 3 W h (by decide) (by decide)
  have hlit : (ByteArray.mk #[82, 49, 49]) = bsB at_ := by rw [← hat]; rfl
  have h32 : (ByteArray.mk #[32]) = bsB [32] := rfl
  have hLn : Hid ([⟨2, 1, 1, 0, 0, 0⟩] = l) := hl
  have hNn : Hid ([98, 105, 115, 104, 111, 112] = nm) := hnm
  have happ := bs_app
  have hbsz := bs_size
  have z0 : (9223372036854775807 < nm.length + 1) = False := eq_false (by omega)
  have z1 : (9223372036854775807 < nm.length + 1 + at_.length) = False := eq_false (by omega)
  rw [hl, hnm]
  clear hp hnm hat hl hM hK hnl hal
  go_enter Tryz.func19, Tryz.ntmps19
  go_upto_region 1 with fail
  obtain ⟨BR, hBR⟩ : ∃ BR, w.heap.size = BR := ⟨_, rfl⟩
  rw [hBR] at hR0 hI0
  simp only [hBR]
  have hBRH : Hid (w.heap.size = BR) := hBR
  clear hBR
  generalize w.alloc (.cells #[.string ⟨#[]⟩, .slice none 0 0] 43) = u at *
  go_upto_region 17 with (go_at_call 48; refine (hname.out _ hKu.out).mono ?_; rintro e w1 ⟨rfl, rfl⟩)
  go_wp2_with fail
  go_at_call 24
  refine (hpc.out _ hMu.out).mono ?_
  rintro e w2 ⟨A, c, rfl, hRc, hb2⟩
  replace hRc := Lib.hid hRc
  have hR2 := Lib.hid (hR0.out.next hb2)
  have hI2 := Lib.hid (hI0.out.next hR0.out.lt hb2)
  have hbw2 : Hid (Below w.heap.size w w2) := hbX.out.trans (hb2.mono hbX.out.size)
  clear hb2 hR0 hI0 hpc h32 hlit happ hbsz z0 z1 hbX hname
  have hset : Hid (B2 ((w2.setCell ⟨BR, 0, none⟩ (.string (bsB nm))).setCell ⟨BR, 1, none⟩ (.slice A l.length c)) BR (.string (bsB nm)) (.slice A l.length c)) := (hR2.out.set0 _).set1 _
  have hbz : Hid (Below w.heap.size w ((w2.setCell ⟨BR, 0, none⟩ (.string (bsB nm))).setCell ⟨BR, 1, none⟩ (.slice A l.length c))) := (hbw2.out.setCell (p := ⟨BR, 0, none⟩) (by show w.heap.size ≤ BR; have := hBRH.out; omega) _).setCell (p := ⟨BR, 1, none⟩) (by show w.heap.size ≤ BR; have := hBRH.out; omega) _
  have hrc : Hid (RecAt aEnc 6 ((w2.setCell ⟨BR, 0, none⟩ (.string (bsB nm))).setCell ⟨BR, 1, none⟩ (.slice A l.length c)) ((w2.setCell ⟨BR, 0, none⟩ (.string (bsB nm))).setCell ⟨BR, 1, none⟩ (.slice A l.length c)).heap.size A l) := by
    have := hI2.out.both hR2.out hRc.out (bsB nm) (.slice A l.length c)
    rw [nblk_set, nblk_set]
    exact this
  obtain ⟨r0, r1, rf0, rf1, _⟩ := hR2.out
  go_wp2_with fail
  refine bodyPost_ret (v := .tuple #[.agg #[.string (bsB nm), .slice A l.length c], .int .i64 0]) ?hres rfl ?hfin
  case hfin => exact ⟨(fun h => by cases h), (fun nm2 l2 h => by cases h; exact ⟨A, c, rfl, hrc.out⟩), hbz.out⟩
  case hres =>
    have k0 := hset.out.c0
    have k1 := hset.out.c1
    generalize ((w2.setCell ⟨BR, 0, none⟩ (.string (bsB nm))).setCell ⟨BR, 1, none⟩ (.slice A l.length c)) = wz at *
    simp [results, Tryz.results19, go_sem, k0, k1]
set_option maxRecDepth 100000 in
set_option maxHeartbeats 1000000 in
theorem rusual_3 (w : World) : Calls Tryz.prog 20 #[.int .i64 3] w fun e w' => PaR (some ([98, 105, 115, 104, 111, 112], [⟨2, 1, 1, 0, 0, 0⟩])) e w w' := by
  have hR0 := Lib.hid (B2.new w (.string ⟨#[]⟩) (.slice none 0 0) 43)
  have hI0 := Lib.hid (NoI.new w ⟨#[]⟩ none 0 0 43)
  have hbX : Hid (Below w.heap.size w (w.alloc (.cells #[.string ⟨#[]⟩, .slice none 0 0] 43))) := (Below.refl _ _).alloc (Nat.le_refl _) _
  obtain ⟨nm, hnm⟩ : ∃ nm : List UInt8, [98, 105, 115, 104, 111, 112] = nm := ⟨_, rfl⟩
  obtain ⟨l, hl⟩ : ∃ l : List At, [⟨2, 1, 1, 0, 0, 0⟩] = l := ⟨_, rfl⟩
  have hp : parR [98, 105, 115, 104, 111, 112, 32, 82, 49, 49] = some (nm, l) := by rw [← hnm, ← hl]; exact us_par3
  have hpc : Hid (∀ W, Calls Tryz.prog 49 #[.string ⟨#[98, 105, 115, 104, 111, 112, 32, 82, 49, 49]⟩] W fun e w' => ∃ A c, e = .returned (.tuple #[.agg #[.string (bsB nm), .slice A l.length c], .int .i64 0]) ∧ RecAt aEnc 6 w' w'.heap.size A l ∧ Below W.heap.size W w') := fun W => rparse_is (s := [98, 105, 115, 104, 111, 112, 32, 82, 49, 49]) W (by decide) hp
  rw [hl, hnm]
  have hLn : Hid ([⟨2, 1, 1, 0, 0, 0⟩] = l) := hl
  have hNn : Hid ([98, 105, 115, 104, 111, 112] = nm) := hnm
  clear hp hnm hl
  go_enter Tryz.func20, Tryz.ntmps20
  go_upto_region 1 with fail
  obtain ⟨BR, hBR⟩ : ∃ BR, w.heap.size = BR := ⟨_, rfl⟩
  rw [hBR] at hR0 hI0
  simp only [hBR]
  have hBRH : Hid (w.heap.size = BR) := hBR
  clear hBR
  generalize w.alloc (.cells #[.string ⟨#[]⟩, .slice none 0 0] 43) = u at *
  have hto : Hid (∀ W, Calls Tryz.prog 46 #[.int .i64 3, .int .i64 2, .int .i64 6] W fun e w' => e = .returned (.bool true) ∧ W = w') := fun W => rto 3 2 6 W
  go_upto_region 3 with (go_at_call 46; refine (hto.out _).mono ?_; rintro e w1 ⟨rfl, rfl⟩)
  have hba : Below u.heap.size u (u.alloc (.cells #[.string ⟨#[107, 110, 105, 103, 104, 116, 32, 76, 49, 50]⟩, .string ⟨#[98, 105, 115, 104, 111, 112, 32, 82, 49, 49]⟩, .string ⟨#[114, 111, 111, 107, 32, 82, 48, 49]⟩, .string ⟨#[113, 117, 101, 101, 110, 32, 82, 48, 49, 43, 82, 49, 49]⟩, .string ⟨#[107, 105, 110, 103, 32, 76, 48, 49, 43, 76, 49, 49]⟩] 9)) := (Below.refl _ _).alloc (Nat.le_refl _) _
  have hR1 := Lib.hid (hR0.out.next hba)
  have hI1 := Lib.hid (hI0.out.next hR0.out.lt hba)
  have hb1 : Hid (Below w.heap.size w (u.alloc (.cells #[.string ⟨#[107, 110, 105, 103, 104, 116, 32, 76, 49, 50]⟩, .string ⟨#[98, 105, 115, 104, 111, 112, 32, 82, 49, 49]⟩, .string ⟨#[114, 111, 111, 107, 32, 82, 48, 49]⟩, .string ⟨#[113, 117, 101, 101, 110, 32, 82, 48, 49, 43, 82, 49, 49]⟩, .string ⟨#[107, 105, 110, 103, 32, 76, 48, 49, 43, 76, 49, 49]⟩] 9))) := hbX.out.trans (hba.mono hbX.out.size)
  have hidx : (u.alloc (.cells #[.string ⟨#[107, 110, 105, 103, 104, 116, 32, 76, 49, 50]⟩, .string ⟨#[98, 105, 115, 104, 111, 112, 32, 82, 49, 49]⟩, .string ⟨#[114, 111, 111, 107, 32, 82, 48, 49]⟩, .string ⟨#[113, 117, 101, 101, 110, 32, 82, 48, 49, 43, 82, 49, 49]⟩, .string ⟨#[107, 105, 110, 103, 32, 76, 48, 49, 43, 76, 49, 49]⟩] 9)).cell? ⟨u.heap.size, 1, none⟩ = some (.string ⟨#[98, 105, 115, 104, 111, 112, 32, 82, 49, 49]⟩) := by rw [cell_of_row _ _ _ _ _ _ (heap_alloc_new u _)]; rfl
  clear hba hR0 hI0 hbX
  go_wp2_with fail
  go_at_call 49
  refine (hpc.out _).mono ?_
  rintro e w2 ⟨A, c, rfl, hRc, hb2⟩
  replace hRc := Lib.hid hRc
  have hR2 := Lib.hid (hR1.out.next hb2)
  have hI2 := Lib.hid (hI1.out.next hR1.out.lt hb2)
  have hbw2 : Hid (Below w.heap.size w w2) := hb1.out.trans (hb2.mono hb1.out.size)
  have hba : Below w2.heap.size w2 (w2.alloc (.cells #[.string (bsB nm), .slice A l.length c] 43)) := (Below.refl _ _).alloc (Nat.le_refl _) _
  have hR3 := Lib.hid (hR2.out.next hba)
  have hI3 := Lib.hid (hI2.out.next hR2.out.lt hba)
  have hRc3 := Lib.hid (recs_next hRc.out hba)
  have hF3 := Lib.hid (B2.new w2 (.string (bsB nm)) (.slice A l.length c) 43)
  have hbw3 : Hid (Below w.heap.size w (w2.alloc (.cells #[.string (bsB nm), .slice A l.length c] 43))) := hbw2.out.trans (hba.mono hbw2.out.size)
  clear hb2 hR1 hI1 hb1 hRc hR2 hI2 hba hbw2 hpc hidx hto
  go_upto_region 4 with fail
  obtain ⟨B3, hB3⟩ : ∃ B3, w2.heap.size = B3 := ⟨_, rfl⟩
  rw [hB3] at hF3
  simp only [hB3]
  clear hB3
  generalize w2.alloc (.cells #[.string (bsB nm), .slice A l.length c] 43) = w3 at *
  have hset : Hid (B2 ((w3.setCell ⟨BR, 0, none⟩ (.string (bsB nm))).setCell ⟨BR, 1, none⟩ (.slice A l.length c)) BR (.string (bsB nm)) (.slice A l.length c)) := (hR3.out.set0 _).set1 _
  have hbz : Hid (Below w.heap.size w ((w3.setCell ⟨BR, 0, none⟩ (.string (bsB nm))).setCell ⟨BR, 1, none⟩ (.slice A l.length c))) := (hbw3.out.setCell (p := ⟨BR, 0, none⟩) (by show w.heap.size ≤ BR; have := hBRH.out; omega) _).setCell (p := ⟨BR, 1, none⟩) (by show w.heap.size ≤ BR; have := hBRH.out; omega) _
  have hrc : Hid (RecAt aEnc 6 ((w3.setCell ⟨BR, 0, none⟩ (.string (bsB nm))).setCell ⟨BR, 1, none⟩ (.slice A l.length c)) ((w3.setCell ⟨BR, 0, none⟩ (.string (bsB nm))).setCell ⟨BR, 1, none⟩ (.slice A l.length c)).heap.size A l) := by
    have := hI3.out.both hR3.out hRc3.out (bsB nm) (.slice A l.length c)
    rw [nblk_set, nblk_set]
    exact this
  obtain ⟨p0, p1, _, _, _⟩ := hF3.out
  obtain ⟨r0, r1, rf0, rf1, _⟩ := hR3.out
  go_wp2_with fail
  refine bodyPost_ret (v := .tuple #[.agg #[.string (bsB nm), .slice A l.length c], .int .i64 0]) ?hres rfl ?hfin
  case hfin => exact ⟨(fun h => by cases h), (fun nm2 l2 h => by cases h; exact ⟨A, c, rfl, hrc.out⟩), hbz.out⟩
  case hres =>
    have k0 := hset.out.c0
    have k1 := hset.out.c1
    generalize ((w3.setCell ⟨BR, 0, none⟩ (.string (bsB nm))).setCell ⟨BR, 1, none⟩ (.slice A l.length c)) = wz at *
    simp [results, Tryz.results20, go_sem, k0, k1]
set_option maxRecDepth 100000 in
set_option maxHeartbeats 1000000 in
theorem pusual_4 (w : World) (m0 : Int) (hM : MX w m0) (hK : PC.KindsAt w) (hg : 3 < w.heap.size) : Calls Tryz.prog 19 #[.int .i8 4] w fun e w' => PaR (some ([114, 111, 111, 107], [⟨2, 0, 1, 0, 0, 0⟩])) e w w' := by
  have hR0 := Lib.hid (B2.new w (.string ⟨#[]⟩) (.slice none 0 0) 43)
  have hI0 := Lib.hid (NoI.new w ⟨#[]⟩ none 0 0 43)
  have hbX : Hid (Below w.heap.size w (w.alloc (.cells #[.string ⟨#[]⟩, .slice none 0 0] 43))) := (Below.refl _ _).alloc (Nat.le_refl _) _
  have hMu := Lib.hid (hM.next hbX.out)
  have hKu := Lib.hid (hK.below hg hbX.out)
  obtain ⟨nm, hnm⟩ : ∃ nm : List UInt8, [114, 111, 111, 107] = nm := ⟨_, rfl⟩
  obtain ⟨at_, hat⟩ : ∃ at_ : List UInt8, [82, 48, 49] = at_ := ⟨_, rfl⟩
  obtain ⟨l, hl⟩ : ∃ l : List At, [⟨2, 0, 1, 0, 0, 0⟩] = l := ⟨_, rfl⟩
  have hp : parR (nm ++ 32 :: at_) = some (nm, l) := by rw [← hnm, ← hat, ← hl]; exact us_par4
  have hnl : nm.length = 4 := by rw [← hnm]; rfl
  have hal : at_.length = 3 := by rw [← hat]; rfl
  have hpc := Lib.hid (fun W hM => pparse_is (s := nm ++ 32 :: at_) W m0 hM (by rw [List.length_append, List.length_cons]; omega) hp)
  have hname : Hid (∀ W, PC.KindsAt W → Calls Tryz.prog 48 #[.int .i8 4] W fun e w' => e = .returned (.tuple #[.string (bsB nm), .int .i64 0]) ∧ W = w') := fun W h => by
    rw [← hnm]
    exact PC.pname_yes 4 W h (by decide) (by decide)
  have hlit : (ByteArray.mk #[82, 48, 49]) = bsB at_ := by rw [← hat]; rfl
  have h32 : (ByteArray.mk #[32]) = bsB [32] := rfl
  have hLn : Hid ([⟨2, 0, 1, 0, 0, 0⟩] = l) := hl
  have hNn : Hid ([114, 111, 111, 107] = nm) := hnm
  have happ := bs_app
  have hbsz := bs_size
  have z0 : (9223372036854775807 < nm.length + 1) = False := eq_false (by omega)
  have z1 : (9223372036854775807 < nm.length + 1 + at_.length) = False := eq_false (by omega)
  rw [hl, hnm]
  clear hp hnm hat hl hM hK hnl hal
  go_enter Tryz.func19, Tryz.ntmps19
  go_upto_region 1 with fail
  obtain ⟨BR, hBR⟩ : ∃ BR, w.heap.size = BR := ⟨_, rfl⟩
  rw [hBR] at hR0 hI0
  simp only [hBR]
  have hBRH : Hid (w.heap.size = BR) := hBR
  clear hBR
  generalize w.alloc (.cells #[.string ⟨#[]⟩, .slice none 0 0] 43) = u at *
  go_upto_region 17 with (go_at_call 48; refine (hname.out _ hKu.out).mono ?_; rintro e w1 ⟨rfl, rfl⟩)
  go_wp2_with fail
  go_at_call 24
  refine (hpc.out _ hMu.out).mono ?_
  rintro e w2 ⟨A, c, rfl, hRc, hb2⟩
  replace hRc := Lib.hid hRc
  have hR2 := Lib.hid (hR0.out.next hb2)
  have hI2 := Lib.hid (hI0.out.next hR0.out.lt hb2)
  have hbw2 : Hid (Below w.heap.size w w2) := hbX.out.trans (hb2.mono hbX.out.size)
  clear hb2 hR0 hI0 hpc h32 hlit happ hbsz z0 z1 hbX hname
  have hset : Hid (B2 ((w2.setCell ⟨BR, 0, none⟩ (.string (bsB nm))).setCell ⟨BR, 1, none⟩ (.slice A l.length c)) BR (.string (bsB nm)) (.slice A l.length c)) := (hR2.out.set0 _).set1 _
  have hbz : Hid (Below w.heap.size w ((w2.setCell ⟨BR, 0, none⟩ (.string (bsB nm))).setCell ⟨BR, 1, none⟩ (.slice A l.length c))) := (hbw2.out.setCell (p := ⟨BR, 0, none⟩) (by show w.heap.size ≤ BR; have := hBRH.out; omega) _).setCell (p := ⟨BR, 1, none⟩) (by show w.heap.size ≤ BR; have := hBRH.out; omega) _
  have hrc : Hid (RecAt aEnc 6 ((w2.setCell ⟨BR, 0, none⟩ (.string (bsB nm))).setCell ⟨BR, 1, none⟩ (.slice A l.length c)) ((w2.setCell ⟨BR, 0, none⟩ (.string (bsB nm))).setCell ⟨BR, 1, none⟩ (.slice A l.length c)).heap.size A l) := by
    have := hI2.out.both hR2.out hRc.out (bsB nm) (.slice A l.length c)
    rw [nblk_set, nblk_set]
    exact this
  obtain ⟨r0, r1, rf0, rf1, _⟩ := hR2.out
  go_wp2_with fail
  refine bodyPost_ret (v := .tuple #[.agg #[.string (bsB nm), .slice A l.length c], .int .i64 0]) ?hres rfl ?hfin
  case hfin => exact ⟨(fun h => by cases h), (fun nm2 l2 h => by cases h; exact ⟨A, c, rfl, hrc.out⟩), hbz.out⟩
  case hres =>
    have k0 := hset.out.c0
    have k1 := hset.out.c1
    generalize ((w2.setCell ⟨BR, 0, none⟩ (.string (bsB nm))).setCell ⟨BR, 1, none⟩ (.slice A l.length c)) = wz at *
    simp [results, Tryz.results19, go_sem, k0, k1]
set_option maxRecDepth 100000 in
set_option maxHeartbeats 1000000 in
theorem rusual_4 (w : World) : Calls Tryz.prog 20 #[.int .i64 4] w fun e w' => PaR (some ([114, 111, 111, 107], [⟨2, 0, 1, 0, 0, 0⟩])) e w w' := by
  have hR0 := Lib.hid (B2.new w (.string ⟨#[]⟩) (.slice none 0 0) 43)
  have hI0 := Lib.hid (NoI.new w ⟨#[]⟩ none 0 0 43)
  have hbX : Hid (Below w.heap.size w (w.alloc (.cells #[.string ⟨#[]⟩, .slice none 0 0] 43))) := (Below.refl _ _).alloc (Nat.le_refl _) _
  obtain ⟨nm, hnm⟩ : ∃ nm : List UInt8, [114, 111, 111, 107] = nm := ⟨_, rfl⟩
  obtain ⟨l, hl⟩ : ∃ l : List At, [⟨2, 0, 1, 0, 0, 0⟩] = l := ⟨_, rfl⟩
  have hp : parR [114, 111, 111, 107, 32, 82, 48, 49] = some (nm, l) := by rw [← hnm, ← hl]; exact us_par4
  have hpc : Hid (∀ W, Calls Tryz.prog 49 #[.string ⟨#[114, 111, 111, 107, 32, 82, 48, 49]⟩] W fun e w' => ∃ A c, e = .returned (.tuple #[.agg #[.string (bsB nm), .slice A l.length c], .int .i64 0]) ∧ RecAt aEnc 6 w' w'.heap.size A l ∧ Below W.heap.size W w') := fun W => rparse_is (s := [114, 111, 111, 107, 32, 82, 48, 49]) W (by decide) hp
  rw [hl, hnm]
  have hLn : Hid ([⟨2, 0, 1, 0, 0, 0⟩] = l) := hl
  have hNn : Hid ([114, 111, 111, 107] = nm) := hnm
  clear hp hnm hl
  go_enter Tryz.func20, Tryz.ntmps20
  go_upto_region 1 with fail
  obtain ⟨BR, hBR⟩ : ∃ BR, w.heap.size = BR := ⟨_, rfl⟩
  rw [hBR] at hR0 hI0
  simp only [hBR]
  have hBRH : Hid (w.heap.size = BR) := hBR
  clear hBR
  generalize w.alloc (.cells #[.string ⟨#[]⟩, .slice none 0 0] 43) = u at *
  have hto : Hid (∀ W, Calls Tryz.prog 46 #[.int .i64 4, .int .i64 2, .int .i64 6] W fun e w' => e = .returned (.bool true) ∧ W = w') := fun W => rto 4 2 6 W
  go_upto_region 3 with (go_at_call 46; refine (hto.out _).mono ?_; rintro e w1 ⟨rfl, rfl⟩)
  have hba : Below u.heap.size u (u.alloc (.cells #[.string ⟨#[107, 110, 105, 103, 104, 116, 32, 76, 49, 50]⟩, .string ⟨#[98, 105, 115, 104, 111, 112, 32, 82, 49, 49]⟩, .string ⟨#[114, 111, 111, 107, 32, 82, 48, 49]⟩, .string ⟨#[113, 117, 101, 101, 110, 32, 82, 48, 49, 43, 82, 49, 49]⟩, .string ⟨#[107, 105, 110, 103, 32, 76, 48, 49, 43, 76, 49, 49]⟩] 9)) := (Below.refl _ _).alloc (Nat.le_refl _) _
  have hR1 := Lib.hid (hR0.out.next hba)
  have hI1 := Lib.hid (hI0.out.next hR0.out.lt hba)
  have hb1 : Hid (Below w.heap.size w (u.alloc (.cells #[.string ⟨#[107, 110, 105, 103, 104, 116, 32, 76, 49, 50]⟩, .string ⟨#[98, 105, 115, 104, 111, 112, 32, 82, 49, 49]⟩, .string ⟨#[114, 111, 111, 107, 32, 82, 48, 49]⟩, .string ⟨#[113, 117, 101, 101, 110, 32, 82, 48, 49, 43, 82, 49, 49]⟩, .string ⟨#[107, 105, 110, 103, 32, 76, 48, 49, 43, 76, 49, 49]⟩] 9))) := hbX.out.trans (hba.mono hbX.out.size)
  have hidx : (u.alloc (.cells #[.string ⟨#[107, 110, 105, 103, 104, 116, 32, 76, 49, 50]⟩, .string ⟨#[98, 105, 115, 104, 111, 112, 32, 82, 49, 49]⟩, .string ⟨#[114, 111, 111, 107, 32, 82, 48, 49]⟩, .string ⟨#[113, 117, 101, 101, 110, 32, 82, 48, 49, 43, 82, 49, 49]⟩, .string ⟨#[107, 105, 110, 103, 32, 76, 48, 49, 43, 76, 49, 49]⟩] 9)).cell? ⟨u.heap.size, 2, none⟩ = some (.string ⟨#[114, 111, 111, 107, 32, 82, 48, 49]⟩) := by rw [cell_of_row _ _ _ _ _ _ (heap_alloc_new u _)]; rfl
  clear hba hR0 hI0 hbX
  go_wp2_with fail
  go_at_call 49
  refine (hpc.out _).mono ?_
  rintro e w2 ⟨A, c, rfl, hRc, hb2⟩
  replace hRc := Lib.hid hRc
  have hR2 := Lib.hid (hR1.out.next hb2)
  have hI2 := Lib.hid (hI1.out.next hR1.out.lt hb2)
  have hbw2 : Hid (Below w.heap.size w w2) := hb1.out.trans (hb2.mono hb1.out.size)
  have hba : Below w2.heap.size w2 (w2.alloc (.cells #[.string (bsB nm), .slice A l.length c] 43)) := (Below.refl _ _).alloc (Nat.le_refl _) _
  have hR3 := Lib.hid (hR2.out.next hba)
  have hI3 := Lib.hid (hI2.out.next hR2.out.lt hba)
  have hRc3 := Lib.hid (recs_next hRc.out hba)
  have hF3 := Lib.hid (B2.new w2 (.string (bsB nm)) (.slice A l.length c) 43)
  have hbw3 : Hid (Below w.heap.size w (w2.alloc (.cells #[.string (bsB nm), .slice A l.length c] 43))) := hbw2.out.trans (hba.mono hbw2.out.size)
  clear hb2 hR1 hI1 hb1 hRc hR2 hI2 hba hbw2 hpc hidx hto
  go_upto_region 4 with fail
  obtain ⟨B3, hB3⟩ : ∃ B3, w2.heap.size = B3 := ⟨_, rfl⟩
  rw [hB3] at hF3
  simp only [hB3]
  clear hB3
  generalize w2.alloc (.cells #[.string (bsB nm), .slice A l.length c] 43) = w3 at *
  have hset : Hid (B2 ((w3.setCell ⟨BR, 0, none⟩ (.string (bsB nm))).setCell ⟨BR, 1, none⟩ (.slice A l.length c)) BR (.string (bsB nm)) (.slice A l.length c)) := (hR3.out.set0 _).set1 _
  have hbz : Hid (Below w.heap.size w ((w3.setCell ⟨BR, 0, none⟩ (.string (bsB nm))).setCell ⟨BR, 1, none⟩ (.slice A l.length c))) := (hbw3.out.setCell (p := ⟨BR, 0, none⟩) (by show w.heap.size ≤ BR; have := hBRH.out; omega) _).setCell (p := ⟨BR, 1, none⟩) (by show w.heap.size ≤ BR; have := hBRH.out; omega) _
  have hrc : Hid (RecAt aEnc 6 ((w3.setCell ⟨BR, 0, none⟩ (.string (bsB nm))).setCell ⟨BR, 1, none⟩ (.slice A l.length c)) ((w3.setCell ⟨BR, 0, none⟩ (.string (bsB nm))).setCell ⟨BR, 1, none⟩ (.slice A l.length c)).heap.size A l) := by
    have := hI3.out.both hR3.out hRc3.out (bsB nm) (.slice A l.length c)
    rw [nblk_set, nblk_set]
    exact this
  obtain ⟨p0, p1, _, _, _⟩ := hF3.out
  obtain ⟨r0, r1, rf0, rf1, _⟩ := hR3.out
  go_wp2_with fail
  refine bodyPost_ret (v := .tuple #[.agg #[.string (bsB nm), .slice A l.length c], .int .i64 0]) ?hres rfl ?hfin
  case hfin => exact ⟨(fun h => by cases h), (fun nm2 l2 h => by cases h; exact ⟨A, c, rfl, hrc.out⟩), hbz.out⟩
  case hres =>
    have k0 := hset.out.c0
    have k1 := hset.out.c1
    generalize ((w3.setCell ⟨BR, 0, none⟩ (.string (bsB nm))).setCell ⟨BR, 1, none⟩ (.slice A l.length c)) = wz at *
    simp [results, Tryz.results20, go_sem, k0, k1]
set_option maxRecDepth 100000 in
set_option maxHeartbeats 1000000 in
theorem pusual_5 (w : World) (m0 : Int) (hM : MX w m0) (hK : PC.KindsAt w) (hg : 3 < w.heap.size) : Calls Tryz.prog 19 #[.int .i8 5] w fun e w' => PaR (some ([113, 117, 101, 101, 110], [⟨2, 0, 1, 0, 0, 0⟩, ⟨2, 1, 1, 0, 0, 0⟩])) e w w' := by
  have hR0 := Lib.hid (B2.new w (.string ⟨#[]⟩) (.slice none 0 0) 43)
  have hI0 := Lib.hid (NoI.new w ⟨#[]⟩ none 0 0 43)
  have hbX : Hid (Below w.heap.size w (w.alloc (.cells #[.string ⟨#[]⟩, .slice none 0 0] 43))) := (Below.refl _ _).alloc (Nat.le_refl _) _
  have hMu := Lib.hid (hM.next hbX.out)
  have hKu := Lib.hid (hK.below hg hbX.out)
  obtain ⟨nm, hnm⟩ : ∃ nm : List UInt8, [113, 117, 101, 101, 110] = nm := ⟨_, rfl⟩
  obtain ⟨at_, hat⟩ : ∃ at_ : List UInt8, [82, 48, 49, 43, 82, 49, 49] = at_ := ⟨_, rfl⟩
  obtain ⟨l, hl⟩ : ∃ l : List At, [⟨2, 0, 1, 0, 0, 0⟩, ⟨2, 1, 1, 0, 0, 0⟩] = l := ⟨_, rfl⟩
  have hp : parR (nm ++ 32 :: at_) = some (nm, l) := by rw [← hnm, ← hat, ← hl]; exact us_par5
  have hnl : nm.length = 5 := by rw [← hnm]; rfl
  have hal : at_.length = 7 := by rw [← hat]; rfl
  have hpc := Lib.hid (fun W hM => pparse_is (s := nm ++ 32 :: at_) W m0 hM (by rw [List.length_append, List.length_cons]; omega) hp)
  have hname : Hid (∀ W, PC.KindsAt W → Calls Tryz.prog 48 #[.int .i8 5] W fun e w' => e = .returned (.tuple #[.string (bsB nm), .int .i64 0]) ∧ W = w') := fun W h => by
    rw [← hnm]
    exact PC.pname_yes 5 W h (by decide) (by decide)
  have hlit : (ByteArray.mk #[82, 48, 49, 43, 82, 49, 49]) = bsB at_ := by rw [← hat]; rfl
  have h32 : (ByteArray.mk #[32]) = bsB [32] := rfl
  have hLn : Hid ([⟨2, 0, 1, 0, 0, 0⟩, ⟨2, 1, 1, 0, 0, 0⟩] = l) := hl
  have hNn : Hid ([113, 117, 101, 101, 110] = nm) := hnm
  have happ := bs_app
  have hbsz := bs_size
  have z0 : (9223372036854775807 < nm.length + 1) = False := eq_false (by omega)
  have z1 : (9223372036854775807 < nm.length + 1 + at_.length) = False := eq_false (by omega)
  rw [hl, hnm]
  clear hp hnm hat hl hM hK hnl hal
  go_enter Tryz.func19, Tryz.ntmps19
  go_upto_region 1 with fail
  obtain ⟨BR, hBR⟩ : ∃ BR, w.heap.size = BR := ⟨_, rfl⟩
  rw [hBR] at hR0 hI0
  simp only [hBR]
  have hBRH : Hid (w.heap.size = BR) := hBR
  clear hBR
  generalize w.alloc (.cells #[.string ⟨#[]⟩, .slice none 0 0] 43) = u at *
  go_upto_region 17 with (go_at_call 48; refine (hname.out _ hKu.out).mono ?_; rintro e w1 ⟨rfl, rfl⟩)
  go_wp2_with fail
  go_at_call 24
  refine (hpc.out _ hMu.out).mono ?_
  rintro e w2 ⟨A, c, rfl, hRc, hb2⟩
  replace hRc := Lib.hid hRc
  have hR2 := Lib.hid (hR0.out.next hb2)
  have hI2 := Lib.hid (hI0.out.next hR0.out.lt hb2)
  have hbw2 : Hid (Below w.heap.size w w2) := hbX.out.trans (hb2.mono hbX.out.size)
  clear hb2 hR0 hI0 hpc h32 hlit happ hbsz z0 z1 hbX hname
  have hset : Hid (B2 ((w2.setCell ⟨BR, 0, none⟩ (.string (bsB nm))).setCell ⟨BR, 1, none⟩ (.slice A l.length c)) BR (.string (bsB nm)) (.slice A l.length c)) := (hR2.out.set0 _).set1 _
  have hbz : Hid (Below w.heap.size w ((w2.setCell ⟨BR, 0, none⟩ (.string (bsB nm))).setCell ⟨BR, 1, none⟩ (.slice A l.length c))) := (hbw2.out.setCell (p := ⟨BR, 0, none⟩) (by show w.heap.size ≤ BR; have := hBRH.out; omega) _).setCell (p := ⟨BR, 1, none⟩) (by show w.heap.size ≤ BR; have := hBRH.out; omega) _
  have hrc : Hid (RecAt aEnc 6 ((w2.setCell ⟨BR, 0, none⟩ (.string (bsB nm))).setCell ⟨BR, 1, none⟩ (.slice A l.length c)) ((w2.setCell ⟨BR, 0, none⟩ (.string (bsB nm))).setCell ⟨BR, 1, none⟩ (.slice A l.length c)).heap.size A l) := by
    have := hI2.out.both hR2.out hRc.out (bsB nm) (.slice A l.length c)
    rw [nblk_set, nblk_set]
    exact this
  obtain ⟨r0, r1, rf0, rf1, _⟩ := hR2.out
  go_wp2_with fail
  refine bodyPost_ret (v := .tuple #[.agg #[.string (bsB nm), .slice A l.length c], .int .i64 0]) ?hres rfl ?hfin
  case hfin => exact ⟨(fun h => by cases h), (fun nm2 l2 h => by cases h; exact ⟨A, c, rfl, hrc.out⟩), hbz.out⟩
  case hres =>
    have k0 := hset.out.c0
    have k1 := hset.out.c1
    generalize ((w2.setCell ⟨BR, 0, none⟩ (.string (bsB nm))).setCell ⟨BR, 1, none⟩ (.slice A l.length c)) = wz at *
    simp [results, Tryz.results19, go_sem, k0, k1]
set_option maxRecDepth 100000 in
set_option maxHeartbeats 1000000 in
theorem rusual_5 (w : World) : Calls Tryz.prog 20 #[.int .i64 5] w fun e w' => PaR (some ([113, 117, 101, 101, 110], [⟨2, 0, 1, 0, 0, 0⟩, ⟨2, 1, 1, 0, 0, 0⟩])) e w w' := by
  have hR0 := Lib.hid (B2.new w (.string ⟨#[]⟩) (.slice none 0 0) 43)
  have hI0 := Lib.hid (NoI.new w ⟨#[]⟩ none 0 0 43)
  have hbX : Hid (Below w.heap.size w (w.alloc (.cells #[.string ⟨#[]⟩, .slice none 0 0] 43))) := (Below.refl _ _).alloc (Nat.le_refl _) _
  obtain ⟨nm, hnm⟩ : ∃ nm : List UInt8, [113, 117, 101, 101, 110] = nm := ⟨_, rfl⟩
  obtain ⟨l, hl⟩ : ∃ l : List At, [⟨2, 0, 1, 0, 0, 0⟩, ⟨2, 1, 1, 0, 0, 0⟩] = l := ⟨_, rfl⟩
  have hp : parR [113, 117, 101, 101, 110, 32, 82, 48, 49, 43, 82, 49, 49] = some (nm, l) := by rw [← hnm, ← hl]; exact us_par5
  have hpc : Hid (∀ W, Calls Tryz.prog 49 #[.string ⟨#[113, 117, 101, 101, 110, 32, 82, 48, 49, 43, 82, 49, 49]⟩] W fun e w' => ∃ A c, e = .returned (.tuple #[.agg #[.string (bsB nm), .slice A l.length c], .int .i64 0]) ∧ RecAt aEnc 6 w' w'.heap.size A l ∧ Below W.heap.size W w') := fun W => rparse_is (s := [113, 117, 101, 101, 110, 32, 82, 48, 49, 43, 82, 49, 49]) W (by decide) hp
  rw [hl, hnm]
  have hLn : Hid ([⟨2, 0, 1, 0, 0, 0⟩, ⟨2, 1, 1, 0, 0, 0⟩] = l) := hl
  have hNn : Hid ([113, 117, 101, 101, 110] = nm) := hnm
  clear hp hnm hl
  go_enter Tryz.func20, Tryz.ntmps20
  go_upto_region 1 with fail
  obtain ⟨BR, hBR⟩ : ∃ BR, w.heap.size = BR := ⟨_, rfl⟩
  rw [hBR] at hR0 hI0
  simp only [hBR]
  have hBRH : Hid (w.heap.size = BR) := hBR
  clear hBR
  generalize w.alloc (.cells #[.string ⟨#[]⟩, .slice none 0 0] 43) = u at *
  have hto : Hid (∀ W, Calls Tryz.prog 46 #[.int .i64 5, .int .i64 2, .int .i64 6] W fun e w' => e = .returned (.bool true) ∧ W = w') := fun W => rto 5 2 6 W
  go_upto_region 3 with (go_at_call 46; refine (hto.out _).mono ?_; rintro e w1 ⟨rfl, rfl⟩)
  have hba : Below u.heap.size u (u.alloc (.cells #[.string ⟨#[107, 110, 105, 103, 104, 116, 32, 76, 49, 50]⟩, .string ⟨#[98, 105, 115, 104, 111, 112, 32, 82, 49, 49]⟩, .string ⟨#[114, 111, 111, 107, 32, 82, 48, 49]⟩, .string ⟨#[113, 117, 101, 101, 110, 32, 82, 48, 49, 43, 82, 49, 49]⟩, .string ⟨#[107, 105, 110, 103, 32, 76, 48, 49, 43, 76, 49, 49]⟩] 9)) := (Below.refl _ _).alloc (Nat.le_refl _) _
  have hR1 := Lib.hid (hR0.out.next hba)
  have hI1 := Lib.hid (hI0.out.next hR0.out.lt hba)
  have hb1 : Hid (Below w.heap.size w (u.alloc (.cells #[.string ⟨#[107, 110, 105, 103, 104, 116, 32, 76, 49, 50]⟩, .string ⟨#[98, 105, 115, 104, 111, 112, 32, 82, 49, 49]⟩, .string ⟨#[114, 111, 111, 107, 32, 82, 48, 49]⟩, .string ⟨#[113, 117, 101, 101, 110, 32, 82, 48, 49, 43, 82, 49, 49]⟩, .string ⟨#[107, 105, 110, 103, 32, 76, 48, 49, 43, 76, 49, 49]⟩] 9))) := hbX.out.trans (hba.mono hbX.out.size)
  have hidx : (u.alloc (.cells #[.string ⟨#[107, 110, 105, 103, 104, 116, 32, 76, 49, 50]⟩, .string ⟨#[98, 105, 115, 104, 111, 112, 32, 82, 49, 49]⟩, .string ⟨#[114, 111, 111, 107, 32, 82, 48, 49]⟩, .string ⟨#[113, 117, 101, 101, 110, 32, 82, 48, 49, 43, 82, 49, 49]⟩, .string ⟨#[107, 105, 110, 103, 32, 76, 48, 49, 43, 76, 49, 49]⟩] 9)).cell? ⟨u.heap.size, 3, none⟩ = some (.string ⟨#[113, 117, 101, 101, 110, 32, 82, 48, 49, 43, 82, 49, 49]⟩) := by rw [cell_of_row _ _ _ _ _ _ (heap_alloc_new u _)]; rfl
  clear hba hR0 hI0 hbX
  go_wp2_with fail
  go_at_call 49
  refine (hpc.out _).mono ?_
  rintro e w2 ⟨A, c, rfl, hRc, hb2⟩
  replace hRc := Lib.hid hRc
  have hR2 := Lib.hid (hR1.out.next hb2)
  have hI2 := Lib.hid (hI1.out.next hR1.out.lt hb2)
  have hbw2 : Hid (Below w.heap.size w w2) := hb1.out.trans (hb2.mono hb1.out.size)
  have hba : Below w2.heap.size w2 (w2.alloc (.cells #[.string (bsB nm), .slice A l.length c] 43)) := (Below.refl _ _).alloc (Nat.le_refl _) _
  have hR3 := Lib.hid (hR2.out.next hba)
  have hI3 := Lib.hid (hI2.out.next hR2.out.lt hba)
  have hRc3 := Lib.hid (recs_next hRc.out hba)
  have hF3 := Lib.hid (B2.new w2 (.string (bsB nm)) (.slice A l.length c) 43)
  have hbw3 : Hid (Below w.heap.size w (w2.alloc (.cells #[.string (bsB nm), .slice A l.length c] 43))) := hbw2.out.trans (hba.mono hbw2.out.size)
  clear hb2 hR1 hI1 hb1 hRc hR2 hI2 hba hbw2 hpc hidx hto
  go_upto_region 4 with fail
  obtain ⟨B3, hB3⟩ : ∃ B3, w2.heap.size = B3 := ⟨_, rfl⟩
  rw [hB3] at hF3
  simp only [hB3]
  clear hB3
  generalize w2.alloc (.cells #[.string (bsB nm), .slice A l.length c] 43) = w3 at *
  have hset : Hid (B2 ((w3.setCell ⟨BR, 0, none⟩ (.string (bsB nm))).setCell ⟨BR, 1, none⟩ (.slice A l.length c)) BR (.string (bsB nm)) (.slice A l.length c)) := (hR3.out.set0 _).set1 _
  have hbz : Hid (Below w.heap.size w ((w3.setCell ⟨BR, 0, none⟩ (.string (bsB nm))).setCell ⟨BR, 1, none⟩ (.slice A l.length c))) := (hbw3.out.setCell (p := ⟨BR, 0, none⟩) (by show w.heap.size ≤ BR; have := hBRH.out; omega) _).setCell (p := ⟨BR, 1, none⟩) (by show w.heap.size ≤ BR; have := hBRH.out; omega) _
  have hrc : Hid (RecAt aEnc 6 ((w3.setCell ⟨BR, 0, none⟩ (.string (bsB nm))).setCell ⟨BR, 1, none⟩ (.slice A l.length c)) ((w3.setCell ⟨BR, 0, none⟩ (.string (bsB nm))).setCell ⟨BR, 1, none⟩ (.slice A l.length c)).heap.size A l) := by
    have := hI3.out.both hR3.out hRc3.out (bsB nm) (.slice A l.length c)
    rw [nblk_set, nblk_set]
    exact this
  obtain ⟨p0, p1, _, _, _⟩ := hF3.out
  obtain ⟨r0, r1, rf0, rf1, _⟩ := hR3.out
  go_wp2_with fail
  refine bodyPost_ret (v := .tuple #[.agg #[.string (bsB nm), .slice A l.length c], .int .i64 0]) ?hres rfl ?hfin
  case hfin => exact ⟨(fun h => by cases h), (fun nm2 l2 h => by cases h; exact ⟨A, c, rfl, hrc.out⟩), hbz.out⟩
  case hres =>
    have k0 := hset.out.c0
    have k1 := hset.out.c1
    generalize ((w3.setCell ⟨BR, 0, none⟩ (.string (bsB nm))).setCell ⟨BR, 1, none⟩ (.slice A l.length c)) = wz at *
    simp [results, Tryz.results20, go_sem, k0, k1]
set_option maxRecDepth 100000 in
set_option maxHeartbeats 1000000 in
theorem pusual_6 (w : World) (m0 : Int) (hM : MX w m0) (hK : PC.KindsAt w) (hg : 3 < w.heap.size) : Calls Tryz.prog 19 #[.int .i8 6] w fun e w' => PaR (some ([107, 105, 110, 103], [⟨1, 0, 1, 0, 0, 0⟩, ⟨1, 1, 1, 0, 0, 0⟩])) e w w' := by
  have hR0 := Lib.hid (B2.new w (.string ⟨#[]⟩) (.slice none 0 0) 43)
  have hI0 := Lib.hid (NoI.new w ⟨#[]⟩ none 0 0 43)
  have hbX : Hid (Below w.heap.size w (w.alloc (.cells #[.string ⟨#[]⟩, .slice none 0 0] 43))) := (Below.refl _ _).alloc (Nat.le_refl _) _
  have hMu := Lib.hid (hM.next hbX.out)
  have hKu := Lib.hid (hK.below hg hbX.out)
  obtain ⟨nm, hnm⟩ : ∃ nm : List UInt8, [107, 105, 110, 103] = nm := ⟨_, rfl⟩
  obtain ⟨at_, hat⟩ : ∃ at_ : List UInt8, [76, 48, 49, 43, 76, 49, 49] = at_ := ⟨_, rfl⟩
  obtain ⟨l, hl⟩ : ∃ l : List At, [⟨1, 0, 1, 0, 0, 0⟩, ⟨1, 1, 1, 0, 0, 0⟩] = l := ⟨_, rfl⟩
  have hp : parR (nm ++ 32 :: at_) = some (nm, l) := by rw [← hnm, ← hat, ← hl]; exact us_par6
  have hnl : nm.length = 4 := by rw [← hnm]; rfl
  have hal : at_.length = 7 := by rw [← hat]; rfl
  have hpc := Lib.hid (fun W hM => pparse_is (s := nm ++ 32 :: at_) W m0 hM (by rw [List.length_append, List.length_cons]; omega) hp)
  have hname : Hid (∀ W, PC.KindsAt W → Calls Tryz.prog 48 #[.int .i8 6] W fun e w' => e = .returned (.tuple #[.string (bsB nm), .int .i64 0]) ∧ W = w') := fun W h => by
    rw [← hnm]
    exact PC.pname_yes 6 W h (by decide) (by decide)
  have hlit : (ByteArray.mk #[76, 48, 49, 43, 76, 49, 49]) = bsB at_ := by rw [← hat]; rfl
  have h32 : (ByteArray.mk #[32]) = bsB [32] := rfl
  have hLn : Hid ([⟨1, 0, 1, 0, 0, 0⟩, ⟨1, 1, 1, 0, 0, 0⟩] = l) := hl
  have hNn : Hid ([107, 105, 110, 103] = nm) := hnm
  have happ := bs_app
  have hbsz := bs_size
  have z0 : (9223372036854775807 < nm.length + 1) = False := eq_false (by omega)
  have z1 : (9223372036854775807 < nm.length + 1 + at_.length) = False := eq_false (by omega)
  rw [hl, hnm]
  clear hp hnm hat hl hM hK hnl hal
  go_enter Tryz.func19, Tryz.ntmps19
  go_upto_region 1 with fail
  obtain ⟨BR, hBR⟩ : ∃ BR, w.heap.size = BR := ⟨_, rfl⟩
  rw [hBR] at hR0 hI0
  simp only [hBR]
  have hBRH : Hid (w.heap.size = BR) := hBR
  clear hBR
  generalize w.alloc (.cells #[.string ⟨#[]⟩, .slice none 0 0] 43) = u at *
  go_upto_region 17 with (go_at_call 48; refine (hname.out _ hKu.out).mono ?_; rintro e w1 ⟨rfl, rfl⟩)
  go_wp2_with fail
  go_at_call 24
  refine (hpc.out _ hMu.out).mono ?_
  rintro e w2 ⟨A, c, rfl, hRc, hb2⟩
  replace hRc := Lib.hid hRc
  have hR2 := Lib.hid (hR0.out.next hb2)
  have hI2 := Lib.hid (hI0.out.next hR0.out.lt hb2)
  have hbw2 : Hid (Below w.heap.size w w2) := hbX.out.trans (hb2.mono hbX.out.size)
  clear hb2 hR0 hI0 hpc h32 hlit happ hbsz z0 z1 hbX hname
  have hset : Hid (B2 ((w2.setCell ⟨BR, 0, none⟩ (.string (bsB nm))).setCell ⟨BR, 1, none⟩ (.slice A l.length c)) BR (.string (bsB nm)) (.slice A l.length c)) := (hR2.out.set0 _).set1 _
  have hbz : Hid (Below w.heap.size w ((w2.setCell ⟨BR, 0, none⟩ (.string (bsB nm))).setCell ⟨BR, 1, none⟩ (.slice A l.length c))) := (hbw2.out.setCell (p := ⟨BR, 0, none⟩) (by show w.heap.size ≤ BR; have := hBRH.out; omega) _).setCell (p := ⟨BR, 1, none⟩) (by show w.heap.size ≤ BR; have := hBRH.out; omega) _
  have hrc : Hid (RecAt aEnc 6 ((w2.setCell ⟨BR, 0, none⟩ (.string (bsB nm))).setCell ⟨BR, 1, none⟩ (.slice A l.length c)) ((w2.setCell ⟨BR, 0, none⟩ (.string (bsB nm))).setCell ⟨BR, 1, none⟩ (.slice A l.length c)).heap.size A l) := by
    have := hI2.out.both hR2.out hRc.out (bsB nm) (.slice A l.length c)
    rw [nblk_set, nblk_set]
    exact this
  obtain ⟨r0, r1, rf0, rf1, _⟩ := hR2.out
  go_wp2_with fail
  refine bodyPost_ret (v := .tuple #[.agg #[.string (bsB nm), .slice A l.length c], .int .i64 0]) ?hres rfl ?hfin
  case hfin => exact ⟨(fun h => by cases h), (fun nm2 l2 h => by cases h; exact ⟨A, c, rfl, hrc.out⟩), hbz.out⟩
  case hres =>
    have k0 := hset.out.c0
    have k1 := hset.out.c1
    generalize ((w2.setCell ⟨BR, 0, none⟩ (.string (bsB nm))).setCell ⟨BR, 1, none⟩ (.slice A l.length c)) = wz at *
    simp [results, Tryz.results19, go_sem, k0, k1]
set_option maxRecDepth 100000 in
set_option maxHeartbeats 1000000 in
theorem rusual_6 (w : World) : Calls Tryz.prog 20 #[.int .i64 6] w fun e w' => PaR (some ([107, 105, 110, 103], [⟨1, 0, 1, 0, 0, 0⟩, ⟨1, 1, 1, 0, 0, 0⟩])) e w w' := by
  have hR0 := Lib.hid (B2.new w (.string ⟨#[]⟩) (.slice none 0 0) 43)
  have hI0 := Lib.hid (NoI.new w ⟨#[]⟩ none 0 0 43)
  have hbX : Hid (Below w.heap.size w (w.alloc (.cells #[.string ⟨#[]⟩, .slice none 0 0] 43))) := (Below.refl _ _).alloc (Nat.le_refl _) _
  obtain ⟨nm, hnm⟩ : ∃ nm : List UInt8, [107, 105, 110, 103] = nm := ⟨_, rfl⟩
  obtain ⟨l, hl⟩ : ∃ l : List At, [⟨1, 0, 1, 0, 0, 0⟩, ⟨1, 1, 1, 0, 0, 0⟩] = l := ⟨_, rfl⟩
  have hp : parR [107, 105, 110, 103, 32, 76, 48, 49, 43, 76, 49, 49] = some (nm, l) := by rw [← hnm, ← hl]; exact us_par6
  have hpc : Hid (∀ W, Calls Tryz.prog 49 #[.string ⟨#[107, 105, 110, 103, 32, 76, 48, 49, 43, 76, 49, 49]⟩] W fun e w' => ∃ A c, e = .returned (.tuple #[.agg #[.string (bsB nm), .slice A l.length c], .int .i64 0]) ∧ RecAt aEnc 6 w' w'.heap.size A l ∧ Below W.heap.size W w') := fun W => rparse_is (s := [107, 105, 110, 103, 32, 76, 48, 49, 43, 76, 49, 49]) W (by decide) hp
  rw [hl, hnm]
  have hLn : Hid ([⟨1, 0, 1, 0, 0, 0⟩, ⟨1, 1, 1, 0, 0, 0⟩] = l) := hl
  have hNn : Hid ([107, 105, 110, 103] = nm) := hnm
  clear hp hnm hl
  go_enter Tryz.func20, Tryz.ntmps20
  go_upto_region 1 with fail
  obtain ⟨BR, hBR⟩ : ∃ BR, w.heap.size = BR := ⟨_, rfl⟩
  rw [hBR] at hR0 hI0
  simp only [hBR]
  have hBRH : Hid (w.heap.size = BR) := hBR
  clear hBR
  generalize w.alloc (.cells #[.string ⟨#[]⟩, .slice none 0 0] 43) = u at *
  have hto : Hid (∀ W, Calls Tryz.prog 46 #[.int .i64 6, .int .i64 2, .int .i64 6] W fun e w' => e = .returned (.bool true) ∧ W = w') := fun W => rto 6 2 6 W
  go_upto_region 3 with (go_at_call 46; refine (hto.out _).mono ?_; rintro e w1 ⟨rfl, rfl⟩)
  have hba : Below u.heap.size u (u.alloc (.cells #[.string ⟨#[107, 110, 105, 103, 104, 116, 32, 76, 49, 50]⟩, .string ⟨#[98, 105, 115, 104, 111, 112, 32, 82, 49, 49]⟩, .string ⟨#[114, 111, 111, 107, 32, 82, 48, 49]⟩, .string ⟨#[113, 117, 101, 101, 110, 32, 82, 48, 49, 43, 82, 49, 49]⟩, .string ⟨#[107, 105, 110, 103, 32, 76, 48, 49, 43, 76, 49, 49]⟩] 9)) := (Below.refl _ _).alloc (Nat.le_refl _) _
  have hR1 := Lib.hid (hR0.out.next hba)
  have hI1 := Lib.hid (hI0.out.next hR0.out.lt hba)
  have hb1 : Hid (Below w.heap.size w (u.alloc (.cells #[.string ⟨#[107, 110, 105, 103, 104, 116, 32, 76, 49, 50]⟩, .string ⟨#[98, 105, 115, 104, 111, 112, 32, 82, 49, 49]⟩, .string ⟨#[114, 111, 111, 107, 32, 82, 48, 49]⟩, .string ⟨#[113, 117, 101, 101, 110, 32, 82, 48, 49, 43, 82, 49, 49]⟩, .string ⟨#[107, 105, 110, 103, 32, 76, 48, 49, 43, 76, 49, 49]⟩] 9))) := hbX.out.trans (hba.mono hbX.out.size)
  have hidx : (u.alloc (.cells #[.string ⟨#[107, 110, 105, 103, 104, 116, 32, 76, 49, 50]⟩, .string ⟨#[98, 105, 115, 104, 111, 112, 32, 82, 49, 49]⟩, .string ⟨#[114, 111, 111, 107, 32, 82, 48, 49]⟩, .string ⟨#[113, 117, 101, 101, 110, 32, 82, 48, 49, 43, 82, 49, 49]⟩, .string ⟨#[107, 105, 110, 103, 32, 76, 48, 49, 43, 76, 49, 49]⟩] 9)).cell? ⟨u.heap.size, 4, none⟩ = some (.string ⟨#[107, 105, 110, 103, 32, 76, 48, 49, 43, 76, 49, 49]⟩) := by rw [cell_of_row _ _ _ _ _ _ (heap_alloc_new u _)]; rfl
  clear hba hR0 hI0 hbX
  go_wp2_with fail
  go_at_call 49
  refine (hpc.out _).mono ?_
  rintro e w2 ⟨A, c, rfl, hRc, hb2⟩
  replace hRc := Lib.hid hRc
  have hR2 := Lib.hid (hR1.out.next hb2)
  have hI2 := Lib.hid (hI1.out.next hR1.out.lt hb2)
  have hbw2 : Hid (Below w.heap.size w w2) := hb1.out.trans (hb2.mono hb1.out.size)
  have hba : Below w2.heap.size w2 (w2.alloc (.cells #[.string (bsB nm), .slice A l.length c] 43)) := (Below.refl _ _).alloc (Nat.le_refl _) _
  have hR3 := Lib.hid (hR2.out.next hba)
  have hI3 := Lib.hid (hI2.out.next hR2.out.lt hba)
  have hRc3 := Lib.hid (recs_next hRc.out hba)
  have hF3 := Lib.hid (B2.new w2 (.string (bsB nm)) (.slice A l.length c) 43)
  have hbw3 : Hid (Below w.heap.size w (w2.alloc (.cells #[.string (bsB nm), .slice A l.length c] 43))) := hbw2.out.trans (hba.mono hbw2.out.size)
  clear hb2 hR1 hI1 hb1 hRc hR2 hI2 hba hbw2 hpc hidx hto
  go_upto_region 4 with fail
  obtain ⟨B3, hB3⟩ : ∃ B3, w2.heap.size = B3 := ⟨_, rfl⟩
  rw [hB3] at hF3
  simp only [hB3]
  clear hB3
  generalize w2.alloc (.cells #[.string (bsB nm), .slice A l.length c] 43) = w3 at *
  have hset : Hid (B2 ((w3.setCell ⟨BR, 0, none⟩ (.string (bsB nm))).setCell ⟨BR, 1, none⟩ (.slice A l.length c)) BR (.string (bsB nm)) (.slice A l.length c)) := (hR3.out.set0 _).set1 _
  have hbz : Hid (Below w.heap.size w ((w3.setCell ⟨BR, 0, none⟩ (.string (bsB nm))).setCell ⟨BR, 1, none⟩ (.slice A l.length c))) := (hbw3.out.setCell (p := ⟨BR, 0, none⟩) (by show w.heap.size ≤ BR; have := hBRH.out; omega) _).setCell (p := ⟨BR, 1, none⟩) (by show w.heap.size ≤ BR; have := hBRH.out; omega) _
  have hrc : Hid (RecAt aEnc 6 ((w3.setCell ⟨BR, 0, none⟩ (.string (bsB nm))).setCell ⟨BR, 1, none⟩ (.slice A l.length c)) ((w3.setCell ⟨BR, 0, none⟩ (.string (bsB nm))).setCell ⟨BR, 1, none⟩ (.slice A l.length c)).heap.size A l) := by
    have := hI3.out.both hR3.out hRc3.out (bsB nm) (.slice A l.length c)
    rw [nblk_set, nblk_set]
    exact this
  obtain ⟨p0, p1, _, _, _⟩ := hF3.out
  obtain ⟨r0, r1, rf0, rf1, _⟩ := hR3.out
  go_wp2_with fail
  refine bodyPost_ret (v := .tuple #[.agg #[.string (bsB nm), .slice A l.length c], .int .i64 0]) ?hres rfl ?hfin
  case hfin => exact ⟨(fun h => by cases h), (fun nm2 l2 h => by cases h; exact ⟨A, c, rfl, hrc.out⟩), hbz.out⟩
  case hres =>
    have k0 := hset.out.c0
    have k1 := hset.out.c1
    generalize ((w3.setCell ⟨BR, 0, none⟩ (.string (bsB nm))).setCell ⟨BR, 1, none⟩ (.slice A l.length c)) = wz at *
    simp [results, Tryz.results20, go_sem, k0, k1]
set_option maxRecDepth 100000 in
set_option maxHeartbeats 1000000 in
theorem pusual_no (k : Int) (w : World) (h : k < 2 ∨ 6 < k) : Calls Tryz.prog 19 #[.int .i8 k] w fun e w' => e = .returned (.tuple #[.agg #[.string ⟨#[]⟩, .slice none 0 0], .int .i64 2]) ∧ Below w.heap.size w w' := by
  have hR0 := Lib.hid (B2.new w (.string ⟨#[]⟩) (.slice none 0 0) 43)
  have hbX : Hid (Below w.heap.size w (w.alloc (.cells #[.string ⟨#[]⟩, .slice none 0 0] 43))) := (Below.refl _ _).alloc (Nat.le_refl _) _
  have hto : Hid (∀ W, Calls Tryz.prog 46 #[.int .i64 k, .int .i64 2, .int .i64 6] W fun e w' => e = .returned (.bool false) ∧ W = w') := fun W => by
    have := rto k 2 6 W
    rw [inB_no (by omega)] at this
    exact this
  have q2 : (k == 2) = false := by rw [beq_eq_false_iff_ne]; omega
  have q3 : (k == 3) = false := by rw [beq_eq_false_iff_ne]; omega
  have q4 : (k == 4) = false := by rw [beq_eq_false_iff_ne]; omega
  have q5 : (k == 5) = false := by rw [beq_eq_false_iff_ne]; omega
  have q6 : (k == 6) = false := by rw [beq_eq_false_iff_ne]; omega
  clear h
  go_enter Tryz.func19, Tryz.ntmps19
  go_upto_region 1 with fail
  obtain ⟨BR, hBR⟩ : ∃ BR, w.heap.size = BR := ⟨_, rfl⟩
  rw [hBR] at hR0
  simp only [hBR]
  have hBRH : Hid (w.heap.size = BR) := hBR
  clear hBR
  generalize w.alloc (.cells #[.string ⟨#[]⟩, .slice none 0 0] 43) = u at *
  have hset : Hid (B2 ((u.setCell ⟨BR, 0, none⟩ (.string ⟨#[]⟩)).setCell ⟨BR, 1, none⟩ (.slice none 0 0)) BR (.string ⟨#[]⟩) (.slice none 0 0)) := (hR0.out.set0 _).set1 _
  have hbz : Hid (Below w.heap.size w ((u.setCell ⟨BR, 0, none⟩ (.string ⟨#[]⟩)).setCell ⟨BR, 1, none⟩ (.slice none 0 0))) := (hbX.out.setCell (p := ⟨BR, 0, none⟩) (by show w.heap.size ≤ BR; have := hBRH.out; omega) _).setCell (p := ⟨BR, 1, none⟩) (by show w.heap.size ≤ BR; have := hBRH.out; omega) _
  obtain ⟨r0, r1, rf0, rf1, _⟩ := hR0.out
  go_wp2_with (go_at_call 46; refine (hto.out _).mono ?_; rintro e w1 ⟨rfl, rfl⟩)
  refine bodyPost_ret (v := .tuple #[.agg #[.string ⟨#[]⟩, .slice none 0 0], .int .i64 2]) ?hres rfl ?hfin
  case hfin => exact ⟨rfl, hbz.out⟩
  case hres =>
    have k0 := hset.out.c0
    have k1 := hset.out.c1
    generalize ((u.setCell ⟨BR, 0, none⟩ (.string ⟨#[]⟩)).setCell ⟨BR, 1, none⟩ (.slice none 0 0)) = wz at *
    simp [results, Tryz.results19, go_sem, k0, k1]
theorem pusual (k : Int) (w : World) (m0 : Int) (hM : MX w m0) (hK : PC.KindsAt w) (hg : 3 < w.heap.size) (h1 : 2 ≤ k) (h2 : k ≤ 6) : Calls Tryz.prog 19 #[.int .i8 k] w fun e w' => PaR (some (uNm k, uAt k)) e w w' := by
  rcases (by omega : k = 2 ∨ k = 3 ∨ k = 4 ∨ k = 5 ∨ k = 6) with rfl | rfl | rfl | rfl | rfl
  · exact pusual_2 w m0 hM hK hg
  · exact pusual_3 w m0 hM hK hg
  · exact pusual_4 w m0 hM hK hg
  · exact pusual_5 w m0 hM hK hg
  · exact pusual_6 w m0 hM hK hg
set_option maxRecDepth 100000 in
set_option maxHeartbeats 1000000 in
theorem rusual_no (k : Int) (w : World) (h : k < 2 ∨ 6 < k) : Calls Tryz.prog 20 #[.int .i64 k] w fun e w' => e = .returned (.tuple #[.agg #[.string ⟨#[]⟩, .slice none 0 0], .int .i64 2]) ∧ Below w.heap.size w w' := by
  have hR0 := Lib.hid (B2.new w (.string ⟨#[]⟩) (.slice none 0 0) 43)
  have hbX : Hid (Below w.heap.size w (w.alloc (.cells #[.string ⟨#[]⟩, .slice none 0 0] 43))) := (Below.refl _ _).alloc (Nat.le_refl _) _
  have hto : Hid (∀ W, Calls Tryz.prog 46 #[.int .i64 k, .int .i64 2, .int .i64 6] W fun e w' => e = .returned (.bool false) ∧ W = w') := fun W => by
    have := rto k 2 6 W
    rw [inB_no (by omega)] at this
    exact this
  have q2 : (k == 2) = false := by rw [beq_eq_false_iff_ne]; omega
  have q3 : (k == 3) = false := by rw [beq_eq_false_iff_ne]; omega
  have q4 : (k == 4) = false := by rw [beq_eq_false_iff_ne]; omega
  have q5 : (k == 5) = false := by rw [beq_eq_false_iff_ne]; omega
  have q6 : (k == 6) = false := by rw [beq_eq_false_iff_ne]; omega
  clear h
  go_enter Tryz.func20, Tryz.ntmps20
  go_upto_region 1 with fail
  obtain ⟨BR, hBR⟩ : ∃ BR, w.heap.size = BR := ⟨_, rfl⟩
  rw [hBR] at hR0
  simp only [hBR]
  have hBRH : Hid (w.heap.size = BR) := hBR
  clear hBR
  generalize w.alloc (.cells #[.string ⟨#[]⟩, .slice none 0 0] 43) = u at *
  have hset : Hid (B2 ((u.setCell ⟨BR, 0, none⟩ (.string ⟨#[]⟩)).setCell ⟨BR, 1, none⟩ (.slice none 0 0)) BR (.string ⟨#[]⟩) (.slice none 0 0)) := (hR0.out.set0 _).set1 _
  have hbz : Hid (Below w.heap.size w ((u.setCell ⟨BR, 0, none⟩ (.string ⟨#[]⟩)).setCell ⟨BR, 1, none⟩ (.slice none 0 0))) := (hbX.out.setCell (p := ⟨BR, 0, none⟩) (by show w.heap.size ≤ BR; have := hBRH.out; omega) _).setCell (p := ⟨BR, 1, none⟩) (by show w.heap.size ≤ BR; have := hBRH.out; omega) _
  obtain ⟨r0, r1, rf0, rf1, _⟩ := hR0.out
  go_wp2_with (go_at_call 46; refine (hto.out _).mono ?_; rintro e w1 ⟨rfl, rfl⟩)
  refine bodyPost_ret (v := .tuple #[.agg #[.string ⟨#[]⟩, .slice none 0 0], .int .i64 2]) ?hres rfl ?hfin
  case hfin => exact ⟨rfl, hbz.out⟩
  case hres =>
    have k0 := hset.out.c0
    have k1 := hset.out.c1
    generalize ((u.setCell ⟨BR, 0, none⟩ (.string ⟨#[]⟩)).setCell ⟨BR, 1, none⟩ (.slice none 0 0)) = wz at *
    simp [results, Tryz.results20, go_sem, k0, k1]
theorem rusual (k : Int) (w : World) (h1 : 2 ≤ k) (h2 : k ≤ 6) : Calls Tryz.prog 20 #[.int .i64 k] w fun e w' => PaR (some (uNm k, uAt k)) e w w' := by
  rcases (by omega : k = 2 ∨ k = 3 ∨ k = 4 ∨ k = 5 ∨ k = 6) with rfl | rfl | rfl | rfl | rfl
  · exact rusual_2 w
  · exact rusual_3 w
  · exact rusual_4 w
  · exact rusual_5 w
  · exact rusual_6 w
end Go.Proofs.YtbcdimklblpdnaaGreatDoor
