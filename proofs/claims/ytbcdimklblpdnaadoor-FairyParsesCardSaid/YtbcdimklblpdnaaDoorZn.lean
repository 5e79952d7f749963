/- Layer 27: the usual pieces of program and reference. -/
import Derived.Test.YtbcdimklblpdnaaDoorZm
namespace Go.Proofs.YtbcdimklblpdnaaDoor
open Go Go.RowKit
set_option linter.unusedSimpArgs false
set_option linter.unusedVariables false
/-- the usual pieces: name and atoms -/
def uNm (k : Int) : List UInt8 := if k = 2 then [107, 110, 105, 103, 104, 116] else if k = 3 then [98, 105, 115, 104, 111, 112] else if k = 4 then [114, 111, 111, 107] else if k = 5 then [113, 117, 101, 101, 110] else if k = 6 then [107, 105, 110, 103] else []
def uAt (k : Int) : List At := if k = 2 then [⟨1, 1, 2, 0, 0, 0⟩] else if k = 3 then [⟨2, 1, 1, 0, 0, 0⟩] else if k = 4 then [⟨2, 0, 1, 0, 0, 0⟩] else if k = 5 then [⟨2, 0, 1, 0, 0, 0⟩, ⟨2, 1, 1, 0, 0, 0⟩] else if k = 6 then [⟨1, 0, 1, 0, 0, 0⟩, ⟨1, 1, 1, 0, 0, 0⟩] else []
theorem us_ok {k : Int} (h1 : 2 ≤ k) (h2 : k ≤ 6) : okFy (bsB (uNm k)) (uAt k) := by
  rcases (by omega : k = 2 ∨ k = 3 ∨ k = 4 ∨ k = 5 ∨ k = 6) with rfl | rfl | rfl | rfl | rfl <;> exact okFy_of (by decide +kernel) (by decide +kernel) (by decide) (by kernel_rfl)
theorem us_par2 : parR [107, 110, 105, 103, 104, 116, 32, 76, 49, 50] = some ([107, 110, 105, 103, 104, 116], [⟨1, 1, 2, 0, 0, 0⟩]) := (parR_iff _ _ _).2 ⟨us_ok (k := 2) (by decide) (by decide), by decide +kernel⟩
theorem us_par3 : parR [98, 105, 115, 104, 111, 112, 32, 82, 49, 49] = some ([98, 105, 115, 104, 111, 112], [⟨2, 1, 1, 0, 0, 0⟩]) := (parR_iff _ _ _).2 ⟨us_ok (k := 3) (by decide) (by decide), by decide +kernel⟩
theorem us_par4 : parR [114, 111, 111, 107, 32, 82, 48, 49] = some ([114, 111, 111, 107], [⟨2, 0, 1, 0, 0, 0⟩]) := (parR_iff _ _ _).2 ⟨us_ok (k := 4) (by decide) (by decide), by decide +kernel⟩
theorem us_par5 : parR [113, 117, 101, 101, 110, 32, 82, 48, 49, 43, 82, 49, 49] = some ([113, 117, 101, 101, 110], [⟨2, 0, 1, 0, 0, 0⟩, ⟨2, 1, 1, 0, 0, 0⟩]) := (parR_iff _ _ _).2 ⟨us_ok (k := 5) (by decide) (by decide), by decide +kernel⟩
theorem us_par6 : parR [107, 105, 110, 103, 32, 76, 48, 49, 43, 76, 49, 49] = some ([107, 105, 110, 103], [⟨1, 0, 1, 0, 0, 0⟩, ⟨1, 1, 1, 0, 0, 0⟩]) := (parR_iff _ _ _).2 ⟨us_ok (k := 6) (by decide) (by decide), by decide +kernel⟩
set_option maxRecDepth 100000 in
set_option maxHeartbeats 1000000 in
theorem pusual_2 (w : World) (m0 : Int) (hM : MX w m0) (hK : PC.KindsAt w) (hg : 0 < w.heap.size) : Calls Tryd.prog 16 #[.int .i8 2] w fun e w' => PaR (some ([107, 110, 105, 103, 104, 116], [⟨1, 1, 2, 0, 0, 0⟩])) e w w' := by
  have hR0 := Lib.hid (B2.new w (.string ⟨#[]⟩) (.slice none 0 0) 25)
  have hI0 := Lib.hid (NoI.new w ⟨#[]⟩ none 0 0 25)
  have hbX : Hid (Below w.heap.size w (w.alloc (.cells #[.string ⟨#[]⟩, .slice none 0 0] 25))) := (Below.refl _ _).alloc (Nat.le_refl _) _
  have hMu := Lib.hid (hM.next hbX.out)
  have hKu := Lib.hid (hK.below hg hbX.out)
  obtain ⟨nm, hnm⟩ : ∃ nm : List UInt8, [107, 110, 105, 103, 104, 116] = nm := ⟨_, rfl⟩
  obtain ⟨at_, hat⟩ : ∃ at_ : List UInt8, [76, 49, 50] = at_ := ⟨_, rfl⟩
  obtain ⟨l, hl⟩ : ∃ l : List At, [⟨1, 1, 2, 0, 0, 0⟩] = l := ⟨_, rfl⟩
  have hp : parR (nm ++ 32 :: at_) = some (nm, l) := by rw [← hnm, ← hat, ← hl]; exact us_par2
  have hnl : nm.length = 6 := by rw [← hnm]; rfl
  have hal : at_.length = 3 := by rw [← hat]; rfl
  have hpc := Lib.hid (fun W hM => pparse_is (s := nm ++ 32 :: at_) W m0 hM (by rw [List.length_append, List.length_cons]; omega) hp)
  have hname : Hid (∀ W, PC.KindsAt W → Calls Tryd.prog 33 #[.int .i8 2] W fun e w' => e = .returned (.tuple #[.string (bsB nm), .int .i64 0]) ∧ W = w') := fun W h => by
    rw [← hnm]
    exact PC.pname_yes 2 W h (by decide) (by decide)
  have hlit : (ByteArray.mk #[76, 49, 50]) = bsB at_ := by rw [← hat]; rfl
  have h32 : (ByteArray.mk #[32]) = bsB [32] := rfl
  have hLn : Hid ([⟨1, 1, 2, 0, 0, 0⟩] = l) := hl
  have hNn : Hid ([107, 110, 105, 103, 104, 116] = nm) := hnm
  have happ := bs_app
  have hbsz := bs_size
  have z0 : (9223372036854775807 < nm.length + 1) = False := eq_false (by omega)
  have z1 : (9223372036854775807 < nm.length + 1 + at_.length) = False := eq_false (by omega)
  rw [hl, hnm]
  clear hp hnm hat hl hM hK hnl hal
  go_enter Tryd.func16, Tryd.ntmps16
  go_upto_region 1 with fail
  obtain ⟨BR, hBR⟩ : ∃ BR, w.heap.size = BR := ⟨_, rfl⟩
  rw [hBR] at hR0 hI0
  simp only [hBR]
  have hBRH : Hid (w.heap.size = BR) := hBR
  clear hBR
  generalize w.alloc (.cells #[.string ⟨#[]⟩, .slice none 0 0] 25) = u at *
  go_upto_region 17 with (go_at_call 33; refine (hname.out _ hKu.out).mono ?_; rintro e w1 ⟨rfl, rfl⟩)
  go_wp2_with fail
  go_at_call 5
  refine (hpc.out _ hMu.out).mono ?_
  rintro e w2 ⟨A, c, rfl, hRc, hb2⟩
  replace hRc := Lib.hid hRc
  have hR2 := Lib.hid (hR0.out.next hb2)
  have hI2 := Lib.hid (hI0.out.next hR0.out.lt hb2)
  have hbw2 : Hid (Below w.heap.size w w2) := hbX.out.trans (hb2.mono hbX.out.size)
  clear hb2 hR0 hI0 hpc h32 hlit happ hbsz z0 z1 hbX hname
  have hset : Hid (B2 ((w2.setCell ⟨BR, 0, none⟩ (.string (bsB nm))).setCell ⟨BR, 1, none⟩ (.slice A l.length c)) BR (.string (bsB nm)) (.slice A l.length c)) := (hR2.out.set0 _).set1 _
  have hbz : Hid (Below w.heap.size w ((w2.setCell ⟨BR, 0, none⟩ (.string (bsB nm))).setCell ⟨BR, 1, none⟩ (.slice A l.length c))) := (hbw2.out.setCell (p := ⟨BR, 0, none⟩) (by show w.heap.size ≤ BR; have := hBRH.out; omega) _).setCell (p := ⟨BR, 1, none⟩) (by show w.heap.size ≤ BR; have := hBRH.out; omega) _
  have hrc : Hid (RecAt aEnc 6 ((w2.setCell ⟨BR, 0, none⟩ (.string (bsB nm))).setCell ⟨BR, 1, none⟩ (.slice A l.length c)) ((w2.setCell ⟨BR, 0, none⟩ (.string (bsB nm))).setCell ⟨BR, 1, none⟩ (.slice A l.length c)).heap.size A l) := by
    have := hI2.out.both hR2.out hRc.out (bsB nm) (.slice A l.length c)
    rw [nblk_set, nblk_set]
    exact this
  obtain ⟨r0, r1, rf0, rf1, _⟩ := hR2.out
  go_wp2_with fail
  refine bodyPost_ret (v := .tuple #[.agg #[.string (bsB nm), .slice A l.length c], .int .i64 0]) ?hres rfl ?hfin
  case hfin => exact ⟨(fun h => by cases h), (fun nm2 l2 h => by cases h; exact ⟨A, c, rfl, hrc.out⟩), hbz.out⟩
  case hres =>
    have k0 := hset.out.c0
    have k1 := hset.out.c1
    generalize ((w2.setCell ⟨BR, 0, none⟩ (.string (bsB nm))).setCell ⟨BR, 1, none⟩ (.slice A l.length c)) = wz at *
    simp [results, Tryd.results16, go_sem, k0, k1]
set_option maxRecDepth 100000 in
set_option maxHeartbeats 1000000 in
theorem pusual_3 (w : World) (m0 : Int) (hM : MX w m0) (hK : PC.KindsAt w) (hg : 0 < w.heap.size) : Calls Tryd.prog 16 #[.int .i8 3] w fun e w' => PaR (some ([98, 105, 115, 104, 111, 112], [⟨2, 1, 1, 0, 0, 0⟩])) e w w' := by
  have hR0 := Lib.hid (B2.new w (.string ⟨#[]⟩) (.slice none 0 0) 25)
  have hI0 := Lib.hid (NoI.new w ⟨#[]⟩ none 0 0 25)
  have hbX : Hid (Below w.heap.size w (w.alloc (.cells #[.string ⟨#[]⟩, .slice none 0 0] 25))) := (Below.refl _ _).alloc (Nat.le_refl _) _
  have hMu := Lib.hid (hM.next hbX.out)
  have hKu := Lib.hid (hK.below hg hbX.out)
  obtain ⟨nm, hnm⟩ : ∃ nm : List UInt8, [98, 105, 115, 104, 111, 112] = nm := ⟨_, rfl⟩
  obtain ⟨at_, hat⟩ : ∃ at_ : List UInt8, [82, 49, 49] = at_ := ⟨_, rfl⟩
  obtain ⟨l, hl⟩ : ∃ l : List At, [⟨2, 1, 1, 0, 0, 0⟩] = l := ⟨_, rfl⟩
  have hp : parR (nm ++ 32 :: at_) = some (nm, l) := by rw [← hnm, ← hat, ← hl]; exact us_par3
  have hnl : nm.length = 6 := by rw [← hnm]; rfl
  have hal : at_.length = 3 := by rw [← hat]; rfl
  have hpc := Lib.hid (fun W hM => pparse_is (s := nm ++ 32 :: at_) W m0 hM (by rw [List.length_append, List.length_cons]; omega) hp)
  have hname : Hid (∀ W, PC.KindsAt W → Calls Tryd.prog 33 #[.int .i8 3] W fun e w' => e = .returned (.tuple #[.string (bsB nm), .int .i64 0]) ∧ W = w') := fun W h => by
    rw [← hnm]
    exact PC.pname_yes 3 W h (by decide) (by decide)
  have hlit : (ByteArray.mk #[82, 49, 49]) = bsB at_ := by rw [← hat]; rfl
  have h32 : (ByteArray.mk #[32]) = bsB [32] := rfl
  have hLn : Hid ([⟨2, 1, 1, 0, 0, 0⟩] = l) := hl
  have hNn : Hid ([98, 105, 115, 104, 111, 112] = nm) := hnm
  have happ := bs_app
  have hbsz := bs_size
  have z0 : (9223372036854775807 < nm.length + 1) = False := eq_false (by omega)
  have z1 : (9223372036854775807 < nm.length + 1 + at_.length) = False := eq_false (by omega)
  rw [hl, hnm]
  clear hp hnm hat hl hM hK hnl hal
  go_enter Tryd.func16, Tryd.ntmps16
  go_upto_region 1 with fail
  obtain ⟨BR, hBR⟩ : ∃ BR, w.heap.size = BR := ⟨_, rfl⟩
  rw [hBR] at hR0 hI0
  simp only [hBR]
  have hBRH : Hid (w.heap.size = BR) := hBR
  clear hBR
  generalize w.alloc (.cells #[.string ⟨#[]⟩, .slice none 0 0] 25) = u at *
  go_upto_region 17 with (go_at_call 33; refine (hname.out _ hKu.out).mono ?_; rintro e w1 ⟨rfl, rfl⟩)
  go_wp2_with fail
  go_at_call 5
  refine (hpc.out _ hMu.out).mono ?_
  rintro e w2 ⟨A, c, rfl, hRc, hb2⟩
  replace hRc := Lib.hid hRc
  have hR2 := Lib.hid (hR0.out.next hb2)
  have hI2 := Lib.hid (hI0.out.next hR0.out.lt hb2)
  have hbw2 : Hid (Below w.heap.size w w2) := hbX.out.trans (hb2.mono hbX.out.size)
  clear hb2 hR0 hI0 hpc h32 hlit happ hbsz z0 z1 hbX hname
  have hset : Hid (B2 ((w2.setCell ⟨BR, 0, none⟩ (.string (bsB nm))).setCell ⟨BR, 1, none⟩ (.slice A l.length c)) BR (.string (bsB nm)) (.slice A l.length c)) := (hR2.out.set0 _).set1 _
  have hbz : Hid (Below w.heap.size w ((w2.setCell ⟨BR, 0, none⟩ (.string (bsB nm))).setCell ⟨BR, 1, none⟩ (.slice A l.length c))) := (hbw2.out.setCell (p := ⟨BR, 0, none⟩) (by show w.heap.size ≤ BR; have := hBRH.out; omega) _).setCell (p := ⟨BR, 1, none⟩) (by show w.heap.size ≤ BR; have := hBRH.out; omega) _
  have hrc : Hid (RecAt aEnc 6 ((w2.setCell ⟨BR, 0, none⟩ (.string (bsB nm))).setCell ⟨BR, 1, none⟩ (.slice A l.length c)) ((w2.setCell ⟨BR, 0, none⟩ (.string (bsB nm))).setCell ⟨BR, 1, none⟩ (.slice A l.length c)).heap.size A l) := by
    have := hI2.out.both hR2.out hRc.out (bsB nm) (.slice A l.length c)
    rw [nblk_set, nblk_set]
    exact this
  obtain ⟨r0, r1, rf0, rf1, _⟩ := hR2.out
  go_wp2_with fail
  refine bodyPost_ret (v := .tuple #[.agg #[.string (bsB nm), .slice A l.length c], .int .i64 0]) ?hres rfl ?hfin
  case hfin => exact ⟨(fun h => by cases h), (fun nm2 l2 h => by cases h; exact ⟨A, c, rfl, hrc.out⟩), hbz.out⟩
  case hres =>
    have k0 := hset.out.c0
    have k1 := hset.out.c1
    generalize ((w2.setCell ⟨BR, 0, none⟩ (.string (bsB nm))).setCell ⟨BR, 1, none⟩ (.slice A l.length c)) = wz at *
    simp [results, Tryd.results16, go_sem, k0, k1]
set_option maxRecDepth 100000 in
set_option maxHeartbeats 1000000 in
theorem pusual_4 (w : World) (m0 : Int) (hM : MX w m0) (hK : PC.KindsAt w) (hg : 0 < w.heap.size) : Calls Tryd.prog 16 #[.int .i8 4] w fun e w' => PaR (some ([114, 111, 111, 107], [⟨2, 0, 1, 0, 0, 0⟩])) e w w' := by
  have hR0 := Lib.hid (B2.new w (.string ⟨#[]⟩) (.slice none 0 0) 25)
  have hI0 := Lib.hid (NoI.new w ⟨#[]⟩ none 0 0 25)
  have hbX : Hid (Below w.heap.size w (w.alloc (.cells #[.string ⟨#[]⟩, .slice none 0 0] 25))) := (Below.refl _ _).alloc (Nat.le_refl _) _
  have hMu := Lib.hid (hM.next hbX.out)
  have hKu := Lib.hid (hK.below hg hbX.out)
  obtain ⟨nm, hnm⟩ : ∃ nm : List UInt8, [114, 111, 111, 107] = nm := ⟨_, rfl⟩
  obtain ⟨at_, hat⟩ : ∃ at_ : List UInt8, [82, 48, 49] = at_ := ⟨_, rfl⟩
  obtain ⟨l, hl⟩ : ∃ l : List At, [⟨2, 0, 1, 0, 0, 0⟩] = l := ⟨_, rfl⟩
  have hp : parR (nm ++ 32 :: at_) = some (nm, l) := by rw [← hnm, ← hat, ← hl]; exact us_par4
  have hnl : nm.length = 4 := by rw [← hnm]; rfl
  have hal : at_.length = 3 := by rw [← hat]; rfl
  have hpc := Lib.hid (fun W hM => pparse_is (s := nm ++ 32 :: at_) W m0 hM (by rw [List.length_append, List.length_cons]; omega) hp)
  have hname : Hid (∀ W, PC.KindsAt W → Calls Tryd.prog 33 #[.int .i8 4] W fun e w' => e = .returned (.tuple #[.string (bsB nm), .int .i64 0]) ∧ W = w') := fun W h => by
    rw [← hnm]
    exact PC.pname_yes 4 W h (by decide) (by decide)
  have hlit : (ByteArray.mk #[82, 48, 49]) = bsB at_ := by rw [← hat]; rfl
  have h32 : (ByteArray.mk #[32]) = bsB [32] := rfl
  have hLn : Hid ([⟨2, 0, 1, 0, 0, 0⟩] = l) := hl
  have hNn : Hid ([114, 111, 111, 107] = nm) := hnm
  have happ := bs_app
  have hbsz := bs_size
  have z0 : (9223372036854775807 < nm.length + 1) = False := eq_false (by omega)
  have z1 : (9223372036854775807 < nm.length + 1 + at_.length) = False := eq_false (by omega)
  rw [hl, hnm]
  clear hp hnm hat hl hM hK hnl hal
  go_enter Tryd.func16, Tryd.ntmps16
  go_upto_region 1 with fail
  obtain ⟨BR, hBR⟩ : ∃ BR, w.heap.size = BR := ⟨_, rfl⟩
  rw [hBR] at hR0 hI0
  simp only [hBR]
  have hBRH : Hid (w.heap.size = BR) := hBR
  clear hBR
  generalize w.alloc (.cells #[.string ⟨#[]⟩, .slice none 0 0] 25) = u at *
  go_upto_region 17 with (go_at_call 33; refine (hname.out _ hKu.out).mono ?_; rintro e w1 ⟨rfl, rfl⟩)
  go_wp2_with fail
  go_at_call 5
  refine (hpc.out _ hMu.out).mono ?_
  rintro e w2 ⟨A, c, rfl, hRc, hb2⟩
  replace hRc := Lib.hid hRc
  have hR2 := Lib.hid (hR0.out.next hb2)
  have hI2 := Lib.hid (hI0.out.next hR0.out.lt hb2)
  have hbw2 : Hid (Below w.heap.size w w2) := hbX.out.trans (hb2.mono hbX.out.size)
  clear hb2 hR0 hI0 hpc h32 hlit happ hbsz z0 z1 hbX hname
  have hset : Hid (B2 ((w2.setCell ⟨BR, 0, none⟩ (.string (bsB nm))).setCell ⟨BR, 1, none⟩ (.slice A l.length c)) BR (.string (bsB nm)) (.slice A l.length c)) := (hR2.out.set0 _).set1 _
  have hbz : Hid (Below w.heap.size w ((w2.setCell ⟨BR, 0, none⟩ (.string (bsB nm))).setCell ⟨BR, 1, none⟩ (.slice A l.length c))) := (hbw2.out.setCell (p := ⟨BR, 0, none⟩) (by show w.heap.size ≤ BR; have := hBRH.out; omega) _).setCell (p := ⟨BR, 1, none⟩) (by show w.heap.size ≤ BR; have := hBRH.out; omega) _
  have hrc : Hid (RecAt aEnc 6 ((w2.setCell ⟨BR, 0, none⟩ (.string (bsB nm))).setCell ⟨BR, 1, none⟩ (.slice A l.length c)) ((w2.setCell ⟨BR, 0, none⟩ (.string (bsB nm))).setCell ⟨BR, 1, none⟩ (.slice A l.length c)).heap.size A l) := by
    have := hI2.out.both hR2.out hRc.out (bsB nm) (.slice A l.length c)
    rw [nblk_set, nblk_set]
    exact this
  obtain ⟨r0, r1, rf0, rf1, _⟩ := hR2.out
  go_wp2_with fail
  refine bodyPost_ret (v := .tuple #[.agg #[.string (bsB nm), .slice A l.length c], .int .i64 0]) ?hres rfl ?hfin
  case hfin => exact ⟨(fun h => by cases h), (fun nm2 l2 h => by cases h; exact ⟨A, c, rfl, hrc.out⟩), hbz.out⟩
  case hres =>
    have k0 := hset.out.c0
    have k1 := hset.out.c1
    generalize ((w2.setCell ⟨BR, 0, none⟩ (.string (bsB nm))).setCell ⟨BR, 1, none⟩ (.slice A l.length c)) = wz at *
    simp [results, Tryd.results16, go_sem, k0, k1]
set_option maxRecDepth 100000 in
set_option maxHeartbeats 1000000 in
theorem pusual_5 (w : World) (m0 : Int) (hM : MX w m0) (hK : PC.KindsAt w) (hg : 0 < w.heap.size) : Calls Tryd.prog 16 #[.int .i8 5] w fun e w' => PaR (some ([113, 117, 101, 101, 110], [⟨2, 0, 1, 0, 0, 0⟩, ⟨2, 1, 1, 0, 0, 0⟩])) e w w' := by
  have hR0 := Lib.hid (B2.new w (.string ⟨#[]⟩) (.slice none 0 0) 25)
  have hI0 := Lib.hid (NoI.new w ⟨#[]⟩ none 0 0 25)
  have hbX : Hid (Below w.heap.size w (w.alloc (.cells #[.string ⟨#[]⟩, .slice none 0 0] 25))) := (Below.refl _ _).alloc (Nat.le_refl _) _
  have hMu := Lib.hid (hM.next hbX.out)
  have hKu := Lib.hid (hK.below hg hbX.out)
  obtain ⟨nm, hnm⟩ : ∃ nm : List UInt8, [113, 117, 101, 101, 110] = nm := ⟨_, rfl⟩
  obtain ⟨at_, hat⟩ : ∃ at_ : List UInt8, [82, 48, 49, 43, 82, 49, 49] = at_ := ⟨_, rfl⟩
  obtain ⟨l, hl⟩ : ∃ l : List At, [⟨2, 0, 1, 0, 0, 0⟩, ⟨2, 1, 1, 0, 0, 0⟩] = l := ⟨_, rfl⟩
  have hp : parR (nm ++ 32 :: at_) = some (nm, l) := by rw [← hnm, ← hat, ← hl]; exact us_par5
  have hnl : nm.length = 5 := by rw [← hnm]; rfl
  have hal : at_.length = 7 := by rw [← hat]; rfl
  have hpc := Lib.hid (fun W hM => pparse_is (s := nm ++ 32 :: at_) W m0 hM (by rw [List.length_append, List.length_cons]; omega) hp)
  have hname : Hid (∀ W, PC.KindsAt W → Calls Tryd.prog 33 #[.int .i8 5] W fun e w' => e = .returned (.tuple #[.string (bsB nm), .int .i64 0]) ∧ W = w') := fun W h => by
    rw [← hnm]
    exact PC.pname_yes 5 W h (by decide) (by decide)
  have hlit : (ByteArray.mk #[82, 48, 49, 43, 82, 49, 49]) = bsB at_ := by rw [← hat]; rfl
  have h32 : (ByteArray.mk #[32]) = bsB [32] := rfl
  have hLn : Hid ([⟨2, 0, 1, 0, 0, 0⟩, ⟨2, 1, 1, 0, 0, 0⟩] = l) := hl
  have hNn : Hid ([113, 117, 101, 101, 110] = nm) := hnm
  have happ := bs_app
  have hbsz := bs_size
  have z0 : (9223372036854775807 < nm.length + 1) = False := eq_false (by omega)
  have z1 : (9223372036854775807 < nm.length + 1 + at_.length) = False := eq_false (by omega)
  rw [hl, hnm]
  clear hp hnm hat hl hM hK hnl hal
  go_enter Tryd.func16, Tryd.ntmps16
  go_upto_region 1 with fail
  obtain ⟨BR, hBR⟩ : ∃ BR, w.heap.size = BR := ⟨_, rfl⟩
  rw [hBR] at hR0 hI0
  simp only [hBR]
  have hBRH : Hid (w.heap.size = BR) := hBR
  clear hBR
  generalize w.alloc (.cells #[.string ⟨#[]⟩, .slice none 0 0] 25) = u at *
  go_upto_region 17 with (go_at_call 33; refine (hname.out _ hKu.out).mono ?_; rintro e w1 ⟨rfl, rfl⟩)
  go_wp2_with fail
  go_at_call 5
  refine (hpc.out _ hMu.out).mono ?_
  rintro e w2 ⟨A, c, rfl, hRc, hb2⟩
  replace hRc := Lib.hid hRc
  have hR2 := Lib.hid (hR0.out.next hb2)
  have hI2 := Lib.hid (hI0.out.next hR0.out.lt hb2)
  have hbw2 : Hid (Below w.heap.size w w2) := hbX.out.trans (hb2.mono hbX.out.size)
  clear hb2 hR0 hI0 hpc h32 hlit happ hbsz z0 z1 hbX hname
  have hset : Hid (B2 ((w2.setCell ⟨BR, 0, none⟩ (.string (bsB nm))).setCell ⟨BR, 1, none⟩ (.slice A l.length c)) BR (.string (bsB nm)) (.slice A l.length c)) := (hR2.out.set0 _).set1 _
  have hbz : Hid (Below w.heap.size w ((w2.setCell ⟨BR, 0, none⟩ (.string (bsB nm))).setCell ⟨BR, 1, none⟩ (.slice A l.length c))) := (hbw2.out.setCell (p := ⟨BR, 0, none⟩) (by show w.heap.size ≤ BR; have := hBRH.out; omega) _).setCell (p := ⟨BR, 1, none⟩) (by show w.heap.size ≤ BR; have := hBRH.out; omega) _
  have hrc : Hid (RecAt aEnc 6 ((w2.setCell ⟨BR, 0, none⟩ (.string (bsB nm))).setCell ⟨BR, 1, none⟩ (.slice A l.length c)) ((w2.setCell ⟨BR, 0, none⟩ (.string (bsB nm))).setCell ⟨BR, 1, none⟩ (.slice A l.length c)).heap.size A l) := by
    have := hI2.out.both hR2.out hRc.out (bsB nm) (.slice A l.length c)
    rw [nblk_set, nblk_set]
    exact this
  obtain ⟨r0, r1, rf0, rf1, _⟩ := hR2.out
  go_wp2_with fail
  refine bodyPost_ret (v := .tuple #[.agg #[.string (bsB nm), .slice A l.length c], .int .i64 0]) ?hres rfl ?hfin
  case hfin => exact ⟨(fun h => by cases h), (fun nm2 l2 h => by cases h; exact ⟨A, c, rfl, hrc.out⟩), hbz.out⟩
  case hres =>
    have k0 := hset.out.c0
    have k1 := hset.out.c1
    generalize ((w2.setCell ⟨BR, 0, none⟩ (.string (bsB nm))).setCell ⟨BR, 1, none⟩ (.slice A l.length c)) = wz at *
    simp [results, Tryd.results16, go_sem, k0, k1]
set_option maxRecDepth 100000 in
set_option maxHeartbeats 1000000 in
theorem pusual_6 (w : World) (m0 : Int) (hM : MX w m0) (hK : PC.KindsAt w) (hg : 0 < w.heap.size) : Calls Tryd.prog 16 #[.int .i8 6] w fun e w' => PaR (some ([107, 105, 110, 103], [⟨1, 0, 1, 0, 0, 0⟩, ⟨1, 1, 1, 0, 0, 0⟩])) e w w' := by
  have hR0 := Lib.hid (B2.new w (.string ⟨#[]⟩) (.slice none 0 0) 25)
  have hI0 := Lib.hid (NoI.new w ⟨#[]⟩ none 0 0 25)
  have hbX : Hid (Below w.heap.size w (w.alloc (.cells #[.string ⟨#[]⟩, .slice none 0 0] 25))) := (Below.refl _ _).alloc (Nat.le_refl _) _
  have hMu := Lib.hid (hM.next hbX.out)
  have hKu := Lib.hid (hK.below hg hbX.out)
  obtain ⟨nm, hnm⟩ : ∃ nm : List UInt8, [107, 105, 110, 103] = nm := ⟨_, rfl⟩
  obtain ⟨at_, hat⟩ : ∃ at_ : List UInt8, [76, 48, 49, 43, 76, 49, 49] = at_ := ⟨_, rfl⟩
  obtain ⟨l, hl⟩ : ∃ l : List At, [⟨1, 0, 1, 0, 0, 0⟩, ⟨1, 1, 1, 0, 0, 0⟩] = l := ⟨_, rfl⟩
  have hp : parR (nm ++ 32 :: at_) = some (nm, l) := by rw [← hnm, ← hat, ← hl]; exact us_par6
  have hnl : nm.length = 4 := by rw [← hnm]; rfl
  have hal : at_.length = 7 := by rw [← hat]; rfl
  have hpc := Lib.hid (fun W hM => pparse_is (s := nm ++ 32 :: at_) W m0 hM (by rw [List.length_append, List.length_cons]; omega) hp)
  have hname : Hid (∀ W, PC.KindsAt W → Calls Tryd.prog 33 #[.int .i8 6] W fun e w' => e = .returned (.tuple #[.string (bsB nm), .int .i64 0]) ∧ W = w') := fun W h => by
    rw [← hnm]
    exact PC.pname_yes 6 W h (by decide) (by decide)
  have hlit : (ByteArray.mk #[76, 48, 49, 43, 76, 49, 49]) = bsB at_ := by rw [← hat]; rfl
  have h32 : (ByteArray.mk #[32]) = bsB [32] := rfl
  have hLn : Hid ([⟨1, 0, 1, 0, 0, 0⟩, ⟨1, 1, 1, 0, 0, 0⟩] = l) := hl
  have hNn : Hid ([107, 105, 110, 103] = nm) := hnm
  have happ := bs_app
  have hbsz := bs_size
  have z0 : (9223372036854775807 < nm.length + 1) = False := eq_false (by omega)
  have z1 : (9223372036854775807 < nm.length + 1 + at_.length) = False := eq_false (by omega)
  rw [hl, hnm]
  clear hp hnm hat hl hM hK hnl hal
  go_enter Tryd.func16, Tryd.ntmps16
  go_upto_region 1 with fail
  obtain ⟨BR, hBR⟩ : ∃ BR, w.heap.size = BR := ⟨_, rfl⟩
  rw [hBR] at hR0 hI0
  simp only [hBR]
  have hBRH : Hid (w.heap.size = BR) := hBR
  clear hBR
  generalize w.alloc (.cells #[.string ⟨#[]⟩, .slice none 0 0] 25) = u at *
  go_upto_region 17 with (go_at_call 33; refine (hname.out _ hKu.out).mono ?_; rintro e w1 ⟨rfl, rfl⟩)
  go_wp2_with fail
  go_at_call 5
  refine (hpc.out _ hMu.out).mono ?_
  rintro e w2 ⟨A, c, rfl, hRc, hb2⟩
  replace hRc := Lib.hid hRc
  have hR2 := Lib.hid (hR0.out.next hb2)
  have hI2 := Lib.hid (hI0.out.next hR0.out.lt hb2)
  have hbw2 : Hid (Below w.heap.size w w2) := hbX.out.trans (hb2.mono hbX.out.size)
  clear hb2 hR0 hI0 hpc h32 hlit happ hbsz z0 z1 hbX hname
  have hset : Hid (B2 ((w2.setCell ⟨BR, 0, none⟩ (.string (bsB nm))).setCell ⟨BR, 1, none⟩ (.slice A l.length c)) BR (.string (bsB nm)) (.slice A l.length c)) := (hR2.out.set0 _).set1 _
  have hbz : Hid (Below w.heap.size w ((w2.setCell ⟨BR, 0, none⟩ (.string (bsB nm))).setCell ⟨BR, 1, none⟩ (.slice A l.length c))) := (hbw2.out.setCell (p := ⟨BR, 0, none⟩) (by show w.heap.size ≤ BR; have := hBRH.out; omega) _).setCell (p := ⟨BR, 1, none⟩) (by show w.heap.size ≤ BR; have := hBRH.out; omega) _
  have hrc : Hid (RecAt aEnc 6 ((w2.setCell ⟨BR, 0, none⟩ (.string (bsB nm))).setCell ⟨BR, 1, none⟩ (.slice A l.length c)) ((w2.setCell ⟨BR, 0, none⟩ (.string (bsB nm))).setCell ⟨BR, 1, none⟩ (.slice A l.length c)).heap.size A l) := by
    have := hI2.out.both hR2.out hRc.out (bsB nm) (.slice A l.length c)
    rw [nblk_set, nblk_set]
    exact this
  obtain ⟨r0, r1, rf0, rf1, _⟩ := hR2.out
  go_wp2_with fail
  refine bodyPost_ret (v := .tuple #[.agg #[.string (bsB nm), .slice A l.length c], .int .i64 0]) ?hres rfl ?hfin
  case hfin => exact ⟨(fun h => by cases h), (fun nm2 l2 h => by cases h; exact ⟨A, c, rfl, hrc.out⟩), hbz.out⟩
  case hres =>
    have k0 := hset.out.c0
    have k1 := hset.out.c1
    generalize ((w2.setCell ⟨BR, 0, none⟩ (.string (bsB nm))).setCell ⟨BR, 1, none⟩ (.slice A l.length c)) = wz at *
    simp [results, Tryd.results16, go_sem, k0, k1]
set_option maxRecDepth 100000 in
set_option maxHeartbeats 1000000 in
theorem pusual_no (k : Int) (w : World) (h : k < 2 ∨ 6 < k) : Calls Tryd.prog 16 #[.int .i8 k] w fun e w' => e = .returned (.tuple #[.agg #[.string ⟨#[]⟩, .slice none 0 0], .int .i64 2]) ∧ Below w.heap.size w w' := by
  have hR0 := Lib.hid (B2.new w (.string ⟨#[]⟩) (.slice none 0 0) 25)
  have hbX : Hid (Below w.heap.size w (w.alloc (.cells #[.string ⟨#[]⟩, .slice none 0 0] 25))) := (Below.refl _ _).alloc (Nat.le_refl _) _
  have hto : Hid (∀ W, Calls Tryd.prog 42 #[.int .i64 k, .int .i64 2, .int .i64 6] W fun e w' => e = .returned (.bool false) ∧ W = w') := fun W => by
    have := rto k 2 6 W
    rw [inB_no (by omega)] at this
    exact this
  have q2 : (k == 2) = false := by rw [beq_eq_false_iff_ne]; omega
  have q3 : (k == 3) = false := by rw [beq_eq_false_iff_ne]; omega
  have q4 : (k == 4) = false := by rw [beq_eq_false_iff_ne]; omega
  have q5 : (k == 5) = false := by rw [beq_eq_false_iff_ne]; omega
  have q6 : (k == 6) = false := by rw [beq_eq_false_iff_ne]; omega
  clear h
  go_enter Tryd.func16, Tryd.ntmps16
  go_upto_region 1 with fail
  obtain ⟨BR, hBR⟩ : ∃ BR, w.heap.size = BR := ⟨_, rfl⟩
  rw [hBR] at hR0
  simp only [hBR]
  have hBRH : Hid (w.heap.size = BR) := hBR
  clear hBR
  generalize w.alloc (.cells #[.string ⟨#[]⟩, .slice none 0 0] 25) = u at *
  have hset : Hid (B2 ((u.setCell ⟨BR, 0, none⟩ (.string ⟨#[]⟩)).setCell ⟨BR, 1, none⟩ (.slice none 0 0)) BR (.string ⟨#[]⟩) (.slice none 0 0)) := (hR0.out.set0 _).set1 _
  have hbz : Hid (Below w.heap.size w ((u.setCell ⟨BR, 0, none⟩ (.string ⟨#[]⟩)).setCell ⟨BR, 1, none⟩ (.slice none 0 0))) := (hbX.out.setCell (p := ⟨BR, 0, none⟩) (by show w.heap.size ≤ BR; have := hBRH.out; omega) _).setCell (p := ⟨BR, 1, none⟩) (by show w.heap.size ≤ BR; have := hBRH.out; omega) _
  obtain ⟨r0, r1, rf0, rf1, _⟩ := hR0.out
  go_wp2_with (go_at_call 42; refine (hto.out _).mono ?_; rintro e w1 ⟨rfl, rfl⟩)
  refine bodyPost_ret (v := .tuple #[.agg #[.string ⟨#[]⟩, .slice none 0 0], .int .i64 2]) ?hres rfl ?hfin
  case hfin => exact ⟨rfl, hbz.out⟩
  case hres =>
    have k0 := hset.out.c0
    have k1 := hset.out.c1
    generalize ((u.setCell ⟨BR, 0, none⟩ (.string ⟨#[]⟩)).setCell ⟨BR, 1, none⟩ (.slice none 0 0)) = wz at *
    simp [results, Tryd.results16, go_sem, k0, k1]
theorem pusual (k : Int) (w : World) (m0 : Int) (hM : MX w m0) (hK : PC.KindsAt w) (hg : 0 < w.heap.size) (h1 : 2 ≤ k) (h2 : k ≤ 6) : Calls Tryd.prog 16 #[.int .i8 k] w fun e w' => PaR (some (uNm k, uAt k)) e w w' := by
  rcases (by omega : k = 2 ∨ k = 3 ∨ k = 4 ∨ k = 5 ∨ k = 6) with rfl | rfl | rfl | rfl | rfl
  · exact pusual_2 w m0 hM hK hg
  · exact pusual_3 w m0 hM hK hg
  · exact pusual_4 w m0 hM hK hg
  · exact pusual_5 w m0 hM hK hg
  · exact pusual_6 w m0 hM hK hg
end Go.Proofs.YtbcdimklblpdnaaDoor
