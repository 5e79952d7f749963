/- Layer 3: the text of a board: the reference's. -/
import Derived.Test.YtjglpphfkkabnaaDoorBr
namespace Go.Proofs.YtjglpphfkkabnaaDoor
open Go.RowKit
set_option linter.unusedSimpArgs false
set_option linter.unusedVariables false

theorem rletter (p : Int) (w : World) (h1 : -15 ≤ p) (h2 : p ≤ 15) (h0 : p ≠ 0) : Calls Tryd.prog 51 #[.int .i8 p] w fun e w' => e = .returned (.int .u8 (PC.letV p)) ∧ w = w' := by
  rcases Int.lt_or_gt_of_ne h0 with h | h
  · exact PC.rletter_neg p w h1 h
  · exact PC.rletter_pos p w (by omega) h2
theorem conv1 (W : World) (v : Int) (b : UInt8) (h : v = (b.toNat : Int)) : (convert 80 9 (.slice (some ⟨W.heap.size, 0, none⟩) 1 1)).run Tryd.prog (W.alloc (.cells #[.int .u8 v] 5)) = .ok (.string ⟨#[b]⟩) (W.alloc (.cells #[.int .u8 v] 5)) :=
  conv_bytes _ _ 1 [b] (recs_b W b v h _) (by simp)
/-- the inner round's state: the text so far, the column, the waiting empty squares -/
def InT (f : Nat) (row : List Int) (Bt : List UInt8) (c e : Nat) (S : ByteArray) : Prop := ∃ O, S = bsL (Bt ++ O) ∧ (c ≤ f → RkI row c e O) ∧ (f < c → O = rkL row)
theorem InT.emp {f : Nat} {row : List Int} {Bt : List UInt8} {c e : Nat} {S : ByteArray} (h : InT f row Bt c e S) (hc : c < f) (hf : f ≤ 8) (hx : row[c]? = some 0) : InT f row Bt (c + 1) (e + 1) S := by
  obtain ⟨O, h1, h2, _⟩ := h
  exact ⟨O, h1, fun _ => (h2 (by omega)).emp hx (by omega), fun h => by omega⟩
theorem InT.le {f : Nat} {row : List Int} {Bt : List UInt8} {c e : Nat} {S : ByteArray} (h : InT f row Bt c e S) (hc : c ≤ f) : e ≤ c := by
  obtain ⟨O, _, h2, _⟩ := h
  exact (h2 hc).le
theorem InT.put {f : Nat} {row : List Int} {Bt : List UInt8} {c e : Nat} {S D : ByteArray} (h : InT f row Bt c e S) (hc : c < f) {p : Int} (hx : row[c]? = some p) (hp : p ≠ 0) (p0 : -15 ≤ p) (p1 : p ≤ 15) (hD : D = bsL (digB e)) : InT f row Bt (c + 1) 0 (S ++ D ++ ⟨#[bx (PC.letV p)]⟩) := by
  obtain ⟨O, rfl, h2, _⟩ := h
  subst hD
  refine ⟨O ++ digB e ++ [bx (PC.letV p)], ?_, fun _ => (h2 (by omega)).put hx hp p0 p1, fun h => by omega⟩
  show bsL (Bt ++ O) ++ bsL (digB e) ++ bsL [bx (PC.letV p)] = _
  rw [bsL_app, bsL_app, List.append_assoc, List.append_assoc, List.append_assoc]
theorem InT.put0 {f : Nat} {row : List Int} {Bt : List UInt8} {c : Nat} {S : ByteArray} (h : InT f row Bt c 0 S) (hc : c < f) {p : Int} (hx : row[c]? = some p) (hp : p ≠ 0) (p0 : -15 ≤ p) (p1 : p ≤ 15) : InT f row Bt (c + 1) 0 (S ++ ⟨#[bx (PC.letV p)]⟩) := by
  have h2 := h.put hc hx hp p0 p1 rfl
  rwa [show S ++ bsL (digB 0) = S from by apply ba_eq; simp [bsL, digB]] at h2
theorem InT.fin {f : Nat} {row : List Int} {Bt : List UInt8} {e : Nat} {S D : ByteArray} (h : InT f row Bt f e S) (hr : row.length = f) (hD : D = bsL (digB e)) : InT f row Bt (f + 1) 0 (S ++ D) := by
  obtain ⟨O, rfl, h2, _⟩ := h
  subst hD
  refine ⟨O ++ digB e, by rw [bsL_app, List.append_assoc], fun h => by omega, fun _ => (h2 (Nat.le_refl _)).done (by omega)⟩
theorem InT.fin0 {f : Nat} {row : List Int} {Bt : List UInt8} {S : ByteArray} (h : InT f row Bt f 0 S) (hr : row.length = f) : InT f row Bt (f + 1) 0 S := by
  have h2 := h.fin hr rfl
  rwa [show S ++ bsL (digB 0) = S from by apply ba_eq; simp [bsL, digB]] at h2
set_option maxRecDepth 100000 in
set_option maxHeartbeats 2000000 in
theorem rtext (f r : Nat) (A : Option Addr) (c : Nat) (l : List Int) (w : World) (hA : PcsAt w w.heap.size A l) (hv : bdB (f : Int) (r : Int) l = true) :
    Calls Tryd.prog 29 #[bV (f : Int) (r : Int) A l.length c] w fun e w' => e = .returned (.string (boardT f r l)) ∧ Below w.heap.size w w' := by
  obtain ⟨hs, hlen, hall⟩ := bdB_out hv
  obtain ⟨f0, f1, r0, r1⟩ := szB_out hs
  have hlr : Hid (l.length = r * f) := by
    have h9 : ((l.length : Nat) : Int) = ((r * f : Nat) : Int) := by rw [hlen, Int.natCast_mul, Int.mul_comm]
    exact Int.ofNat_inj.1 h9
  have hl64 : l.length ≤ 64 := by obtain ⟨n, z3, _, z4, _⟩ := size_nat hs; omega
  have hK := Lib.hid (KB.first (f : Int) (r : Int) A l.length c w 26)
  have hAW : Hid (∀ W, Below w.heap.size w W → PcsAt W w.heap.size A l) := fun W hb => hA.below (Nat.le_refl _) hb
  replace hall := Lib.hid hall
  have hfin := Lib.hid (tD_all f r l)
  clear hA hlen hs hv
  have c0 := hK.out.c0
  have c1 := hK.out.c1
  have c2 := hK.out.c2
  go_enter Tryd.func29, Tryd.ntmps29
  go_upto_region 1 with fail
  generalize w.alloc (.cells #[.int .i64 (f : Int), .int .i64 (r : Int), .slice A l.length c] 26) = w1 at *
  go_wp2_with fail
  go_loopw [3, 4, 5, 6] (fun sv i _ _ wr => ∃ (m : Nat) (y : Int) (S : ByteArray), m ≤ r ∧ i = .int .i64 y ∧ y = (m : Int) - 1 ∧ sv = .string S ∧ S.size ≤ 20 * (r - m) ∧ Hid (S = bsL (tD f r l (r - m))) ∧ Hid (KB (f : Int) (r : Int) A l.length c w wr)) (fun _ i _ _ _ => (intOf i + 1).toNat)
  case atStart => exact ⟨r, _, ⟨#[]⟩, Nat.le_refl _, rfl, by first | rfl | go_num | omega, rfl, Nat.zero_le _, by show _ = _; rw [Nat.sub_self]; rfl, hK⟩
  case round =>
    clear hK c0 c1 c2
    obtain ⟨m, y, S, hm, rfl, hy, rfl, hSz, hS, hK⟩ := hrel
    have c0 := hK.out.c0
    have c1 := hK.out.c1
    have c2 := hK.out.c2
    by_cases hm0 : 0 < m
    · obtain ⟨x, rfl⟩ : ∃ x, m = x + 1 := ⟨m - 1, by omega⟩
      obtain rfl : y = (x : Int) := by omega
      clear hy
      obtain ⟨j, hj⟩ : ∃ j, r - (x + 1) = j := ⟨_, rfl⟩
      rw [hj] at hS
      obtain ⟨Bt, hBt⟩ : ∃ Bt, (if j = 0 then [] else tD f r l j ++ [47]) = Bt := ⟨_, rfl⟩
      have hnx : Hid (bsL (Bt ++ rkL (rowOf f x l)) = bsL (tD f r l (r - x))) := by
        show _ = _
        rw [show r - x = j + 1 by omega]
        show _ = bsL ((if j = 0 then [] else tD f r l j ++ [47]) ++ rkL (rowOf f (r - 1 - j) l))
        rw [hBt, show r - 1 - j = x by omega]
      have hrl : Hid ((rowOf f x l).length = f) := rowOf_len hlr.out (by omega)
      have hrg : Hid (∀ k, k < f → (rowOf f x l)[k]? = l[x * f + k]?) := fun k hk => rowOf_get hk
      have hxl : x * f + f ≤ l.length := by
        have h : (x + 1) * f ≤ r * f := Nat.mul_le_mul_right _ hm
        rw [Nat.succ_mul, ← hlr.out] at h
        exact h
      obtain ⟨xf, hxf⟩ : ∃ xf, x * f = xf := ⟨_, rfl⟩
      have hxI : (x : Int) * (f : Int) = (xf : Int) := by rw [← hxf, Int.natCast_mul]
      rw [hxf] at hrg hxl
      clear hxf
      generalize rowOf f x l = row at *
      have hin : ∀ (S2 : ByteArray), S2 = bsL Bt → InT f row Bt 0 0 S2 := fun S2 h => ⟨[], by rw [List.append_nil]; exact h, fun _ => RkI.zero _, fun h => absurd h (by omega)⟩
      by_cases hj0 : j = 0
      · obtain rfl : S = ⟨#[]⟩ := by rw [hS.out, hj0]; rfl
        have hB0 := Lib.hid (hin ⟨#[]⟩ (by rw [← hBt, if_pos hj0]; rfl))
        replace hBt := Lib.hid hBt
        replace hj := Lib.hid hj
        replace hin := Lib.hid hin
        obtain ⟨N, hN⟩ : ∃ N, 20 * (r - (x + 1)) + 1 = N := ⟨_, rfl⟩
        clear hj0
        go_wp2_with fail
        go_loopw [3, 5, 6] (fun sv ev iv wr => ∃ (cc e : Nat) (S2 : ByteArray), cc ≤ f + 1 ∧ iv = .int .i64 cc ∧ ev = .int .i64 e ∧ sv = .string S2 ∧ S2.size ≤ N + 2 * cc ∧ Hid (InT f row Bt cc e S2) ∧ Hid (KB (f : Int) (r : Int) A l.length c w wr)) (fun _ _ iv _ => f + 1 - (intOf iv).toNat)
        case atStart => exact ⟨0, 0, _, by omega, rfl, rfl, rfl, Nat.zero_le _, hB0, hK⟩
        case round =>
          clear hK c0 c1 c2 hB0
          obtain ⟨cc, e, S2, hcc, rfl, rfl, rfl, hS2, hI, hK⟩ := hrel
          have c0 := hK.out.c0
          have c1 := hK.out.c1
          have c2 := hK.out.c2
          by_cases h1 : cc < f
          · obtain ⟨k, hk⟩ : ∃ k, xf + cc = k := ⟨_, rfl⟩
            have hkI : (xf : Int) + (cc : Int) = (k : Int) := by omega
            have hkl : k < l.length := by omega
            obtain ⟨b, off, rfl, hb, hc⟩ := hAW.out _ hK.out.below (by omega)
            obtain ⟨p, hp⟩ : ∃ p, l[k]? = some p := ⟨_, List.getElem?_eq_getElem hkl⟩
            have hrow : Hid (row[cc]? = some p) := by show _ = _; rw [hrg.out cc h1, hk]; exact hp
            have m0 := pcs1 hc hp
            obtain ⟨p0, p1⟩ := hall.out p (List.mem_of_getElem? hp)
            have he := hI.out.le (by omega)
            clear hc hp hk
            by_cases hp0 : p = 0
            · subst hp0
              have hI2 := Lib.hid (hI.out.emp h1 (by omega) hrow.out)
              go_wp2_with fail
              go_roundw
              case rel => exact ⟨cc + 1, e + 1, S2, by omega, by go_num, by go_num, rfl, by omega, hI2, hK⟩
              case measure => simp [intOf]; omega
            · have hlt := Lib.hid (rletter p wr p0 p1 hp0)
              obtain ⟨b8, hb8⟩ : ∃ b8, bx (PC.letV p) = b8 := ⟨_, rfl⟩
              have hcv := conv1 wr (PC.letV p) b8 (by rw [← hb8]; exact let_bx p)
              by_cases he0 : e = 0
              · subst he0
                have hI2 := Lib.hid (hI.out.put0 h1 hrow.out hp0 p0 p1)
                rw [hb8] at hI2
                replace hb8 := Lib.hid hb8
                generalize PC.letV p = V at *
                have hcat : (9223372036854775807 < S2.size + 1) = False := by rw [eq_iff_iff, iff_false]; omega
                go_wp2_with (go_at_call 51; refine hlt.out.mono ?_; rintro e w' ⟨rfl, rfl⟩)
                go_roundw
                case rel => exact ⟨cc + 1, 0, _, by omega, by go_num, rfl, rfl, by rw [ByteArray.size_append]; show _ + 1 ≤ _; omega, hI2, hK.out.alloc _⟩
                case measure => simp [intOf]; omega
              · have hD := dig_ext e (by omega) (by omega)
                have hDs : (ByteArray.extract ⟨#[48, 49, 50, 51, 52, 53, 54, 55, 56]⟩ e (e + 1)).size = 1 := by rw [hD, digB_pos (by omega)]; rfl
                have hI2 := Lib.hid (hI.out.put h1 hrow.out hp0 p0 p1 hD)
                rw [hb8] at hI2
                replace hb8 := Lib.hid hb8
                generalize PC.letV p = V at *
                replace hD := Lib.hid hD
                have hepos : (0 : Int) < (e : Int) := by omega
                have hcat : (9223372036854775807 < S2.size + 1) = False := by rw [eq_iff_iff, iff_false]; omega
                have hcat2 : (9223372036854775807 < S2.size + 1 + 1) = False := by rw [eq_iff_iff, iff_false]; omega
                go_wp2_with (go_at_call 51; refine hlt.out.mono ?_; rintro e w' ⟨rfl, rfl⟩)
                go_roundw
                case rel => exact ⟨cc + 1, 0, _, by omega, by go_num, rfl, rfl, by rw [ByteArray.size_append, ByteArray.size_append, hDs]; show _ + 1 + 1 ≤ _; omega, hI2, hK.out.alloc _⟩
                case measure => simp [intOf]; omega
          · by_cases h2 : cc = f
            · have he := hI.out.le (by omega)
              subst h2
              by_cases he0 : e = 0
              · subst he0
                have hI2 := Lib.hid (hI.out.fin0 hrl.out)
                go_wp2_with fail
                go_roundw
                case rel => exact ⟨cc + 1, 0, S2, by omega, by go_num, rfl, rfl, by omega, hI2, hK⟩
                case measure => simp [intOf]; try omega
              · have hD := dig_ext e (by omega) (by omega)
                have hDs : (ByteArray.extract ⟨#[48, 49, 50, 51, 52, 53, 54, 55, 56]⟩ e (e + 1)).size = 1 := by rw [hD, digB_pos (by omega)]; rfl
                have hI2 := Lib.hid (hI.out.fin hrl.out hD)
                replace hD := Lib.hid hD
                have hepos : (0 : Int) < (e : Int) := by omega
                have hcat : (9223372036854775807 < S2.size + 1) = False := by rw [eq_iff_iff, iff_false]; omega
                go_wp2_with fail
                go_roundw
                case rel => exact ⟨cc + 1, 0, _, by omega, by go_num, rfl, rfl, by rw [ByteArray.size_append, hDs]; omega, hI2, hK⟩
                case measure => simp [intOf]; try omega
            · obtain rfl : cc = f + 1 := by omega
              obtain ⟨O, hO1, _, hO3⟩ := hI.out
              have hS9 : Hid (S2 = bsL (tD f r l (r - x))) := by show _ = _; rw [hO1, hO3 (by omega)]; exact hnx.out
              clear hO1 hO3
              go_wp2_with fail
              go_roundw
              case rel => exact ⟨x, _, S2, by omega, rfl, by first | rfl | go_num | omega, rfl, by omega, hS9, hK⟩
              case measure => simp [intOf]; try omega
      · have hne : S.toList.isEmpty = false := emp_ne (by rw [hS.out]; exact bsL_ne (tD_ne hlr.out (by omega) (by omega) (by omega)))
        have hB0 := Lib.hid (hin (S ++ ⟨#[47]⟩) (by rw [hS.out, ← hBt, if_neg hj0]; exact bsL_app _ [47]))
        have hcat0 : (9223372036854775807 < S.size + 1) = False := by rw [eq_iff_iff, iff_false]; omega
        replace hBt := Lib.hid hBt
        replace hj := Lib.hid hj
        replace hin := Lib.hid hin
        obtain ⟨N, hN⟩ : ∃ N, 20 * (r - (x + 1)) + 1 = N := ⟨_, rfl⟩
        clear hj0
        go_wp2_with fail
        go_loopw [3, 5, 6] (fun sv ev iv wr => ∃ (cc e : Nat) (S2 : ByteArray), cc ≤ f + 1 ∧ iv = .int .i64 cc ∧ ev = .int .i64 e ∧ sv = .string S2 ∧ S2.size ≤ N + 2 * cc ∧ Hid (InT f row Bt cc e S2) ∧ Hid (KB (f : Int) (r : Int) A l.length c w wr)) (fun _ _ iv _ => f + 1 - (intOf iv).toNat)
        case atStart => exact ⟨0, 0, _, by omega, rfl, rfl, rfl, by rw [ByteArray.size_append]; show _ + 1 ≤ _; omega, hB0, hK⟩
        case round =>
          clear hK c0 c1 c2 hB0
          obtain ⟨cc, e, S2, hcc, rfl, rfl, rfl, hS2, hI, hK⟩ := hrel
          have c0 := hK.out.c0
          have c1 := hK.out.c1
          have c2 := hK.out.c2
          by_cases h1 : cc < f
          · obtain ⟨k, hk⟩ : ∃ k, xf + cc = k := ⟨_, rfl⟩
            have hkI : (xf : Int) + (cc : Int) = (k : Int) := by omega
            have hkl : k < l.length := by omega
            obtain ⟨b, off, rfl, hb, hc⟩ := hAW.out _ hK.out.below (by omega)
            obtain ⟨p, hp⟩ : ∃ p, l[k]? = some p := ⟨_, List.getElem?_eq_getElem hkl⟩
            have hrow : Hid (row[cc]? = some p) := by show _ = _; rw [hrg.out cc h1, hk]; exact hp
            have m0 := pcs1 hc hp
            obtain ⟨p0, p1⟩ := hall.out p (List.mem_of_getElem? hp)
            have he := hI.out.le (by omega)
            clear hc hp hk
            by_cases hp0 : p = 0
            · subst hp0
              have hI2 := Lib.hid (hI.out.emp h1 (by omega) hrow.out)
              go_wp2_with fail
              go_roundw
              case rel => exact ⟨cc + 1, e + 1, S2, by omega, by go_num, by go_num, rfl, by omega, hI2, hK⟩
              case measure => simp [intOf]; omega
            · have hlt := Lib.hid (rletter p wr p0 p1 hp0)
              obtain ⟨b8, hb8⟩ : ∃ b8, bx (PC.letV p) = b8 := ⟨_, rfl⟩
              have hcv := conv1 wr (PC.letV p) b8 (by rw [← hb8]; exact let_bx p)
              by_cases he0 : e = 0
              · subst he0
                have hI2 := Lib.hid (hI.out.put0 h1 hrow.out hp0 p0 p1)
                rw [hb8] at hI2
                replace hb8 := Lib.hid hb8
                generalize PC.letV p = V at *
                have hcat : (9223372036854775807 < S2.size + 1) = False := by rw [eq_iff_iff, iff_false]; omega
                go_wp2_with (go_at_call 51; refine hlt.out.mono ?_; rintro e w' ⟨rfl, rfl⟩)
                go_roundw
                case rel => exact ⟨cc + 1, 0, _, by omega, by go_num, rfl, rfl, by rw [ByteArray.size_append]; show _ + 1 ≤ _; omega, hI2, hK.out.alloc _⟩
                case measure => simp [intOf]; omega
              · have hD := dig_ext e (by omega) (by omega)
                have hDs : (ByteArray.extract ⟨#[48, 49, 50, 51, 52, 53, 54, 55, 56]⟩ e (e + 1)).size = 1 := by rw [hD, digB_pos (by omega)]; rfl
                have hI2 := Lib.hid (hI.out.put h1 hrow.out hp0 p0 p1 hD)
                rw [hb8] at hI2
                replace hb8 := Lib.hid hb8
                generalize PC.letV p = V at *
                replace hD := Lib.hid hD
                have hepos : (0 : Int) < (e : Int) := by omega
                have hcat : (9223372036854775807 < S2.size + 1) = False := by rw [eq_iff_iff, iff_false]; omega
                have hcat2 : (9223372036854775807 < S2.size + 1 + 1) = False := by rw [eq_iff_iff, iff_false]; omega
                go_wp2_with (go_at_call 51; refine hlt.out.mono ?_; rintro e w' ⟨rfl, rfl⟩)
                go_roundw
                case rel => exact ⟨cc + 1, 0, _, by omega, by go_num, rfl, rfl, by rw [ByteArray.size_append, ByteArray.size_append, hDs]; show _ + 1 + 1 ≤ _; omega, hI2, hK.out.alloc _⟩
                case measure => simp [intOf]; omega
          · by_cases h2 : cc = f
            · have he := hI.out.le (by omega)
              subst h2
              by_cases he0 : e = 0
              · subst he0
                have hI2 := Lib.hid (hI.out.fin0 hrl.out)
                go_wp2_with fail
                go_roundw
                case rel => exact ⟨cc + 1, 0, S2, by omega, by go_num, rfl, rfl, by omega, hI2, hK⟩
                case measure => simp [intOf]; try omega
              · have hD := dig_ext e (by omega) (by omega)
                have hDs : (ByteArray.extract ⟨#[48, 49, 50, 51, 52, 53, 54, 55, 56]⟩ e (e + 1)).size = 1 := by rw [hD, digB_pos (by omega)]; rfl
                have hI2 := Lib.hid (hI.out.fin hrl.out hD)
                replace hD := Lib.hid hD
                have hepos : (0 : Int) < (e : Int) := by omega
                have hcat : (9223372036854775807 < S2.size + 1) = False := by rw [eq_iff_iff, iff_false]; omega
                go_wp2_with fail
                go_roundw
                case rel => exact ⟨cc + 1, 0, _, by omega, by go_num, rfl, rfl, by rw [ByteArray.size_append, hDs]; omega, hI2, hK⟩
                case measure => simp [intOf]; try omega
            · obtain rfl : cc = f + 1 := by omega
              obtain ⟨O, hO1, _, hO3⟩ := hI.out
              have hS9 : Hid (S2 = bsL (tD f r l (r - x))) := by show _ = _; rw [hO1, hO3 (by omega)]; exact hnx.out
              clear hO1 hO3
              go_wp2_with fail
              go_roundw
              case rel => exact ⟨x, _, S2, by omega, rfl, by first | rfl | go_num | omega, rfl, by omega, hS9, hK⟩
              case measure => simp [intOf]; try omega
    · obtain rfl : m = 0 := by omega
      have hy0 : y = -1 := by omega
      have hSf : Hid (S = boardT f r l) := by show _ = _; rw [hS.out, Nat.sub_zero]; exact hfin.out
      subst hy0
      clear hy
      go_wp2_with fail
      go_ret
      exact ⟨by rw [← hSf.out]; first | done | rfl, hK.out.below⟩
end Go.Proofs.YtjglpphfkkabnaaDoor
