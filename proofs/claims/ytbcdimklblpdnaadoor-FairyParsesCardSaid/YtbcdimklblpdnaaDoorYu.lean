/- Layer 27: squares of the program. -/
import Derived.Test.YtbcdimklblpdnaaDoorYt
import Derived.Test.YtbcdimklblpdnaaDoorYp
namespace Go.Proofs.YtbcdimklblpdnaaDoor
open Go Go.RowKit
set_option linter.unusedSimpArgs false
set_option linter.unusedVariables false
theorem orL_from (R : List Int) : ∀ acc : Nat, R.foldl (fun o q => o ||| 2 ^ q.toNat) acc = acc ||| orL R := by
  induction R with
  | nil => intro acc; show acc = acc ||| 0; rw [Nat.or_zero]
  | cons q R ih =>
    intro acc
    show R.foldl _ (acc ||| 2 ^ q.toNat) = acc ||| R.foldl _ (0 ||| 2 ^ q.toNat)
    rw [ih, ih, Nat.zero_or, Nat.or_assoc]
theorem orL_app (V R : List Int) : orL (V ++ R) = orL V ||| orL R := by
  show (V ++ R).foldl _ 0 = _
  rw [List.foldl_append, orL_from]; rfl
theorem or_lt2 {x y : Nat} (h : x < 18446744073709551616) (h1 : y < 18446744073709551616) : x ||| y < 18446744073709551616 := Nat.or_lt_two_pow (n := 64) h h1
/-- the squares that are reached by all atoms but those of a mode -/
def visT (f r a : Nat) (ps : List Int) (b : Bool) (x : At) : List Int := (stepsL x b).flatMap fun s => reachV x f r a s.files s.ranks ps
def visP (f r a : Nat) (ps : List Int) (b : Bool) (but : Int) (l : List At) : List Int := l.flatMap fun x => if x.mode = but then [] else visT f r a ps b x
set_option maxRecDepth 100000 in
set_option maxHeartbeats 1000000 in
theorem psquares (f r a : Nat) (ps : List Int) (P : Option Addr) (c : Nat) (nm : ByteArray) (A : Option Addr) (l : List At) (ca : Nat) (b : Bool) (but : Int) (w : World) (h : Bd f r a ps) (hP : RecAt pEnc 1 w w.heap.size P ps) (hR : RecAt aEnc 6 w w.heap.size A l) (hok : ∀ x ∈ l, okA x) (hl : l.length ≤ 1000) :
    Calls Tryd.prog 30 #[.agg #[.int .i64 (f : Int), .int .i64 (r : Int), .slice P ps.length c], .agg #[.string nm, .slice A l.length ca], .int .i64 (a : Int), .bool b, .int .i64 but] w fun e w' => e = .returned (.int .u64 (orL (visP f r a ps b but l) : Nat)) ∧ orL (visP f r a ps b but l) < 18446744073709551616 ∧ Below w.heap.size w w' := by
  obtain ⟨u, hu⟩ : ∃ u, (w.alloc (.cells #[.int .i64 (f : Int), .int .i64 (r : Int), .slice P ps.length c] 48)).alloc (.cells #[.string nm, .slice A l.length ca] 25) = u := ⟨_, rfl⟩
  have hbA : Below w.heap.size w (w.alloc (.cells #[.int .i64 (f : Int), .int .i64 (r : Int), .slice P ps.length c] 48)) := (Below.refl _ _).alloc (Nat.le_refl _) _
  have hbB : Below (w.alloc (.cells #[.int .i64 (f : Int), .int .i64 (r : Int), .slice P ps.length c] 48)).heap.size (w.alloc (.cells #[.int .i64 (f : Int), .int .i64 (r : Int), .slice P ps.length c] 48)) ((w.alloc (.cells #[.int .i64 (f : Int), .int .i64 (r : Int), .slice P ps.length c] 48)).alloc (.cells #[.string nm, .slice A l.length ca] 25)) := (Below.refl _ _).alloc (Nat.le_refl _) _
  have e1 : (w.alloc (.cells #[.int .i64 (f : Int), .int .i64 (r : Int), .slice P ps.length c] 48)).heap.size = w.heap.size + 1 := by simp
  have hX0 : KBd u w.heap.size f r P ps.length c := hu ▸ (KBd.new w f r P ps.length c).next hbB
  have hF0 : KF u (w.heap.size + 1) nm A l.length ca := by
    have h1 := KF.new (w.alloc (.cells #[.int .i64 (f : Int), .int .i64 (r : Int), .slice P ps.length c] 48)) nm A l.length ca
    rw [e1] at h1
    exact hu ▸ h1
  have hb0 : Below w.heap.size w u := hu ▸ hbA.trans (hbB.mono hbA.size)
  have hX := Lib.hid hX0
  have hF := Lib.hid hF0
  have hb1 := Lib.hid hb0
  have hPH := Lib.hid (recs_next hP hb1.out)
  have hRH := Lib.hid (recs_next hR hb1.out)
  have hD := Lib.hid h
  have hokH := Lib.hid hok
  have hl64 : ps.length ≤ 64 := by rw [h.len]; exact Nat.mul_le_mul h.f1 h.r1
  clear hbA hbB e1 hX0 hF0 hb0 h hP hR hok
  obtain ⟨TOT, hTOT⟩ : ∃ V, visP f r a ps b but l = V := ⟨_, rfl⟩
  rw [hTOT]
  replace hTOT := Lib.hid hTOT
  go_enter Tryd.func30, Tryd.ntmps30
  go_upto_region 1 with fail
  generalize w.heap.size = B0 at hX hF ⊢
  simp only [hu] at *
  clear hu
  obtain ⟨f0, f1, _⟩ := hF.out
  go_wp2_with fail
  clear f0 f1
  go_loopw [11, 19] (fun s11 i wr => ∃ (k : Nat) (V : List Int), k ≤ l.length ∧ i = .int .i64 (k : Int) ∧ s11 = .int .u64 (orL V : Nat) ∧ orL V < 18446744073709551616 ∧ Hid (V ++ visP f r a ps b but (l.drop k) = TOT) ∧ Hid (Below u.heap.size u wr)) (fun _ i _ => l.length - (intOf i).toNat)
  case atStart => exact ⟨0, [], by omega, rfl, rfl, by decide, hTOT, Below.refl _ _⟩
  case round =>
    obtain ⟨k, V, hk, rfl, rfl, hVl, hV, hB⟩ := hrel
    by_cases hkl : k < l.length
    rotate_left
    · obtain rfl : k = l.length := by omega
      have hfin : Hid (V = TOT ∧ Below w.heap.size w wr) := by
        have h1 := hV.out
        rw [List.drop_length] at h1
        exact ⟨(List.append_nil V).symm.trans h1, hb1.out.trans (hB.out.mono hb1.out.size)⟩
      have hVlH := Lib.hid hVl
      go_wp2_with fail
      go_ret
      obtain ⟨rfl, h2⟩ := hfin.out
      exact ⟨rfl, hVlH.out, h2⟩
    obtain ⟨x, hx⟩ : ∃ x, l[k]? = some x := ⟨_, List.getElem?_eq_getElem hkl⟩
    have hxo : Hid (okA x) := hokH.out x (List.mem_of_getElem? hx)
    obtain ⟨ba, oa, rfl, hba, hat0⟩ := atoms6_of hRH.out hx
    have hat := hat0.next hba hB.out
    obtain ⟨g0, g1, g2, g3, g4, g5⟩ := hat
    have hdr : Hid (visP f r a ps b but (l.drop k) = (if x.mode = but then [] else visT f r a ps b x) ++ visP f r a ps b but (l.drop (k + 1))) := by
      show visP f r a ps b but (l.drop k) = _
      rw [List.drop_eq_getElem_cons hkl]
      have : l[k] = x := (List.getElem?_eq_some_iff.1 hx).2
      rw [this]
      unfold visP
      exact List.flatMap_cons
    clear hx hat0
    have hkI : (k : Int) < (l.length : Int) := by omega
    go_upto_region 5 with fail
    have hA0 := KA.new wr x
    have hbv := ((Below.refl wr.heap.size wr).alloc (Nat.le_refl _) (.cells #[.int .i64 x.kind, .int .i64 x.short, .int .i64 x.long, .int .i64 x.most, .int .i64 x.mode, .int .i64 x.way] 40))
    generalize wr.heap.size = B1 at hA0 ⊢
    have hBv := Lib.hid (hB.out.trans (hbv.mono hB.out.size))
    generalize wr.alloc (.cells #[.int .i64 x.kind, .int .i64 x.short, .int .i64 x.long, .int .i64 x.most, .int .i64 x.mode, .int .i64 x.way] 40) = v at *
    have hA := Lib.hid hA0
    clear hA0 hbv g0 g1 g2 g3 g4 g5 hB
    obtain ⟨a0, a1, a2, a3, a4, a5, _⟩ := hA.out
    by_cases hm : x.mode = but
    · have q1 : (x.mode == but) = true := by rw [beq_iff_eq]; exact hm
      have hV2 : Hid (V ++ visP f r a ps b but (l.drop (k + 1)) = TOT) := by
        have h1 := hV.out
        rw [hdr.out, if_pos hm] at h1
        exact h1
      clear hm hdr hV
      go_wp2_with fail
      go_roundw
      case rel => exact ⟨k + 1, V, by omega, by go_num, rfl, hVl, hV2, hBv⟩
      case measure => simp [intOf]; omega
    have q1 : (x.mode == but) = false := by rw [beq_eq_false_iff_ne]; exact hm
    rw [if_neg hm] at hdr
    clear hm
    have hst := Lib.hid (psteps x b v hxo.out)
    obtain ⟨L, hL⟩ : ∃ L, stepsL x b = L := ⟨_, rfl⟩
    have hLl : L.length ≤ 225 := hL ▸ stepsL_le x b
    have hLm : Hid (∀ s ∈ L, Dir f r a s.files s.ranks ps) := fun s hs => hD.out.dir hxo.out (hL ▸ hs)
    have hLv : Hid (visT f r a ps b x = L.flatMap fun s => reachV x f r a s.files s.ranks ps) := by show visT f r a ps b x = _; unfold visT; rw [hL]
    rw [hL] at hst
    clear hL
    go_upto_region 6 with fail
    go_wp2_with (go_at_call 26; refine hst.out.mono ?_; rintro e w2 hSt; obtain ⟨A2, c2, rfl, hR2⟩ := hSt.out; have hR2H := Lib.hid hR2; have hb2 := Lib.hid hSt.below; clear hSt hR2)
    clear a0 a1 a2 a3 a4 a5 hst
    have hBw := Lib.hid (hBv.out.trans (hb2.out.mono hBv.out.size))
    replace hA := Lib.hid (hA.out.next hb2.out)
    clear hb2 hBv
    go_loopw [11, 31] (fun s11 i wr => ∃ (j : Nat) (V2 : List Int), j ≤ L.length ∧ i = .int .i64 (j : Int) ∧ s11 = .int .u64 (orL V2 : Nat) ∧ orL V2 < 18446744073709551616 ∧ Hid (V2 ++ (L.drop j).flatMap (fun s => reachV x f r a s.files s.ranks ps) = V ++ visT f r a ps b x) ∧ Hid (Below w2.heap.size w2 wr)) (fun _ i _ => L.length - (intOf i).toNat)
    case atStart => exact ⟨0, V, by omega, rfl, rfl, hVl, by rw [hLv.out]; exact rfl, Below.refl _ _⟩
    case round =>
      clear hVl
      obtain ⟨j, V2, hj, rfl, rfl, hVl, hV2, hB2⟩ := hrel
      by_cases hjl : j < L.length
      rotate_left
      · obtain rfl : j = L.length := by omega
        have hfin : Hid (V2 ++ visP f r a ps b but (l.drop (k + 1)) = TOT) := by
          have h1 := hV2.out
          rw [List.drop_length] at h1
          have h2 : V2 = V ++ visT f r a ps b x := by rw [← h1]; exact (List.append_nil _).symm
          show _ = TOT
          rw [h2, List.append_assoc, ← hdr.out]
          exact hV.out
        have hBo := Lib.hid (hBw.out.trans (hB2.out.mono hBw.out.size))
        clear hV2 hB2
        go_wp2_with fail
        go_roundw
        case rel => exact ⟨k + 1, V2, by omega, by go_num, rfl, hVl, hfin, hBo⟩
        case measure => simp [intOf]; omega
      obtain ⟨st, hst⟩ : ∃ st, L[j]? = some st := ⟨_, List.getElem?_eq_getElem hjl⟩
      have hDi := Lib.hid (hLm.out st (List.mem_of_getElem? hst))
      obtain ⟨bs, os, rfl, hbs, hs20⟩ := steps2_of hR2H.out hst
      obtain ⟨s0, s1⟩ := hs20.next hbs hB2.out
      have hdr2 : Hid ((L.drop j).flatMap (fun s => reachV x f r a s.files s.ranks ps) = reachV x f r a st.files st.ranks ps ++ (L.drop (j + 1)).flatMap (fun s => reachV x f r a s.files s.ranks ps)) := by
        show (L.drop j).flatMap (fun s => reachV x f r a s.files s.ranks ps) = _
        rw [List.drop_eq_getElem_cons hjl, (List.getElem?_eq_some_iff.1 hst).2]
        exact List.flatMap_cons
      clear hst hs20
      have hjI : (j : Int) < (L.length : Int) := by omega
      have hj0 : (0 : Int) ≤ (j : Int) := Int.natCast_nonneg _
      go_upto_region 9 with fail
      have hK0 := KS.new wr st.files st.ranks
      have hbv := ((Below.refl wr.heap.size wr).alloc (Nat.le_refl _) (.cells #[.int .i64 st.files, .int .i64 st.ranks] 43))
      generalize wr.heap.size = B2 at hK0 ⊢
      have hBv := Lib.hid (hB2.out.trans (hbv.mono hB2.out.size))
      generalize wr.alloc (.cells #[.int .i64 st.files, .int .i64 st.ranks] 43) = v3 at *
      have hK := Lib.hid hK0
      clear hK0 hbv s0 s1 hB2
      have hBu := Lib.hid (hBw.out.trans (hBv.out.mono hBw.out.size))
      obtain ⟨x0, x1, x2, _⟩ := hX.out.next hBu.out
      obtain ⟨a0, a1, a2, a3, a4, a5, _⟩ := hA.out.next hBv.out
      obtain ⟨s0, s1, _⟩ := hK.out
      have hre := Lib.hid (preach x f r a st.files st.ranks ps P c v3 hDi.out (recs_next hPH.out hBu.out) hxo.out)
      obtain ⟨R, hR⟩ : ∃ R, reachV x f r a st.files st.ranks ps = R := ⟨_, rfl⟩
      rw [hR] at hre hdr2
      clear hR
      have hdr3 : Hid (V2 ++ R ++ (L.drop (j + 1)).flatMap (fun s => reachV x f r a s.files s.ranks ps) = V ++ visT f r a ps b x) := by
        show _ = V ++ visT f r a ps b x
        rw [← hV2.out, hdr2.out, List.append_assoc]
      have hoa := Lib.hid (orL_app V2 R)
      obtain ⟨oR, hoR⟩ : ∃ oR, orL R = oR := ⟨_, rfl⟩
      rw [hoR] at hre hoa
      obtain ⟨oV, hoV⟩ : ∃ oV, orL V2 = oV := ⟨_, rfl⟩
      rw [hoV] at hVl hoa ⊢
      clear hV2 hdr2 hoR hoV
      go_wp2_with fail
      go_at_call 52
      refine hre.out.mono ?_
      rintro e w4 ⟨rfl, hoRl, hb4⟩
      have hBo := Lib.hid (hBv.out.trans (hb4.mono hBv.out.size))
      have hor : bits BinOp.or IntKind.u64 (oV : Int) (oR : Int) = ((oV ||| oR : Nat) : Int) := bits_or_u64_nat oV oR hVl hoRl
      have hlt := Lib.hid (or_lt2 hVl hoRl)
      clear hb4 hre x0 x1 x2 a0 a1 a2 a3 a4 a5 s0 s1
      go_wp2_with fail
      go_roundw
      case rel => exact ⟨j + 1, V2 ++ R, by omega, by go_num, by rw [hoa.out], by rw [hoa.out]; exact hlt.out, hdr3, hBo⟩
      case measure => simp [intOf]; omega
end Go.Proofs.YtbcdimklblpdnaaDoor
