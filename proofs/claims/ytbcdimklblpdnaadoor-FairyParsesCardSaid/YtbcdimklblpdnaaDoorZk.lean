/- Layer 27: Text of the program. -/
import Derived.Test.YtbcdimklblpdnaaDoorZj
import Derived.Test.YtbcdimklblpdnaaDoorZi
import Derived.Test.YtbcdimklblpdnaaDoorYe
namespace Go.Proofs.YtbcdimklblpdnaaDoor
open Go Go.RowKit
set_option linter.unusedSimpArgs false
set_option linter.unusedVariables false
/-- the cell of the library that its texts read -/
structure MX (w : World) (m : Int) : Prop where
  c : w.cell? ⟨1, 0, none⟩ = some (.int .i64 m)
  lt : 1 < w.heap.size
theorem MX.next {w w' : World} {m : Int} (h : MX w m) (hb : Below w.heap.size w w') : MX w' m :=
  ⟨(hb.cell (p := ⟨1, 0, none⟩) h.lt).trans h.c, Nat.lt_of_lt_of_le h.lt hb.size⟩
theorem wf_small {n : Int} (h1 : -128 ≤ n) (h2 : n ≤ 127) : (Lit.int .i64 n).wf = true := by
  show (decide (-9223372036854775808 ≤ n) && decide (n ≤ 9223372036854775807)) = true
  rw [decide_eq_true (by omega), decide_eq_true (by omega)]; rfl
theorem wfA_ok {x : At} (h : okA x) : wfA x := by
  obtain ⟨hk, hm, hy, hs, hl, hx⟩ := h
  have hx7 : x.most ≤ 7 := by have := hx.2; unfold mostA at this; split at this <;> omega
  exact ⟨wf_small (by omega) (by omega), wf_small (by omega) (by omega), wf_small (by omega) (by omega), wf_small (by omega) (by omega), wf_small (by omega) (by omega), wf_small (by omega) (by omega)⟩
theorem wfA_fy {s : ByteArray} {l : List At} (h : okFy s l) : ∀ x ∈ l, wfA x := fun x hx => wfA_ok (okFy_ok h x hx)
theorem pjoinW {base c : Nat} {w0 w : World} {A : Option Addr} {p : List (List UInt8)} (h : O1 wEnc 1 base 9 w0 w A c p) (h0 : 0 < p.length) (hn : p.length ≤ 100000) (hl : (jnS 43 p).length ≤ 1000000) :
    Calls Tryd.prog 36 #[.slice A p.length c, .string ⟨#[43]⟩] w fun e w' => e = .returned (.string (bsB (jnS 43 p))) ∧ Below w.heap.size w w' := by
  obtain ⟨g, rfl, _, hlt⟩ := O1.form h h0
  have e1 : (p.map bsB).length = p.length := List.length_map ..
  have e2 : (p.map bsB).map (·.data.toList) = p := by
    rw [List.map_map]
    exact List.map_id p
  have e3 : Lib.join ((p.map bsB).map (·.data.toList)) (ByteArray.mk #[43]).data.toList = jnS 43 p := by
    rw [e2]; exact jn_join 43 p
  have hJ := sh_strings_Join g 0 c (p.map bsB) ⟨#[43]⟩ w (fun j x hx => by
    rw [List.getElem?_map] at hx
    cases hy : p[j]? with
    | none => rw [hy] at hx; cases hx
    | some y =>
      rw [hy] at hx
      obtain rfl : bsB y = x := Option.some.inj hx
      rw [Nat.zero_add]
      exact O1.cell1 (fun _ => rfl) h hy) hlt (by rw [e1]; omega) (by rw [e1]; exact own_cap h.own h0) (by rw [e3]; omega)
  rw [e1, e3] at hJ
  exact hJ
set_option maxRecDepth 100000 in
set_option maxHeartbeats 1000000 in
theorem ptext_no (s : ByteArray) (A : Option Addr) (l : List At) (ca : Nat) (w : World) (hR : RecAt aEnc 6 w w.heap.size A l) (hwf : ∀ x ∈ l, wfA x) (hla : l.length ≤ 100000) (hs : s.size ≤ maxLen) (hno : ¬ okFy s l) :
    Calls Tryd.prog 17 #[.agg #[.string s, .slice A l.length ca]] w fun e w' => e = .returned (.tuple #[.string ⟨#[]⟩, .int .i64 2]) ∧ Below w.heap.size w w' := by
  have hF := Lib.hid (KF.new w s A l.length ca)
  have hb1 : Hid (Below w.heap.size w (w.alloc (.cells #[.string s, .slice A l.length ca] 25))) := (Below.refl _ _).alloc (Nat.le_refl _) _
  have hRH := Lib.hid (recs_next hR hb1.out)
  have hV := Lib.hid (pvalid s A l ca (w.alloc (.cells #[.string s, .slice A l.length ca] 25)) hRH.out hwf hla hs)
  rw [fyB_no hno] at hV
  clear hno hR hwf
  go_enter Tryd.func17, Tryd.ntmps17
  go_upto_region 1 with fail
  generalize w.heap.size = B0 at hF ⊢
  generalize w.alloc (.cells #[.string s, .slice A l.length ca] 25) = u at *
  obtain ⟨f0, f1, _⟩ := hF.out
  go_wp2_with (go_at_call 34; refine hV.out.mono ?_; rintro e w2 ⟨rfl, hb2⟩; replace hb2 := Lib.hid hb2)
  go_ret2
  exact ⟨rfl, hb1.out.trans (hb2.out.mono hb1.out.size)⟩
set_option maxRecDepth 100000 in
set_option maxHeartbeats 1000000 in
theorem ptext_yes (nm : List UInt8) (A : Option Addr) (l : List At) (ca : Nat) (w : World) (m0 : Int) (hR : RecAt aEnc 6 w w.heap.size A l) (hok : okFy (bsB nm) l) (hM : MX w m0) :
    Calls Tryd.prog 17 #[.agg #[.string (bsB nm), .slice A l.length ca]] w fun e w' => e = .returned (.tuple #[.string (bsB (txL nm l)), .int .i64 0]) ∧ Below w.heap.size w w' := by
  have hF := Lib.hid (KF.new w (bsB nm) A l.length ca)
  have hb1 : Hid (Below w.heap.size w (w.alloc (.cells #[.string (bsB nm), .slice A l.length ca] 25))) := (Below.refl _ _).alloc (Nat.le_refl _) _
  have hRH := Lib.hid (recs_next hR hb1.out)
  have hMH := Lib.hid (hM.next hb1.out)
  have hnl := (givV_len hok.2).2
  have hl8 : l.length ≤ 8 := hok.1.2.2
  have hl1 : 1 ≤ l.length := hok.1.2.1
  have hV := Lib.hid (pvalid (bsB nm) A l ca (w.alloc (.cells #[.string (bsB nm), .slice A l.length ca] 25)) hRH.out (wfA_fy hok) (by omega) (by rw [bs_size]; unfold maxLen; omega))
  rw [fyB_yes hok] at hV
  have hokH := Lib.hid hok
  have htx : Hid (txL nm l = nm ++ [32] ++ jnS 43 (l.map atB)) := by show _ = _; rw [← plus_jn hl1]; rfl
  have hjl : (jnS 43 (l.map atB)).length ≤ 64 := by
    rw [← plus_jn hl1]
    have := plusK_len l l.length
    omega
  clear hR hok hM
  have hbsz := bs_size nm
  go_enter Tryd.func17, Tryd.ntmps17
  go_upto_region 1 with fail
  generalize w.heap.size = B0 at hF ⊢
  generalize w.alloc (.cells #[.string (bsB nm), .slice A l.length ca] 25) = u at *
  obtain ⟨f0, f1, _⟩ := hF.out
  go_upto_region 3 with (go_at_call 34; refine hV.out.mono ?_; rintro e w2 ⟨rfl, hb2⟩; replace hb2 := Lib.hid hb2; clear f0 f1; obtain ⟨f0, f1, _⟩ := hF.out.next hb2.out)
  go_wp2_with fail
  clear f0 f1 hV
  go_loopw [4, 13] (fun s4 i wr => ∃ (k : Nat) (p : List (List UInt8)) (A4 : Option Addr) (c4 : Nat), k ≤ l.length ∧ i = .int .i64 (k : Int) ∧ Hid (p.length = k) ∧ s4 = .slice A4 p.length c4 ∧ Hid (p = (l.take k).map atB) ∧ Hid (O1 wEnc 1 u.heap.size 9 u wr A4 c4 p)) (fun _ i _ => l.length - (intOf i).toNat)
  case atStart => exact ⟨0, [], none, 0, by omega, rfl, rfl, rfl, rfl, O1.nil hb2.out hb2.out.size⟩
  case round =>
    clear hb2
    obtain ⟨k, p, A4, c4, hk, rfl, hpk, rfl, hp, hO⟩ := hrel
    have hk0 : (0 : Int) ≤ (k : Int) := Int.natCast_nonneg _
    have hB : Hid (Below u.heap.size u wr) := hO.out.below
    obtain ⟨f0, f1, _⟩ := hF.out.next hB.out
    by_cases hkl : k < l.length
    rotate_left
    · obtain rfl : k = l.length := by omega
      have hpe : p = l.map atB := by rw [hp.out, List.take_length]
      have hpk2 := hpk.out
      have hp0 : 0 < p.length := by omega
      have hJ := Lib.hid (pjoinW (hO.out.drew) hp0 (by omega) (by rw [hpe]; omega))
      have hfin : Hid (nm ++ 32 :: jnS 43 p = txL nm l) := by show _ = _; rw [htx.out, hpe]; simp
      have hjp : (jnS 43 p).length ≤ 64 := by rw [hpe]; exact hjl
      obtain ⟨JS, hJS⟩ : ∃ JS, jnS 43 p = JS := ⟨_, rfl⟩
      rw [hJS] at hJ hfin hjp
      have happ := bs_app
      have hbs2 := bs_size
      have h32 : (ByteArray.mk #[32]) = bsB [32] := rfl
      have z0 : (9223372036854775807 < nm.length + 1) = False := eq_false (by omega)
      have z1 : (9223372036854775807 < nm.length + 1 + JS.length) = False := eq_false (by omega)
      have hS : Hid (∀ W, Below wr.heap.size wr W → W.cell? ⟨B0, 0, none⟩ = some (.string (bsB nm))) := fun W h => by
        have h2 := (hF.out.next hB.out).next h
        exact h2.c0
      clear hpe hp hp0 hJS hjl hpk2
      go_upto_region 9 with fail
      refine wp_region_held_drew (S := fun W => W.cell? ⟨B0, 0, none⟩ = some (.string (bsB nm))) (by kernel_rfl) (hS.out _ ((Below.refl _ _).drew)) (fun hHeld => ?_)
      refine wpAnyH_take (i := 0) (v := ?_) rfl (by kernel_rfl) (by kernel_rfl) (by kernel_rfl) (fun _ _ _ h => h) (Or.inl ⟨by rfl, ?_⟩) hHeld ?_
      rotate_left
      · intro W9 hSw; (try dsimp only at hSw); go_simp; (try with_reducible rfl)
      simp only [Act.put, List.getElem_toArray, List.getElem_cons_zero, List.getElem_cons_succ, List.setIfInBounds_toArray, List.set_cons_zero, List.set_cons_succ]
      refine wpAnyH_take (i := 1) (v := ?_) rfl (by kernel_rfl) (by kernel_rfl) (by kernel_rfl) (fun _ _ _ h => h) (Or.inl ⟨by rfl, ?_⟩) hHeld ?_
      rotate_left
      · intro W9 hSw; (try dsimp only at hSw); go_simp; (try with_reducible rfl)
      simp only [Act.put, List.getElem_toArray, List.getElem_cons_zero, List.getElem_cons_succ, List.setIfInBounds_toArray, List.set_cons_zero, List.set_cons_succ]
      refine wpAnyH_take (i := 2) (v := ?_) rfl (by kernel_rfl) (by kernel_rfl) (by kernel_rfl) (fun _ _ _ h => h) (Or.inl ⟨by rfl, ?_⟩) hHeld ?_
      rotate_left
      · intro W9 hSw; (try dsimp only at hSw); go_simp; (try with_reducible rfl)
      simp only [Act.put, List.getElem_toArray, List.getElem_cons_zero, List.getElem_cons_succ, List.setIfInBounds_toArray, List.set_cons_zero, List.set_cons_succ]
      refine wpAnyH_take (i := 3) (v := ?_) rfl (by kernel_rfl) (by kernel_rfl) (by kernel_rfl) (fun _ _ _ h => h) (Or.inl ⟨by rfl, ?_⟩) hHeld ?_
      rotate_left
      · intro W9 hSw; (try dsimp only at hSw); go_simp; (try with_reducible rfl)
      simp only [Act.put, List.getElem_toArray, List.getElem_cons_zero, List.getElem_cons_succ, List.setIfInBounds_toArray, List.set_cons_zero, List.set_cons_succ]
      refine wpAnyH_ready (rs := [4]) (by kernel_rfl) (by simp) ?_
      refine AllReadyH.cons rfl (fun K hK => ?_) AllReadyH.nil
      go_simp
      go_at_call 36
      refine hJ.out.mono ?_
      rintro e w9 ⟨rfl, hb⟩
      have hb9 := Lib.hid (undrew hb)
      clear hb
      refine hK.out _ _ (hS.out _ hb9.out) (fun hHeld2 => ?_)
      clear hK K hHeld
      have hHeld := hHeld2
      clear hHeld2
      refine wpAnyH_take (i := 5) (v := ?_) rfl (by kernel_rfl) (by kernel_rfl) (by kernel_rfl) (fun _ _ _ h => h) (Or.inl ⟨by rfl, ?_⟩) hHeld ?_
      rotate_left
      · intro W9 hSw; (try dsimp only at hSw); go_simp; (try with_reducible rfl)
      simp only [Act.put, List.getElem_toArray, List.getElem_cons_zero, List.getElem_cons_succ, List.setIfInBounds_toArray, List.set_cons_zero, List.set_cons_succ]
      refine wpAnyH_take (i := 6) (v := ?_) rfl (by kernel_rfl) (by kernel_rfl) (by kernel_rfl) (fun _ _ _ h => h) (Or.inl ⟨by rfl, ?_⟩) hHeld ?_
      rotate_left
      · intro W9 hSw; (try dsimp only at hSw); go_simp; (try with_reducible rfl)
      simp only [Act.put, List.getElem_toArray, List.getElem_cons_zero, List.getElem_cons_succ, List.setIfInBounds_toArray, List.set_cons_zero, List.set_cons_succ]
      refine wpAnyH_take (i := 7) (v := ?_) rfl (by kernel_rfl) (by kernel_rfl) (by kernel_rfl) (fun _ _ _ h => h) (Or.inl ⟨by rfl, ?_⟩) hHeld ?_
      rotate_left
      · intro W9 hSw; (try dsimp only at hSw); go_simp; (try with_reducible rfl)
      simp only [Act.put, List.getElem_toArray, List.getElem_cons_zero, List.getElem_cons_succ, List.setIfInBounds_toArray, List.set_cons_zero, List.set_cons_succ]
      refine wpAnyH_done (by kernel_rfl) ?_ _
      go_wp2_with fail
      go_ret2
      exact ⟨by rw [← hfin.out]; rfl, hb1.out.trans (((hB.out.trans (hb9.out.mono hB.out.size))).mono hb1.out.size)⟩
    have hkI : (k : Int) < (l.length : Int) := by omega
    obtain ⟨x, hx⟩ : ∃ x, l[k]? = some x := ⟨_, List.getElem?_eq_getElem hkl⟩
    have hxo : Hid (okA x) := fy_at hokH.out hx
    obtain ⟨ba, oa, rfl, hba, hat0⟩ := atoms6_of hRH.out hx
    obtain ⟨g0, g1, g2, g3, g4, g5⟩ := hat0.next hba hB.out
    have hp2 : Hid (p ++ [atB x] = (l.take (k + 1)).map atB) := by
      show _ = _
      rw [take_step hx, List.map_append, ← hp.out]; rfl
    have hpn : Hid ((p ++ [atB x]).length = k + 1) := by show _ = _; rw [List.length_append, hpk.out]; rfl
    have hX := Lib.hid (KA.new wr x)
    have hbx : Hid (Below wr.heap.size wr (wr.alloc (.cells #[.int .i64 x.kind, .int .i64 x.short, .int .i64 x.long, .int .i64 x.most, .int .i64 x.mode, .int .i64 x.way] 40))) := (Below.refl _ _).alloc (Nat.le_refl _) _
    have hO1 := Lib.hid (hO.out.next hbx.out)
    have hM1 := Lib.hid ((hMH.out.next hB.out).next hbx.out)
    have hpl : p.length ≤ 8 := by rw [hpk.out]; omega
    clear hx hat0 hp hpk
    go_upto_region 7 with fail
    generalize wr.heap.size = B6 at hX ⊢
    generalize wr.alloc (.cells #[.int .i64 x.kind, .int .i64 x.short, .int .i64 x.long, .int .i64 x.most, .int .i64 x.mode, .int .i64 x.way] 40) = w6 at *
    clear g0 g1 g2 g3 g4 g5 hO hbx
    obtain ⟨g0, g1, g2, g3, g4, g5, _⟩ := hX.out
    have htc := Lib.hid (ptext x w6 m0 hxo.out hM1.out.c hM1.out.lt)
    obtain ⟨tx, htx2⟩ : ∃ tx, atB x = tx := ⟨_, rfl⟩
    rw [htx2] at hp2 hpn htc
    clear htx2
    go_wp2_with (first | (go_at_call 35; refine htc.out.mono ?_; rintro e w7 ⟨rfl, hb7⟩; have hO7 := Lib.hid (hO1.out.next hb7); clear hb7) | (at_builtin; refine wpList_append_recs wordRow wEnc_len wEnc_one rfl _ _ rfl u.heap.size A4 c4 p rfl (hO7.out.alloc _).own _ 1 [tx] rfl (recs_w _ tx _) (by simp; omega) (hO7.out.alloc _).size ?_; intro A' c' w' hown hg _; have hO' := Lib.hid ((hO7.out.alloc _).app hown hg); clear hown hg))
    go_roundw
    case rel => exact ⟨k + 1, p ++ [tx], A', c', by omega, by go_num, hpn, by first | rfl | simp, hp2, hO'⟩
    case measure => simp [intOf]; omega
end Go.Proofs.YtbcdimklblpdnaaDoor
