/- Layer 27: the law on the squares that a fairy piece reaches. -/
import Derived.Test.YtbcdimklblpdnaaGreatDoorZr
namespace Go.Proofs.YtbcdimklblpdnaaGreatDoor
open Go Go.RowKit
set_option linter.unusedSimpArgs false
set_option linter.unusedVariables false
/-- what the program's and the reference's functions give at one board, piece and square -/
structure RcH (f r : Int) (ps : List Int) (s : ByteArray) (l : List At) (a : Int) (b : Bool) (X Y Z : Nat) (E : Int) (V : Bool) : Prop where
  at_ : ∀ (W : World) (P A : Option Addr) (c ca : Nat), RecAt pEnc 1 W W.heap.size P ps → RecAt aEnc 6 W W.heap.size A l → Calls Tryz.prog 14 #[.agg #[.int .i64 f, .int .i64 r, .slice P ps.length c], .agg #[.string s, .slice A l.length ca], .int .i64 a, .bool b] W fun e w' => e = .returned (.tuple #[.int .u64 (X : Nat), .int .i64 E]) ∧ Below W.heap.size W w'
  go : ∀ (W : World) (P A : Option Addr) (c ca : Nat), RecAt pEnc 1 W W.heap.size P ps → RecAt aEnc 6 W W.heap.size A l → Calls Tryz.prog 15 #[.agg #[.int .i64 f, .int .i64 r, .slice P ps.length c], .agg #[.string s, .slice A l.length ca], .int .i64 a, .bool b] W fun e w' => e = .returned (.tuple #[.int .u64 (Y : Nat), .int .i64 E]) ∧ Below W.heap.size W w'
  tk : ∀ (W : World) (P A : Option Addr) (c ca : Nat), RecAt pEnc 1 W W.heap.size P ps → RecAt aEnc 6 W W.heap.size A l → Calls Tryz.prog 16 #[.agg #[.int .i64 f, .int .i64 r, .slice P ps.length c], .agg #[.string s, .slice A l.length ca], .int .i64 a, .bool b] W fun e w' => e = .returned (.tuple #[.int .u64 (Z : Nat), .int .i64 E]) ∧ Below W.heap.size W w'
  fine : ∀ (W : World) (P A : Option Addr) (c ca : Nat), RecAt pEnc 1 W W.heap.size P ps → RecAt aEnc 6 W W.heap.size A l → Calls Tryz.prog 17 #[.agg #[.int .i64 f, .int .i64 r, .slice P ps.length c], .agg #[.string s, .slice A l.length ca], .int .i64 a] W fun e w' => e = .returned (.bool V) ∧ Below W.heap.size W w'
  sq : V = true → ∀ (W : World) (P A : Option Addr) (c ca : Nat), RecAt pEnc 1 W W.heap.size P ps → RecAt aEnc 6 W W.heap.size A l → Calls Tryz.prog 18 #[.agg #[.int .i64 f, .int .i64 r, .slice P ps.length c], .agg #[.string s, .slice A l.length ca], .int .i64 a, .bool b] W fun e w' => e = .returned (.tuple #[.int .u64 (X : Nat), .int .u64 (Y : Nat), .int .u64 (Z : Nat)]) ∧ Below W.heap.size W w'
  cs : (V = true ∧ E = 0) ∨ (V = false ∧ E = 2 ∧ X = 0 ∧ Y = 0 ∧ Z = 0)
theorem orL_lt : ∀ (l : List Int), (∀ q ∈ l, q.toNat < 64) → orL l < 18446744073709551616 := by
  have key : ∀ (l : List Int) (acc : Nat), acc < 18446744073709551616 → (∀ q ∈ l, q.toNat < 64) → l.foldl (fun o q => o ||| 2 ^ q.toNat) acc < 18446744073709551616 := by
    intro l
    induction l with
    | nil => intro acc h _; exact h
    | cons q l ih =>
      intro acc h hq
      exact ih _ (or_lt h (hq q List.mem_cons_self)) (fun x hx => hq x (List.mem_cons_of_mem _ hx))
  exact fun l h => key l 0 (by decide) h
theorem orP_lt {f r a : Nat} {ps : List Int} {b : Bool} (h : Bd f r a ps) {l : List At} (hl : ∀ x ∈ l, okA x) (but : Int) : orL (visP f r a ps b but l) < 18446744073709551616 := by
  refine orL_lt _ fun q hq => ?_
  obtain ⟨x, hx, _, hv⟩ := mem_visP.1 hq
  have h1 := visT_mem h (hl x hx) hv
  have h2 : ps.length ≤ 64 := by
    rw [h.len]
    exact Nat.mul_le_mul h.f1 h.r1
  omega
theorem rch_of (f r : Int) (ps : List Int) (s : ByteArray) (l : List At) (a : Int) (b : Bool) (hps : ∀ p ∈ ps, -128 ≤ p ∧ p ≤ 127) (hwf : ∀ x ∈ l, wfA x) (hl : ps.length ≤ 100000) (hla : l.length ≤ 100000) (hs : s.size ≤ maxLen) : ∃ X Y Z E V, RcH f r ps s l a b X Y Z E V := by
  by_cases hok : okAll f r ps s l a
  rotate_left
  · refine ⟨0, 0, 0, 2, false, fun W P A c ca h1 h2 => pattacks_no f r ps P c s A l ca a b W h1 h2 hl hwf hla hs hok, fun W P A c ca h1 h2 => pgoes_no f r ps P c s A l ca a b W h1 h2 hl hwf hla hs hok, fun W P A c ca h1 h2 => ptakes_no f r ps P c s A l ca a b W h1 h2 hl hwf hla hs hok, fun W P A c ca h1 h2 => ?_, (fun h => by cases h), .inr ⟨rfl, rfl, rfl, rfl, rfl⟩⟩
    have := rfine f r ps P c s A l ca a W h1 h2 hl hps hla hs
    rw [alB_no hok] at this
    exact this
  · obtain ⟨⟨⟨f3, f8⟩, ⟨r3, r8⟩, hlen, hpv⟩, hfy, ha0, hal⟩ := hok
    have hok2 : okAll f r ps s l a := ⟨⟨⟨f3, f8⟩, ⟨r3, r8⟩, hlen, hpv⟩, hfy, ha0, hal⟩
    obtain ⟨F, rfl⟩ := Int.eq_ofNat_of_zero_le (show 0 ≤ f by omega)
    obtain ⟨R, rfl⟩ := Int.eq_ofNat_of_zero_le (show 0 ≤ r by omega)
    obtain ⟨a0, rfl⟩ := Int.eq_ofNat_of_zero_le ha0
    have hlen2 : ps.length = F * R := by exact_mod_cast hlen
    have hB : Bd F R a0 ps := ⟨by omega, by omega, by omega, by omega, hlen2, by omega⟩
    have hokl := okFy_ok hfy
    refine ⟨orF pA (visA F R a0 ps b l), orF (pG ps) (visA F R a0 ps b l), orF (pT b ps) (visA F R a0 ps b l), 0, true, fun W P A c ca h1 h2 => ?_, fun W P A c ca h1 h2 => ?_, fun W P A c ca h1 h2 => ?_, fun W P A c ca h1 h2 => ?_, fun _ W P A c ca h1 h2 => ?_, .inl ⟨rfl, rfl⟩⟩
    · refine (pattacks_yes F R a0 ps P c s A l ca b W h1 h2 hl hwf hla hs hB hfy hpv).mono ?_
      rintro e w' ⟨e1, _, e3⟩
      rw [attacks_eq] at e1
      exact ⟨e1, e3⟩
    · refine (pgoes_yes F R a0 ps P c s A l ca b W h1 h2 hl hwf hla hs hB hfy hpv).mono ?_
      rintro e w' ⟨e1, e2, e3⟩
      rw [goes_eq hB hokl (orP_lt hB hokl _)] at e1
      exact ⟨e1, e3⟩
    · refine (ptakes_yes F R a0 ps P c s A l ca b W h1 h2 hl hwf hla hs hB hfy hpv).mono ?_
      rintro e w' ⟨e1, e2, e3⟩
      rw [takes_eq hB hokl (orP_lt hB hokl _)] at e1
      exact ⟨e1, e3⟩
    · have := rfine (F : Int) (R : Int) ps P c s A l ca (a0 : Int) W h1 h2 hl hps hla hs
      rw [alB_yes hok2] at this
      exact this
    · exact rsquares F R a0 ps P c s A l ca b W hB h1 h2 hokl (by have := hfy.1.2.2; omega)
set_option maxRecDepth 100000 in
set_option maxHeartbeats 4000000 in
theorem law_reaches (f r : Int) (P : Option Addr) (c : Nat) (ps : List Int) (s : ByteArray) (A : Option Addr) (l : List At) (ca : Nat) (a : Int) (b : Bool) (w : World) (hE : EnvF w) (hP : RecAt pEnc 1 w w.heap.size P ps) (hpl : ps.length ≤ maxLen) (hps : ∀ p ∈ ps, -128 ≤ p ∧ p ≤ 127) (hR : RecAt aEnc 6 w w.heap.size A l) (hwf : ∀ x ∈ l, wfA x) (hl : l.length ≤ maxLen) (hs : s.size ≤ maxLen) :
    Calls Tryz.prog 4 #[.agg #[.int .i64 f, .int .i64 r, .slice P ps.length c], .agg #[.string s, .slice A l.length ca], .int .i64 a, .bool b] w fun e w' => e = .returned (.bool true) ∧ Below w.heap.size w w' := by
  have hX0 := KBd.new w f r P ps.length c
  have hba : Below w.heap.size w (w.alloc (bdO f r P ps.length c)) := (Below.refl _ _).alloc (Nat.le_refl _) _
  have hbb : Below (w.alloc (bdO f r P ps.length c)).heap.size (w.alloc (bdO f r P ps.length c)) ((w.alloc (bdO f r P ps.length c)).alloc (.cells #[.string s, .slice A l.length ca] 43)) := (Below.refl _ _).alloc (Nat.le_refl _) _
  have hs1 : (w.alloc (bdO f r P ps.length c)).heap.size = w.heap.size + 1 := by simp
  have hX := Lib.hid (hX0.next hbb)
  have hF0 := KF.new (w.alloc (bdO f r P ps.length c)) s A l.length ca
  rw [hs1] at hF0
  have hF := Lib.hid hF0
  have hb1 : Hid (Below w.heap.size w ((w.alloc (bdO f r P ps.length c)).alloc (.cells #[.string s, .slice A l.length ca] 43))) := hba.trans (hbb.mono hba.size)
  have hEH := Lib.hid (hE.next hb1.out)
  have hPH := Lib.hid (recs_next hP hb1.out)
  have hRH := Lib.hid (recs_next hR hb1.out)
  have hsm := Lib.hid (fun W => rsmall s A l ca W hl hs)
  have hsz := Lib.hid (And.intro hs (And.intro hps hwf))
  have hplI : (ps.length : Int) ≤ 9223372036854775807 := by unfold maxLen at hpl; omega
  clear hE hP hR hba hbb hs1 hX0 hF0 hps hwf hl hs
  go_enter Tryz.func4, Tryz.ntmps4
  go_upto_region 1 with fail
  obtain ⟨B4, hB4⟩ : ∃ B4, w.heap.size = B4 := ⟨_, rfl⟩
  rw [hB4] at hX hF
  simp only [hB4]
  have hB4H := Lib.hid hB4
  clear hB4
  generalize (w.alloc (.cells #[.int .i64 f, .int .i64 r, .slice P ps.length c] 40)).alloc (.cells #[.string s, .slice A l.length ca] 43) = u at *
  have hkn : Hid (∀ W, Below u.heap.size u W → Calls Tryz.prog 12 #[] W fun e w' => e = .returned (.bool true) ∧ Below u.heap.size u w') := fun W h => (knownF (hEH.out.next h)).mono (by rintro e w' ⟨h1, h2⟩; exact ⟨h1, h.trans (h2.mono h.size)⟩)
  obtain ⟨f0, f1, _⟩ := hF.out
  obtain ⟨x0, x1, x2, _⟩ := hX.out
  cases hsb : smB s l with
  | false =>
    rw [hsb] at hsm
    clear hsb
    go_wp2_with (first
      | (go_at_call 13; refine (hsm.out _).mono ?_; rintro e w2 ⟨rfl, hb2⟩; replace hb2 := Lib.hid hb2)
      | (go_at_call 12; refine (hkn.out _ hb2.out).mono ?_; rintro e w3 ⟨rfl, hb3⟩; replace hb3 := Lib.hid hb3))
    go_ret
    exact ⟨rfl, hb1.out.trans (hb3.out.mono hb1.out.size)⟩
  | true =>
  obtain ⟨hl10, hs100⟩ := smB_no hsb
  rw [hsb] at hsm
  clear hsb
  by_cases h70 : 70 < ps.length
  · have q1 : (70 : Int) < (ps.length : Int) := by omega
    clear h70
    go_wp2_with (first
      | (go_at_call 13; refine (hsm.out _).mono ?_; rintro e w2 ⟨rfl, hb2⟩; replace hb2 := Lib.hid hb2; clear f0 f1 x0 x1 x2; obtain ⟨x0, x1, x2, _⟩ := hX.out.next hb2.out)
      | (go_at_call 12; refine (hkn.out _ hb2.out).mono ?_; rintro e w3 ⟨rfl, hb3⟩; replace hb3 := Lib.hid hb3))
    go_ret
    exact ⟨rfl, hb1.out.trans (hb3.out.mono hb1.out.size)⟩
  have q1 : ((70 : Int) < (ps.length : Int)) = False := eq_false (by omega)
  have hp70 : ps.length ≤ 70 := by omega
  obtain ⟨X, Y, Z, E, V, hrc⟩ := rch_of f r ps s l a b hsz.out.2.1 hsz.out.2.2 (by omega) (by omega) hsz.out.1
  replace hrc := Lib.hid hrc
  clear h70
  go_upto_region 3 with (go_at_call 13; refine (hsm.out _).mono ?_; rintro e w2 ⟨rfl, hb2⟩; replace hb2 := Lib.hid hb2; clear f0 f1 x0 x1 x2; obtain ⟨x0, x1, x2, _⟩ := hX.out.next hb2.out)
  clear x0 x1 x2 hsm q1 hplI hpl
  have hS : Hid (∀ W, Below u.heap.size u W → W.cell? ⟨B4, 0, none⟩ = some (.int .i64 f) ∧ W.cell? ⟨B4, 1, none⟩ = some (.int .i64 r) ∧ W.cell? ⟨B4, 2, none⟩ = some (.slice P ps.length c)) := fun W h => by
    have h1 := hX.out.next h
    exact ⟨h1.c0, h1.c1, h1.c2⟩
  go_cut [9] from 20 to 140 (fun s9 wc => ∃ (B9 : Nat) (P9 : Option Addr) (c9 : Nat), s9 = .pointer (some ⟨B9, 0, none⟩) ∧ Hid (Tri wc B9 (.int .i64 f) (.int .i64 r) (.slice P9 ps.length c9)) ∧ Hid (RecAt pEnc 1 wc wc.heap.size P9 ps) ∧ Hid (Below u.heap.size u wc))
  case first =>
    refine wp_region_held_drew (S := fun W => W.cell? ⟨B4, 0, none⟩ = some (.int .i64 f) ∧ W.cell? ⟨B4, 1, none⟩ = some (.int .i64 r) ∧ W.cell? ⟨B4, 2, none⟩ = some (.slice P ps.length c)) (by kernel_rfl) (hS.out _ hb2.out.drew) (fun hHeld => ?_)
    have hd2 : Hid (Below u.heap.size u w2.drew) := hb2.out.drew
    generalize w2.drew = v2 at hd2 hHeld ⊢
    refine wpAnyH_take (i := 0) (v := ?_) rfl (by kernel_rfl) (by kernel_rfl) (by kernel_rfl) (fun _ _ _ h => h) (Or.inl ⟨by rfl, ?_⟩) hHeld ?_
    rotate_left
    · intro W9 hSw; (try dsimp only at hSw); go_simp; (try with_reducible rfl)
    simp only [Act.put, List.getElem_toArray, List.getElem_cons_zero, List.getElem_cons_succ, List.setIfInBounds_toArray, List.set_cons_zero, List.set_cons_succ]
    refine wpAnyH_take (i := 1) (v := ?_) rfl (by kernel_rfl) (by kernel_rfl) (by kernel_rfl) (fun _ _ _ h => h) (Or.inl ⟨by rfl, ?_⟩) hHeld ?_
    rotate_left
    · intro W9 hSw; (try dsimp only at hSw); go_simp; (try with_reducible rfl)
    simp only [Act.put, List.getElem_toArray, List.getElem_cons_zero, List.getElem_cons_succ, List.setIfInBounds_toArray, List.set_cons_zero, List.set_cons_succ]
    refine wpAnyH_take (i := 2) (v := ?_) rfl (by kernel_rfl) (by kernel_rfl) (by kernel_rfl) (fun _ _ _ h => h) (Or.inl ⟨by rfl, ?_⟩) hHeld ?_
    rotate_left
    · intro W9 hSw; (try dsimp only at hSw); go_simp; (try with_reducible rfl)
    simp only [Act.put, List.getElem_toArray, List.getElem_cons_zero, List.getElem_cons_succ, List.setIfInBounds_toArray, List.set_cons_zero, List.set_cons_succ]
    refine wpAnyH_take (i := 3) (v := ?_) rfl (by kernel_rfl) (by kernel_rfl) (by kernel_rfl) (fun _ _ _ h => h) (Or.inl ⟨by rfl, ?_⟩) hHeld ?_
    rotate_left
    · intro W9 hSw; (try dsimp only at hSw); go_simp; (try with_reducible rfl)
    simp only [Act.put, List.getElem_toArray, List.getElem_cons_zero, List.getElem_cons_succ, List.setIfInBounds_toArray, List.set_cons_zero, List.set_cons_succ]
    refine wpAnyH_ready (rs := [4, 6]) (by kernel_rfl) (by simp) ?_
    refine AllReadyH.cons rfl (fun K hK => ?_) (AllReadyH.cons rfl (fun K hK => ?_) AllReadyH.nil)
    · refine step_append_recs pieceRow pEnc_len pEnc_one (by rfl) _ _ (by rfl) v2.heap.size none 0 [] (by rfl) owns_nil P c ps (by rfl) (recs_next hPH.out hd2.out) (by simp only [List.length_nil]; omega) (Nat.le_refl _) ?_
      intro P9 c9 v3 hown hg _
      rw [List.nil_append] at hown ⊢
      have hO := Lib.hid ((O1.nil (Below.refl _ _) (Nat.le_refl _)).app hown hg)
      have hb3 : Hid (Below u.heap.size u v3) := hd2.out.trans (hO.out.below.mono hd2.out.size)
      refine hK.out _ _ (hS.out _ hb3.out) (fun hHeld2 => ?_)
      clear hK K hHeld hown hg
      have hHeld := hHeld2
      clear hHeld2
      refine wpAnyH_take (i := 5) (v := ?_) rfl (by kernel_rfl) (by kernel_rfl) (by kernel_rfl) (fun _ _ _ h => h) (Or.inl ⟨by rfl, ?_⟩) hHeld ?_
      rotate_left
      · intro W9 hSw; (try dsimp only at hSw); go_simp; (try with_reducible rfl)
      simp only [Act.put, List.getElem_toArray, List.getElem_cons_zero, List.getElem_cons_succ, List.setIfInBounds_toArray, List.set_cons_zero, List.set_cons_succ]
      have hz0 : Hid (Below u.heap.size u (v3.alloc (.cells #[.int .i64 0, .int .i64 0, .slice none 0 0] 40))) := hb3.out.alloc hb3.out.size _
      have hz1 : Hid (Below u.heap.size u (v3.alloc (.cells #[.int .i64 f, .int .i64 r, .slice P9 ps.length c9] 40))) := hb3.out.alloc hb3.out.size _
      refine wpAnyH_ready (rs := [6]) (by kernel_rfl) (by simp) ?_
      refine AllReadyH.cons rfl (fun K hK => ?_) AllReadyH.nil
      go_simp
      refine hK.out _ _ (hS.out _ hz0.out) (fun hHeld2 => ?_)
      clear hK K hHeld
      have hHeld := hHeld2
      clear hHeld2
      refine wpAnyH_ready (rs := [7]) (by kernel_rfl) (by simp) ?_
      refine AllReadyH.cons rfl (fun K hK => ?_) AllReadyH.nil
      go_simp
      refine hK.out _ _ (hS.out _ hz1.out) (fun hHeld2 => ?_)
      clear hK K hHeld
      have hHeld := hHeld2
      clear hHeld2
      refine wpAnyH_done (by kernel_rfl) ?_ _
      go_wp2_with fail
      go_meet
      exact ⟨_, P9, c9, rfl, tri_new v3 v3.heap.size _ _ _ 40 rfl, recs_next (hO.out.recs pEnc_len) ((Below.refl _ _).alloc (Nat.le_refl _) _), hz1⟩
    · go_simp
      have hz0 : Hid (Below u.heap.size u (v2.alloc (.cells #[.int .i64 0, .int .i64 0, .slice none 0 0] 40))) := hd2.out.alloc hd2.out.size _
      have hT0 := Lib.hid (tri_new v2 v2.heap.size (.int .i64 0) (.int .i64 0) (.slice none 0 0) 40 rfl)
      refine hK.out _ _ (hS.out _ hz0.out) (fun hHeld2 => ?_)
      clear hK K hHeld
      have hHeld := hHeld2
      clear hHeld2
      obtain ⟨B9, hB9⟩ : ∃ B9, v2.heap.size = B9 := ⟨_, rfl⟩
      have hv2 : Hid (u.heap.size ≤ B9) := by show _ ≤ B9; rw [← hB9]; exact hd2.out.size
      rw [hB9] at hT0
      simp only [hB9]
      clear hB9
      generalize v2.alloc (.cells #[.int .i64 0, .int .i64 0, .slice none 0 0] 40) = v2' at *
      refine wpAnyH_ready (rs := [4]) (by kernel_rfl) (by simp) ?_
      refine AllReadyH.cons rfl (fun K hK => ?_) AllReadyH.nil
      refine step_append_recs pieceRow pEnc_len pEnc_one (by rfl) _ _ (by rfl) v2'.heap.size none 0 [] (by rfl) owns_nil P c ps (by rfl) (recs_next hPH.out hz0.out) (by simp only [List.length_nil]; omega) (Nat.le_refl _) ?_
      intro P9 c9 v3 hown hg _
      rw [List.nil_append] at hown ⊢
      have hO := Lib.hid ((O1.nil (Below.refl _ _) (Nat.le_refl _)).app hown hg)
      have hb3 : Hid (Below u.heap.size u v3) := hz0.out.trans (hO.out.below.mono hz0.out.size)
      have hT3 := Lib.hid (hT0.out.next hO.out.below)
      refine hK.out _ _ (hS.out _ hb3.out) (fun hHeld2 => ?_)
      clear hK K hHeld hown hg
      have hHeld := hHeld2
      clear hHeld2
      refine wpAnyH_take (i := 5) (v := ?_) rfl (by kernel_rfl) (by kernel_rfl) (by kernel_rfl) (fun _ _ _ h => h) (Or.inl ⟨by rfl, ?_⟩) hHeld ?_
      rotate_left
      · intro W9 hSw; (try dsimp only at hSw); go_simp; (try with_reducible rfl)
      simp only [Act.put, List.getElem_toArray, List.getElem_cons_zero, List.getElem_cons_succ, List.setIfInBounds_toArray, List.set_cons_zero, List.set_cons_succ]
      have hz1 : Hid (Below u.heap.size u (((v3.setCell ⟨B9, 0, none⟩ (.int .i64 f)).setCell ⟨B9, 1, none⟩ (.int .i64 r)).setCell ⟨B9, 2, none⟩ (.slice P9 ps.length c9))) := below_set3 hb3.out hv2.out _ _ _
      have hO3 : Hid (RecAt pEnc 1 (((v3.setCell ⟨B9, 0, none⟩ (.int .i64 f)).setCell ⟨B9, 1, none⟩ (.int .i64 r)).setCell ⟨B9, 2, none⟩ (.slice P9 ps.length c9)) (((v3.setCell ⟨B9, 0, none⟩ (.int .i64 f)).setCell ⟨B9, 1, none⟩ (.int .i64 r)).setCell ⟨B9, 2, none⟩ (.slice P9 ps.length c9)).heap.size P9 ps) := (O1.set3 hO.out hT0.out.lt (b' := 0) (w00 := v2') (Nat.zero_le _) (Below.refl _ _) _ _ _).recs pEnc_len
      have hT4 := Lib.hid (hT3.out.set (.int .i64 f) (.int .i64 r) (.slice P9 ps.length c9))
      obtain ⟨m0, m1, m2, mf, _⟩ := hT3.out
      have n0 := mf 0
      have n1 := mf 1
      have n2 := mf 2
      clear mf
      refine wpAnyH_ready (rs := [7]) (by kernel_rfl) (by simp) ?_
      refine AllReadyH.cons rfl (fun K hK => ?_) AllReadyH.nil
      go_simp
      refine hK.out _ _ (hS.out _ hz1.out) (fun hHeld2 => ?_)
      clear hK K hHeld
      have hHeld := hHeld2
      clear hHeld2
      refine wpAnyH_done (by kernel_rfl) ?_ _
      go_wp2_with fail
      go_meet
      exact ⟨B9, P9, c9, rfl, hT4, hO3, hz1⟩
  case rest =>
  obtain ⟨B9, P9, c9, rfl, hT, hP9, hb3⟩ := hcut
  have hat := Lib.hid (fun W h1 h2 => hrc.out.at_ W P9 A c9 ca h1 h2)
  have hgo := Lib.hid (fun W h1 h2 => hrc.out.go W P9 A c9 ca h1 h2)
  have htk := Lib.hid (fun W h1 h2 => hrc.out.tk W P9 A c9 ca h1 h2)
  have hfi := Lib.hid (fun W h1 h2 => hrc.out.fine W P A c ca h1 h2)
  have hN : Hid (∀ W, Below wc.heap.size wc W → Below u.heap.size u W) := fun W h => hb3.out.trans (h.mono hb3.out.size)
  clear hS
  obtain ⟨t0, t1, t2, _, _⟩ := hT.out
  obtain ⟨f0, f1, _⟩ := hF.out.next hb3.out
  go_upto_region 5 with (go_at_call 14; refine (hat.out _ hP9.out (recs_next hRH.out hb3.out)).mono ?_; rintro e w4 ⟨rfl, hb4⟩; replace hb4 := Lib.hid hb4)
  clear t0 t1 t2 f0 f1
  obtain ⟨t0, t1, t2, _, _⟩ := hT.out.next hb4.out
  obtain ⟨f0, f1, _⟩ := hF.out.next (hN.out _ hb4.out)
  go_upto_region 6 with (go_at_call 15; refine (hgo.out _ (recs_next hP9.out hb4.out) (recs_next hRH.out (hN.out _ hb4.out))).mono ?_; rintro e w5 ⟨rfl, hb⟩; have hb5 : Hid (Below wc.heap.size wc w5) := hb4.out.trans (hb.mono hb4.out.size); clear hb)
  clear t0 t1 t2 f0 f1
  obtain ⟨t0, t1, t2, _, _⟩ := hT.out.next hb5.out
  obtain ⟨f0, f1, _⟩ := hF.out.next (hN.out _ hb5.out)
  go_upto_region 7 with (go_at_call 16; refine (htk.out _ (recs_next hP9.out hb5.out) (recs_next hRH.out (hN.out _ hb5.out))).mono ?_; rintro e w6 ⟨rfl, hb⟩; have hb6 : Hid (Below wc.heap.size wc w6) := hb5.out.trans (hb.mono hb5.out.size); clear hb)
  clear t0 t1 t2 f0 f1 hat hgo htk hb4 hb5
  go_wp2_with fail
  go_loopw [16] (fun s16 wr => ∃ (k : Nat), k ≤ ps.length ∧ s16 = .int .i64 (k : Int) ∧ Hid (Below wc.heap.size wc wr)) (fun s16 _ => ps.length - (intOf s16).toNat)
  case atStart => exact ⟨0, by omega, rfl, hb6⟩
  case round =>
    clear hb6
    obtain ⟨k, hk, rfl, hB⟩ := hrel
    have hk0 : (0 : Int) ≤ (k : Int) := Int.natCast_nonneg _
    have hBu : Hid (Below u.heap.size u wr) := hN.out _ hB.out
    obtain ⟨t0, t1, t2, _, _⟩ := hT.out.next hB.out
    obtain ⟨x0, x1, x2, _⟩ := hX.out.next hBu.out
    by_cases hkl : k < ps.length
    · have hkI : (k : Int) < (ps.length : Int) := by omega
      obtain ⟨p, hp⟩ : ∃ p, ps[k]? = some p := ⟨_, List.getElem?_eq_getElem hkl⟩
      obtain ⟨b1, o1, rfl, hb1', hc1⟩ := recP hP9.out hp
      obtain ⟨b2, o2, rfl, hb2', hc2⟩ := recP hPH.out hp
      have d1 : wr.cell? ⟨b1, o1 + k, none⟩ = some (.int .i8 p) := (hB.out.cell (p := ⟨b1, o1 + k, none⟩) hb1').trans hc1
      have d2 : wr.cell? ⟨b2, o2 + k, none⟩ = some (.int .i8 p) := (hBu.out.cell (p := ⟨b2, o2 + k, none⟩) hb2').trans hc2
      have hq : (p != p) = false := by simp
      have hBn : Hid (∀ m, Below wc.heap.size wc (wr.drewN m)) := fun m => below_drewN hB.out m
      clear hp hc1 hc2
      go_upto_region 10 with fail
      go_quiet (fail)
      have hBq := Lib.hid (hBn.out nq)
      clear t0 t1 t2 x0 x1 x2 d1 d2 hBn hB hBu
      generalize wr.drewN nq = wq at *
      go_wp2_with fail
      go_roundw
      case rel => exact ⟨k + 1, by omega, by go_num, hBq⟩
      case measure => simp [intOf]; omega
    obtain rfl : k = ps.length := by omega
    have hfi2 := Lib.hid (hfi.out wr (recs_next hPH.out hBu.out) (recs_next hRH.out hBu.out))
    obtain ⟨f0, f1, _⟩ := hF.out.next hBu.out
    have hor : bits BinOp.or IntKind.u64 0 0 = 0 := by decide
    rcases hrc.out.cs with ⟨rfl, rfl⟩ | ⟨rfl, rfl, rfl, rfl, rfl⟩
    · have hsq := Lib.hid (fun W h1 h2 => hrc.out.sq rfl W P A c ca h1 h2)
      clear hkl hor
      go_upto_region 14 with (go_at_call 17; refine hfi2.out.mono ?_; rintro e w7 ⟨rfl, hb⟩; have hb7 : Hid (Below u.heap.size u w7) := hBu.out.trans (hb.mono hBu.out.size); clear hb)
      clear t0 t1 t2 x0 x1 x2 f0 f1
      obtain ⟨x0, x1, x2, _⟩ := hX.out.next hb7.out
      obtain ⟨f0, f1, _⟩ := hF.out.next hb7.out
      go_wp2_with (first
        | (go_at_call 18; refine (hsq.out _ (recs_next hPH.out hb7.out) (recs_next hRH.out hb7.out)).mono ?_; rintro e w8 ⟨rfl, hb⟩; have hb8 : Hid (Below u.heap.size u w8) := hb7.out.trans (hb.mono hb7.out.size); clear hb)
        | (go_at_call 12; refine (hkn.out _ hb8.out).mono ?_; rintro e w9 ⟨rfl, hb9⟩; replace hb9 := Lib.hid hb9))
      go_ret
      exact ⟨by first | rfl | simp, hb1.out.trans (hb9.out.mono hb1.out.size)⟩
    · clear hkl
      go_wp2_with (first
        | (go_at_call 17; refine hfi2.out.mono ?_; rintro e w7 ⟨rfl, hb⟩; have hb7 : Hid (Below u.heap.size u w7) := hBu.out.trans (hb.mono hBu.out.size); clear hb)
        | (go_at_call 12; refine (hkn.out _ hb7.out).mono ?_; rintro e w9 ⟨rfl, hb9⟩; replace hb9 := Lib.hid hb9))
      go_ret
      exact ⟨by first | rfl | simp, hb1.out.trans (hb9.out.mono hb1.out.size)⟩
end Go.Proofs.YtbcdimklblpdnaaGreatDoor
