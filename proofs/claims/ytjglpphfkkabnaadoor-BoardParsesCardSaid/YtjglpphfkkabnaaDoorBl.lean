/- Layer 3: the board with a text: the program's. -/
import Derived.Test.YtjglpphfkkabnaaDoorBk
namespace Go.Proofs.YtjglpphfkkabnaaDoor
open Go.RowKit
set_option linter.unusedSimpArgs false
set_option linter.unusedVariables false

theorem ptext_no (f r : Int) (A : Option Addr) (c : Nat) (l : List Int) (w : World) (hA : PcsAt w w.heap.size A l) (hl : l.length ≤ 100000) (hv : bdB f r l = false) :
    Calls Tryd.prog 28 #[bV f r A l.length c] w fun e w' => e = .returned (.tuple #[.string ⟨#[]⟩, .int .i64 2]) ∧ Below w.heap.size w w' := by
  have hK := Lib.hid (KB.first f r A l.length c w 26)
  have hAW : Hid (∀ W, Below w.heap.size w W → PcsAt W W.heap.size A l) := fun W hb => (hA.below (Nat.le_refl _) hb).more hb.size
  have c0 := hK.out.c0
  have c1 := hK.out.c1
  have c2 := hK.out.c2
  clear hA
  go_enter Tryd.func28, Tryd.ntmps28
  go_wp2_with (go_at_call 34; refine (pbvalid _ _ _ _ _ _ (hAW.out _ hK.out.below) hl).mono ?_; rintro e w1 ⟨rfl, hbw⟩; rw [hv]; replace hK := Lib.hid (hK.out.next hbw); clear hbw)
  go_ret2
  exact ⟨rfl, hK.out.below⟩
/-- what Parse returns -/
def PB (s : ByteArray) (w : World) (e : Ending) (w' : World) : Prop :=
  match parB s with
  | none => NewBE 0 0 [] 6 w e w'
  | some (f, r, P) => NewBE (f : Int) (r : Int) P 0 w e w'
theorem PB_none {s : ByteArray} {w w' : World} {e : Ending} (h : parB s = none) (h2 : NewBE 0 0 [] 6 w e w') : PB s w e w' := by unfold PB; rw [h]; exact h2
theorem PB_some {s : ByteArray} {w w' : World} {e : Ending} {f r : Nat} {P : List Int} (h : parB s = some (f, r, P)) (h2 : NewBE (f : Int) (r : Int) P 0 w e w') : PB s w e w' := by unfold PB; rw [h]; exact h2
/-- strings.Split at strokes -/
theorem psplitB (s : ByteArray) (W : World) (hs : s.size ≤ 100000) (hE : EnvAt W) : Calls Tryd.prog 52 #[.string s, .string slash] W fun e w' =>
    e = .returned (.slice (some ⟨W.heap.size, 0, none⟩) (ranksB s).reverse.length (ranksB s).reverse.length) ∧ O1 sEnc 1 W.heap.size 9 W w' (some ⟨W.heap.size, 0, none⟩) (ranksB s).reverse.length (ranksB s).reverse := by
  obtain ⟨m, hm⟩ := hE.len
  have hrev : (ranksB s).reverse = Lib.splitB slash 0 (Lib.countB s slash) s := by unfold ranksB; rw [List.reverse_reverse]
  have hlen : (ranksB s).reverse.length = Lib.countB s slash + 1 := by rw [hrev]; exact Lib.splitB_all slash (by decide) 0 _ s rfl
  have hcn : Lib.countB s slash ≤ s.size := Lib.countB_le slash (by decide) _ s (Nat.le_refl _)
  refine (sh_strings_Split s slash m W (by omega) hm (by decide)).mono ?_
  rintro e w' ⟨rfl, rfl⟩
  rw [hlen]
  refine ⟨rfl, ?_, (Below.refl _ _).alloc (Nat.le_refl _) _, by simp⟩
  unfold Own1
  have h5 := World.ownsRow_lit W (base := W.heap.size) (e := 9) (size := 1) ((Lib.splitB slash 0 (Lib.countB s slash) s).map Value.string).toArray (Lib.countB s slash + 1) (Nat.le_refl _) (by unfold maxLen; omega) (by rw [← hrev]; simp [hlen]; simpa using hlen)
  rw [flat1 (f := sEnc) (g := Value.string) (fun _ => rfl), hrev]
  rw [hrev] at hlen
  rw [hlen]
  exact h5
theorem Tri.set2 {w : World} {B : Nat} {x y z : Value} (h : Tri w B x y z) (z' : Value) : Tri (w.setCell ⟨B, 2, none⟩ z') B x y z' :=
  ⟨by rw [cell_off _ _ _ _ _ (by decide)]; exact h.c0, by rw [cell_off _ _ _ _ _ (by decide)]; exact h.c1, World.cell?_setCell_same' _ _ _ (by rw [h.c2]; rfl), fun i => by rw [World.frozen?_setCell]; exact h.fr i, by rw [nblk_set]; exact h.lt⟩
theorem Tri.set0 {w : World} {B : Nat} {x y z : Value} (h : Tri w B x y z) (x' : Value) : Tri (w.setCell ⟨B, 0, none⟩ x') B x' y z :=
  ⟨World.cell?_setCell_same' _ _ _ (by rw [h.c0]; rfl), by rw [cell_off _ _ _ _ _ (by decide)]; exact h.c1, by rw [cell_off _ _ _ _ _ (by decide)]; exact h.c2, fun i => by rw [World.frozen?_setCell]; exact h.fr i, by rw [nblk_set]; exact h.lt⟩
theorem Tri.of_block {w w' : World} {B : Nat} {x y z : Value} (h : Tri w B x y z) (hb : w'.heap[B]? = w.heap[B]?) (hl : w.heap.size ≤ w'.heap.size) : Tri w' B x y z :=
  ⟨(World.cell?_of_block hb).trans h.c0, (World.cell?_of_block hb).trans h.c1, (World.cell?_of_block hb).trans h.c2, fun i => (World.frozen?_of_block hb).trans (h.fr i), Nat.lt_of_lt_of_le h.lt hl⟩
/-- what Parse holds while it reads: the result's box, the board's box, its pieces, the ranks -/
structure PI (w : World) (B2 B5 base g n : Nat) (rs : List ByteArray) (W : World) (A : Option Addr) (c : Nat) (acc : List Int) : Prop where
  t2 : Tri W B2 (.int .i64 0) (.int .i64 0) (.slice none 0 0)
  t5 : Tri W B5 (.int .i64 0) (.int .i64 (n : Int)) (.slice A acc.length c)
  own : Own1 qEnc 1 base 28 W A c acc
  rk : ∀ (j : Nat) (x : ByteArray), rs[j]? = some x → W.cell? ⟨g, j, none⟩ = some (.string x)
  below : Below B2 w W
  big : base ≤ W.heap.size
  lt : B2 < B5 ∧ B5 < base ∧ g < B5 ∧ B2 < g
section
variable {w : World} {B2 B5 base g n : Nat} {rs : List ByteArray} {W W0 w6 : World} {A A6 : Option Addr} {c c6 : Nat} {acc acc6 : List Int}
theorem PI.grown (h : PI w B2 B5 base g n rs W A c acc) (hb : Below W.heap.size W W0) (hg : W0.grownBy w6 (Value.slice A acc.length c).ownBlock) :
    Tri w6 B2 (.int .i64 0) (.int .i64 0) (.slice none 0 0) ∧ Tri w6 B5 (.int .i64 0) (.int .i64 (n : Int)) (.slice A acc.length c) ∧ (∀ (j : Nat) (x : ByteArray), rs[j]? = some x → w6.cell? ⟨g, j, none⟩ = some (.string x)) ∧ Below B2 w w6 ∧ base ≤ w6.heap.size := by
  obtain ⟨l1, l2, l3, l4⟩ := h.lt
  have hbig := h.big
  have hs := hb.size
  have hsz : W.heap.size ≤ w6.heap.size := Nat.le_trans hs hg.size
  have hk : ∀ k, k < base → w6.heap[k]? = W.heap[k]? := fun k hk => by
    rw [hg.block k (by omega) (fun e => by have := (World.ownsRow.lt h.own k e.symm).1; omega), hb.block k (by omega)]
  refine ⟨h.t2.of_block (hk _ (by omega)) hsz, h.t5.of_block (hk _ (by omega)) hsz, fun j x hx => (World.cell?_of_block (hk g (by omega))).trans (h.rk j x hx), ?_, by omega⟩
  have h0 := h.below.size
  refine ⟨?_, ?_, ?_, by omega, fun k hk2 => (hk k (by omega)).trans (h.below.block k hk2)⟩
  · exact hg.os.trans (hb.os.trans h.below.os)
  · exact hg.tape.trans (hb.tape.trans h.below.tape)
  · exact hg.output.trans (hb.output.trans h.below.output)
theorem PI.app (h : PI w B2 B5 base g n rs W A c acc) (hb : Below W.heap.size W W0) (hg : W0.grownBy w6 (Value.slice A acc.length c).ownBlock) (ho : Own1 qEnc 1 base 28 w6 A6 c6 acc6) :
    PI w B2 B5 base g n rs (w6.setCell ⟨B5, 2, none⟩ (.slice A6 acc6.length c6)) A6 c6 acc6 := by
  obtain ⟨l1, l2, l3, l4⟩ := h.lt
  obtain ⟨t2, t5, rk, bl, bg⟩ := h.grown hb hg
  refine ⟨t2.other (by show B5 ≠ _; omega) _, t5.set2 _, ownsRow_setCell_other ho (fun e => by have := (World.ownsRow.lt ho B5 e).1; omega) _, fun j x hx => ?_, bl.setCell (p := ⟨B5, 2, none⟩) (by show B2 ≤ B5; omega) _, by rw [nblk_set]; exact bg, h.lt⟩
  rw [World.cell?_setCell_other _ _ _ _ (by intro e; simp only [Addr.mk.injEq] at e; omega)]
  exact rk j x hx
theorem PI.first {w3 : World} (t2 : Tri w3 B2 (.int .i64 0) (.int .i64 0) (.slice none 0 0)) (rk : ∀ (j : Nat) (x : ByteArray), rs[j]? = some x → w3.cell? ⟨g, j, none⟩ = some (.string x)) (hb : Below B2 w w3) (hg : g < w3.heap.size) (hg2 : B2 < g) (n : Nat) (t : TypeId) :
    PI w B2 w3.heap.size (w3.heap.size + 1) g n rs (w3.alloc (.cells #[.int .i64 0, .int .i64 (n : Int), .slice none 0 0] t)) none 0 [] := by
  have hb0 : Below w3.heap.size w3 (w3.alloc (.cells #[.int .i64 0, .int .i64 (n : Int), .slice none 0 0] t)) := (Below.refl _ _).alloc (Nat.le_refl _) _
  exact ⟨t2.alloc _, tri_new _ _ _ _ _ _ rfl, owns_nil, fun j x hx => (hb0.cell (p := ⟨g, j, none⟩) hg).trans (rk j x hx), hb.trans (hb0.mono (by omega)), by simp, by omega, by omega, hg, hg2⟩
end
theorem split_size (sep : ByteArray) : ∀ (k : Nat) (s : ByteArray) (t : ByteArray), t ∈ Lib.splitB sep 0 k s → t.size ≤ s.size
  | 0, s, t, h => by rw [Lib.splitB_zero] at h; simp only [List.mem_cons, List.not_mem_nil, or_false] at h; rw [h]; exact Nat.le_refl _
  | k + 1, s, t, h => by
    rcases Lib.indexB_cases s sep with hix | ⟨i, hix, _⟩
    · rw [Lib.splitB_miss sep 0 _ s hix] at h; simp only [List.mem_cons, List.not_mem_nil, or_false] at h; rw [h]; exact Nat.le_refl _
    · rw [Lib.splitB_hit sep 0 k s i hix] at h
      simp only [List.mem_cons] at h
      rcases h with rfl | h
      · rw [ByteArray.size_extract]; omega
      · have := split_size sep k _ t h
        rw [ByteArray.size_extract] at this; omega
theorem ranks_size {s x : ByteArray} (h : x ∈ ranksB s) : x.size ≤ s.size := by
  unfold ranksB at h
  exact split_size slash _ s x (List.mem_reverse.1 h)
theorem bytesK_len {rs : List ByteArray} {N : Nat} (h : ∀ x, x ∈ rs → x.size ≤ N) : ∀ k, (bytesK rs k).length ≤ k * N := by
  intro k
  induction k with
  | zero => simp [bytesK]
  | succ k ih =>
    cases hx : rs[k]? with
    | none =>
      have : bytesK rs (k + 1) = bytesK rs k := by unfold bytesK; rw [List.take_add_one, hx]; simp
      rw [this, Nat.succ_mul]; omega
    | some x =>
      rw [bytesK_succ hx, List.length_append, Nat.succ_mul]
      have h2 := h x (List.mem_of_getElem? hx)
      have h3 : x.data.toList.length = x.size := rfl
      omega
theorem bytesK_part {rs : List ByteArray} {k : Nat} {x : ByteArray} (hx : rs[k]? = some x) (i : Nat) : ∃ t, bytesK rs rs.length = (bytesK rs k ++ x.data.toList.take i) ++ t := by
  have hk : k < rs.length := (List.getElem?_eq_some_iff.1 hx).1
  have h1 : ∀ m, k + 1 ≤ m → ∃ t, bytesK rs m = bytesK rs (k + 1) ++ t := by
    intro m
    induction m with
    | zero => intro h; omega
    | succ m ih =>
      intro h
      rcases Nat.lt_or_ge k m with h2 | h2
      · obtain ⟨t, ht⟩ := ih h2
        cases hy : rs[m]? with
        | none => exact ⟨t, by rw [← ht]; unfold bytesK; rw [List.take_add_one, hy]; simp⟩
        | some y => exact ⟨t ++ y.data.toList, by rw [bytesK_succ hy, ht, List.append_assoc]⟩
      · obtain rfl : m = k := by omega
        exact ⟨[], by simp⟩
  obtain ⟨t, ht⟩ := h1 rs.length hk
  refine ⟨x.data.toList.drop i ++ t, ?_⟩
  rw [ht, bytesK_succ hx]
  simp only [List.append_assoc]
  rw [← List.append_assoc (x.data.toList.take i), List.take_append_drop]
set_option maxRecDepth 100000 in
set_option maxHeartbeats 1000000 in
theorem pbparse (s : ByteArray) (w : World) (hE : EnvAt w) (hs : s.size ≤ 1000) : Calls Tryd.prog 30 #[.string s] w (PB s w) := by
  have hEW : Hid (∀ W, Below w.heap.size w W → EnvAt W) := fun W hb => hE.next hb
  obtain ⟨rs, hrs⟩ : ∃ rs, ranksB s = rs := ⟨_, rfl⟩
  have hrz : Hid (∀ x, x ∈ rs → x.size ≤ 1000) := fun x hx => by rw [← hrs] at hx; have := ranks_size hx; omega
  have hr1 : 1 ≤ rs.length := by
    rw [← hrs]; unfold ranksB; rw [List.length_reverse, Lib.splitB_all slash (by decide) 0 _ s rfl]; omega
  have hr9 : rs.length ≤ 1001 := by
    rw [← hrs]; unfold ranksB; rw [List.length_reverse, Lib.splitB_all slash (by decide) 0 _ s rfl]
    have := Lib.countB_le slash (by decide) _ s (Nat.le_refl _); omega
  have hsp : Hid (∀ W, Below w.heap.size w W → Calls Tryd.prog 52 #[.string s, .string ⟨#[47]⟩] W fun e w' => e = .returned (.slice (some ⟨W.heap.size, 0, none⟩) rs.reverse.length rs.reverse.length) ∧ O1 sEnc 1 W.heap.size 9 W w' (some ⟨W.heap.size, 0, none⟩) rs.reverse.length rs.reverse) := fun W hb => by
    have h5 := psplitB s W (by omega) (hEW.out W hb)
    rw [hrs] at h5
    exact h5
  have hrl : Hid (rs.reverse.length = rs.length) := List.length_reverse
  have hT := Lib.hid (tri_new w w.heap.size (.int .i64 0) (.int .i64 0) (.slice none 0 0) 26 rfl)
  have hbb : Hid (Below w.heap.size w (w.alloc (.cells #[.int .i64 0, .int .i64 0, .slice none 0 0] 26))) := (Below.refl _ _).alloc (Nat.le_refl _) _
  replace hrs := Lib.hid hrs
  clear hE
  by_cases h8 : 8 < rs.length
  · have h8t : (8 : Int) < (rs.length : Int) := by omega
    have hpn : Hid (parB s = none) := parB_far (by rw [hrs.out]; exact h8)
    go_enter Tryd.func30, Tryd.ntmps30
    go_upto_region 1 with fail
    generalize w.alloc (.cells #[.int .i64 0, .int .i64 0, .slice none 0 0] 26) = w1 at *
    go_wp2_with fail
    go_at_call 52
    refine (hsp.out _ hbb.out).mono ?_
    rintro e w2 ⟨rfl, hO⟩
    rw [hrl.out] at hO ⊢
    have hz1 := hT.out.lt
    have hb2 : Hid (Below w.heap.size w w2) := hbb.out.trans (hO.below.mono hbb.out.size)
    replace hT := Lib.hid (hT.out.next hO.below)
    clear hO
    have m0 := hT.out.c0
    have m1 := hT.out.c1
    have m2 := hT.out.c2
    have n0 := hT.out.fr 0
    have n1 := hT.out.fr 1
    have n2 := hT.out.fr 2
    go_wp2_with fail
    obtain ⟨s0, s1, s2⟩ := set3 m0 m1 m2 (.int .i64 0) (.int .i64 0) (.slice none 0 0)
    exact bodyPost_ret (v := .tuple #[bV 0 0 none 0 0, .int .i64 6]) (by simp [results, Tryd.results30, go_sem, s0, s1, s2]) rfl (PB_none hpn.out ⟨none, 0, rfl, O1.nil (below_set3 hb2.out (Nat.le_refl _) _ _ _) (by rw [nblk_set, nblk_set, nblk_set]; exact hb2.out.size)⟩)
  · have h8t : ((8 : Int) < (rs.length : Int)) = False := by rw [eq_iff_iff, iff_false]; omega
    have hr8 : rs.length ≤ 8 := by omega
    go_enter Tryd.func30, Tryd.ntmps30
    go_upto_region 1 with fail
    generalize w.alloc (.cells #[.int .i64 0, .int .i64 0, .slice none 0 0] 26) = w1 at *
    go_wp2_with fail
    go_at_call 52
    refine (hsp.out _ hbb.out).mono ?_
    rintro e w2 ⟨rfl, hO⟩
    rw [hrl.out] at hO ⊢
    replace hO := Lib.hid hO
    go_wp2_with fail
    have hrv := preverse (some ⟨w1.heap.size, 0, none⟩) rs.length rs.reverse w1.heap.size w1 w2 hO.out (by rw [hrl.out]; omega)
    rw [hrl.out, List.reverse_reverse] at hrv
    refine hrv.mono ?_
    clear hrv
    rintro e w3 ⟨rfl, hO3, _⟩
    have hz1 := hT.out.lt
    have hz3 := (World.ownsRow.lt hO3.own w1.heap.size rfl).2
    have hPI := PI.first (w := w) (rs := rs) (hT.out.next hO3.below) (g := w1.heap.size) (fun j x hx => hO3.cell1 (g := Value.string) (fun _ => rfl) hx) (hbb.out.trans (hO3.below.mono hbb.out.size)) hz3 hz1 rs.length 26
    replace hPI := Lib.hid hPI
    clear hO hO3 hT
    go_upto_region 7 with fail
    generalize hB5 : w3.heap.size = B5 at *
    generalize w3.alloc (.cells #[.int .i64 0, .int .i64 (rs.length : Int), .slice none 0 0] 26) = w4 at *
    clear hB5
    generalize w1.heap.size = g at *
    go_wp2_with fail
    go_loopw [7, 8, 9, 10, 11, 28, 34] (fun _ _ _ _ _ i _ wr => ∃ (k : Nat) (A : Option Addr) (c : Nat) (acc : List Int), k ≤ rs.length ∧ i = .int .i64 k ∧ Hid (pcsL (bytesK rs k) = some acc) ∧ Hid (PI w w.heap.size B5 (B5 + 1) g rs.length rs wr A c acc)) (fun _ _ _ _ _ i _ _ => rs.length - (intOf i).toNat)
    case atStart => exact ⟨0, none, 0, [], by omega, rfl, rfl, hPI⟩
    case round =>
      clear hPI
      obtain ⟨k, A, c, acc, hk, rfl, hacc, hP⟩ := hrel
      by_cases hkn : k < rs.length
      · obtain ⟨x, hx⟩ : ∃ x, rs[k]? = some x := ⟨_, List.getElem?_eq_getElem hkn⟩
        have q0 := hP.out.rk k x hx
        have hxz := hrz.out x (List.mem_of_getElem? hx)
        replace hx := Lib.hid hx
        go_wp2_with fail
        go_loopw [8, 9, 10, 11, 34] (fun _ _ _ _ j wi => ∃ (i : Nat) (A : Option Addr) (c : Nat) (acc : List Int), i ≤ x.size ∧ j = .int .i64 i ∧ Hid (pcsL (bytesK rs k ++ x.data.toList.take i) = some acc) ∧ Hid (PI w w.heap.size B5 (B5 + 1) g rs.length rs wi A c acc)) (fun _ _ _ _ j _ => x.size - (intOf j).toNat)
        case atStart => exact ⟨0, A, c, acc, by omega, rfl, by show _ = _; rw [List.take_zero, List.append_nil]; exact hacc.out, hP⟩
        case round =>
          clear hP hacc q0
          obtain ⟨i, A2, c2, acc2, hi, rfl, hacc, hP⟩ := hrel
          by_cases hin : i < x.size
          · have hsu : Hid (bytesK rs k ++ x.data.toList.take (i + 1) = bytesK rs k ++ x.data.toList.take i ++ [x[i]'hin]) := by
              show _ = _
              rw [take_snoc x i hin, List.append_assoc]
            have hal : acc2.length ≤ 99000 := by
              have h1 := pcsL_len _ _ hacc.out
              have h2 := bytesK_len hrz.out k
              have h3 := List.length_take_le i x.data.toList
              have h4 : x.data.toList.length = x.size := rfl
              rw [List.length_append, List.length_take] at h1
              have h5 : k * 1000 ≤ 8 * 1000 := Nat.mul_le_mul_right _ (by omega)
              omega
            have hst : Hid (pcsL (bytesK rs k ++ x.data.toList.take (i + 1)) = (byteP (x[i]'hin)).map (acc2 ++ ·)) := by
              show _ = _
              rw [hsu.out, pcsL_snoc, hacc.out]; rfl
            have hkd := Lib.hid (hEW.out _ hP.out.below).kinds
            have t50 := hP.out.t5.c0
            have t51 := hP.out.t5.c1
            have t52 := hP.out.t5.c2
            have hc0 : (0 : Int) ≤ ((x[i]'hin).toNat : Int) := by omega
            have hc1 : ((x[i]'hin).toNat : Int) ≤ 255 := by have := (x[i]'hin).toNat_lt; omega
            by_cases hd : 49 ≤ (x[i]'hin).toNat ∧ (x[i]'hin).toNat ≤ 56
            · obtain ⟨m, hm⟩ : ∃ m, (x[i]'hin).toNat = m + 48 := ⟨(x[i]'hin).toNat - 48, by omega⟩
              obtain ⟨acc3, h3⟩ : ∃ acc3, acc2 ++ List.replicate m 0 = acc3 := ⟨_, rfl⟩
              have hn : Hid (pcsL (bytesK rs k ++ x.data.toList.take (i + 1)) = some acc3) := by
                show _ = _
                rw [hst.out, byteP_dig hd, hm, Nat.add_sub_cancel, Option.map_some, h3]
              have hm0 : 1 ≤ m := by omega
              have hm8 : m ≤ 8 := by omega
              have hmI : ((x[i]'hin).toNat : Int) = (m : Int) + 48 := by omega
              replace h3 := Lib.hid h3
              clear hd hm hc0 hc1
              go_wp2_with (at_builtin; refine wpList_zeros_q rfl _ _ rfl (B5 + 1) A2 c2 acc2 rfl hP.out.own m rfl hm0 hm8 (by omega) hP.out.big acc3 h3.out ?_; intro A6 c6 w6 hown6 hg6; have hP6 := Lib.hid (hP.out.app (Below.refl _ _) hg6 hown6); obtain ⟨_, t5, _, _, _⟩ := hP.out.grown (Below.refl _ _) hg6; have m2 := t5.c2; have n2 := t5.fr 2; clear hown6 hg6 t5)
              go_roundw
              case rel => exact ⟨i + 1, A6, c6, acc3, by omega, by go_num, hn, hP6⟩
              case measure => simp [intOf]; omega
            · have hlo : ((49 : Int) ≤ ((x[i]'hin).toNat : Int) ∧ ((x[i]'hin).toNat : Int) ≤ 56) = False := by rw [eq_iff_iff, iff_false]; omega
              by_cases hp : PC.parV ((x[i]'hin).toNat : Int) = 0
              · have hpn : Hid (parB s = none) := by
                  obtain ⟨t, ht⟩ := bytesK_part hx.out (i + 1)
                  refine parB_bad (by rw [hrs.out]; exact h8) ?_
                  rw [hrs.out, ht]
                  exact pcsL_none (by rw [hst.out, byteP_no hd hp]; rfl) t
                have hpp := PC.pparse ((x[i]'hin).toNat : Int) wr hkd.out hc0 hc1
                rw [hp, show PC.noE 0 = 6 from rfl] at hpp
                replace hpp := Lib.hid hpp
                have m0 := hP.out.t2.c0
                have m1 := hP.out.t2.c1
                have m2 := hP.out.t2.c2
                have n0 := hP.out.t2.fr 0
                have n1 := hP.out.t2.fr 1
                have n2 := hP.out.t2.fr 2
                replace hp := Lib.hid hp
                by_cases hd1 : 49 ≤ (x[i]'hin).toNat
                · have e1 : (49 : Int) ≤ ((x[i]'hin).toNat : Int) := by omega
                  have e2 : (((x[i]'hin).toNat : Int) ≤ 56) = False := by rw [eq_iff_iff, iff_false]; omega
                  clear hd hlo
                  go_wp2_with (go_at_call 53; refine hpp.out.mono ?_; rintro e w' ⟨rfl, rfl⟩)
                  obtain ⟨s0, s1, s2⟩ := set3 m0 m1 m2 (.int .i64 0) (.int .i64 0) (.slice none 0 0)
                  exact bodyPost_ret (v := .tuple #[bV 0 0 none 0 0, .int .i64 6]) (by simp [results, Tryd.results30, go_sem, s0, s1, s2]) rfl (PB_none hpn.out ⟨none, 0, rfl, O1.nil (below_set3 hP.out.below (Nat.le_refl _) _ _ _) (by rw [nblk_set, nblk_set, nblk_set]; exact hP.out.below.size)⟩)
                · have e1 : ((49 : Int) ≤ ((x[i]'hin).toNat : Int)) = False := by rw [eq_iff_iff, iff_false]; omega
                  clear hd hlo hd1
                  go_wp2_with (go_at_call 53; refine hpp.out.mono ?_; rintro e w' ⟨rfl, rfl⟩)
                  obtain ⟨s0, s1, s2⟩ := set3 m0 m1 m2 (.int .i64 0) (.int .i64 0) (.slice none 0 0)
                  exact bodyPost_ret (v := .tuple #[bV 0 0 none 0 0, .int .i64 6]) (by simp [results, Tryd.results30, go_sem, s0, s1, s2]) rfl (PB_none hpn.out ⟨none, 0, rfl, O1.nil (below_set3 hP.out.below (Nat.le_refl _) _ _ _) (by rw [nblk_set, nblk_set, nblk_set]; exact hP.out.below.size)⟩)
              · have hpp := PC.pparse ((x[i]'hin).toNat : Int) wr hkd.out hc0 hc1
                rw [show PC.noE (PC.parV ((x[i]'hin).toNat : Int)) = 0 from if_neg hp] at hpp
                replace hpp := Lib.hid hpp
                obtain ⟨acc3, h3⟩ : ∃ acc3, acc2 ++ [PC.parV ((x[i]'hin).toNat : Int)] = acc3 := ⟨_, rfl⟩
                have hn : Hid (pcsL (bytesK rs k ++ x.data.toList.take (i + 1)) = some acc3) := by
                  show _ = _
                  rw [hst.out, byteP_yes hd hp, Option.map_some, h3]
                replace h3 := Lib.hid h3
                replace hp := Lib.hid hp
                by_cases hd1 : 49 ≤ (x[i]'hin).toNat
                · have e1 : (49 : Int) ≤ ((x[i]'hin).toNat : Int) := by omega
                  have e2 : (((x[i]'hin).toNat : Int) ≤ 56) = False := by rw [eq_iff_iff, iff_false]; omega
                  clear hd hlo
                  generalize PC.parV ((x[i]'hin).toNat : Int) = pv at *
                  go_wp2_with (first
                    | (go_at_call 53; refine hpp.out.mono ?_; rintro e w' ⟨rfl, rfl⟩)
                    | (at_builtin; refine wpList_append_recs pieceRow qEnc_len qEnc_one rfl _ _ rfl (B5 + 1) A2 c2 acc2 rfl (World.ownsRow.alloc hP.out.own _) _ 1 [pv] rfl (recs_q _ _ rfl pv _) (by simp only [List.length_cons, List.length_nil]; omega) (by have := hP.out.big; rw [World.size_alloc]; omega) ?_; intro A6 c6 w6 hown6 hg6 _; rw [h3.out] at hown6 ⊢; have hP6 := Lib.hid (hP.out.app ((Below.refl _ _).alloc (Nat.le_refl _) _) hg6 hown6); obtain ⟨_, t5, _, _, _⟩ := hP.out.grown ((Below.refl _ _).alloc (Nat.le_refl _) _) hg6; have m2 := t5.c2; have n2 := t5.fr 2; clear hown6 hg6 t5))
                  go_roundw
                  case rel => exact ⟨i + 1, A6, c6, acc3, by omega, by go_num, hn, hP6⟩
                  case measure => simp [intOf]; omega
                · have e1 : ((49 : Int) ≤ ((x[i]'hin).toNat : Int)) = False := by rw [eq_iff_iff, iff_false]; omega
                  clear hd hlo hd1
                  generalize PC.parV ((x[i]'hin).toNat : Int) = pv at *
                  go_wp2_with (first
                    | (go_at_call 53; refine hpp.out.mono ?_; rintro e w' ⟨rfl, rfl⟩)
                    | (at_builtin; refine wpList_append_recs pieceRow qEnc_len qEnc_one rfl _ _ rfl (B5 + 1) A2 c2 acc2 rfl (World.ownsRow.alloc hP.out.own _) _ 1 [pv] rfl (recs_q _ _ rfl pv _) (by simp only [List.length_cons, List.length_nil]; omega) (by have := hP.out.big; rw [World.size_alloc]; omega) ?_; intro A6 c6 w6 hown6 hg6 _; rw [h3.out] at hown6 ⊢; have hP6 := Lib.hid (hP.out.app ((Below.refl _ _).alloc (Nat.le_refl _) _) hg6 hown6); obtain ⟨_, t5, _, _, _⟩ := hP.out.grown ((Below.refl _ _).alloc (Nat.le_refl _) _) hg6; have m2 := t5.c2; have n2 := t5.fr 2; clear hown6 hg6 t5))
                  go_roundw
                  case rel => exact ⟨i + 1, A6, c6, acc3, by omega, by go_num, hn, hP6⟩
                  case measure => simp [intOf]; omega
          · obtain rfl : i = x.size := by omega
            have hn : Hid (pcsL (bytesK rs (k + 1)) = some acc2) := by
              show _ = _
              rw [bytesK_succ hx.out, ← hacc.out]
              congr 2
              exact (List.take_of_length_le (Nat.le_refl _)).symm
            go_wp2_with fail
            go_roundw
            case rel => exact ⟨k + 1, A2, c2, acc2, by omega, by go_num, hn, hP⟩
            case measure => simp [intOf]; omega
      · obtain rfl : k = rs.length := by omega
        obtain ⟨q, hq⟩ : ∃ q, acc.length / rs.length = q := ⟨_, rfl⟩
        have hqI : (acc.length : Int) / (rs.length : Int) = (q : Int) := by rw [← hq]; exact (Int.natCast_ediv _ _).symm
        have hal : acc.length ≤ 99000 := by
          have h1 := pcsL_len _ _ hacc.out
          have h2 := bytesK_len hrz.out rs.length
          have h5 : rs.length * 1000 ≤ 8 * 1000 := Nat.mul_le_mul_right _ (by omega)
          omega
        have hpb := parB_some (s := s) (by rw [hrs.out]; exact h8) (P := acc) (by rw [hrs.out]; exact hacc.out)
        rw [hrs.out, hq] at hpb
        have hqb : q ≤ 99000 := by rw [← hq]; have := Nat.div_le_self acc.length rs.length; omega
        replace hpb := Lib.hid hpb
        replace hq := Lib.hid hq
        have t50 := hP.out.t5.c0
        have t51 := hP.out.t5.c1
        have t52 := hP.out.t5.c2
        have f50 := hP.out.t5.fr 0
        go_upto_region 23 with fail
        obtain ⟨l1, l2, l3, l4⟩ := hP.out.lt
        have hb0 := Lib.hid hP.out.below
        have ht2 := Lib.hid (hP.out.t2.other (a := ⟨B5, 0, none⟩) (by show B5 ≠ _; omega) (.int .i64 (q : Int)))
        have ht5 := Lib.hid (hP.out.t5.set0 (.int .i64 (q : Int)))
        have hown : Hid (O1 qEnc 1 (B5 + 1) 28 (wr.setCell ⟨B5, 0, none⟩ (.int .i64 (q : Int))) (wr.setCell ⟨B5, 0, none⟩ (.int .i64 (q : Int))) A c acc) :=
          ⟨ownsRow_setCell_other hP.out.own (fun e => by have := (World.ownsRow.lt hP.out.own B5 e).1; omega) _, Below.refl _ _, by rw [nblk_set]; exact hP.out.big⟩
        have hbs : Hid (Below w.heap.size w (wr.setCell ⟨B5, 0, none⟩ (.int .i64 (q : Int)))) := hb0.out.setCell (p := ⟨B5, 0, none⟩) (by show w.heap.size ≤ B5; omega) _
        clear hP t50 t51 t52 f50 hacc
        generalize wr.setCell ⟨B5, 0, none⟩ (.int .i64 (q : Int)) = w5 at *
        have t50 := ht5.out.c0
        have t51 := ht5.out.c1
        have t52 := ht5.out.c2
        have hA5 := RecAt.of_own qEnc_len rfl hown.out.own
        rcases hv : bdB (q : Int) (rs.length : Int) acc with _ | _
        · have hpn : Hid (parB s = none) := by show _ = _; rw [hpb.out, hv]; rfl
          have htx := Lib.hid (ptext_no (q : Int) (rs.length : Int) A c acc w5 hA5 (by omega) hv)
          clear hA5
          go_wp2_with (go_at_call 28; refine htx.out.mono ?_; rintro e w6 ⟨rfl, hbw⟩; replace ht2 := Lib.hid (ht2.out.next hbw); have m0 := ht2.out.c0; have m1 := ht2.out.c1; have m2 := ht2.out.c2; have n0 := ht2.out.fr 0; have n1 := ht2.out.fr 1; have n2 := ht2.out.fr 2; replace hbs := Lib.hid (hbs.out.trans (hbw.mono hbs.out.size)); clear hbw)
          obtain ⟨s0, s1, s2⟩ := set3 m0 m1 m2 (.int .i64 0) (.int .i64 0) (.slice none 0 0)
          exact bodyPost_ret (v := .tuple #[bV 0 0 none 0 0, .int .i64 6]) (by simp [results, Tryd.results30, go_sem, s0, s1, s2]) rfl (PB_none hpn.out ⟨none, 0, rfl, O1.nil (below_set3 hbs.out (Nat.le_refl _) _ _ _) (by rw [nblk_set, nblk_set, nblk_set]; exact hbs.out.size)⟩)
        · have hcap : acc.length ≤ c := by
            obtain ⟨h1, h2, _⟩ := bdB_out hv
            obtain ⟨g0, g1, g2, g3⟩ := szB_out h1
            have := (mul_bd g0 g1 g2 g3).1
            exact own_cap hown.out.own (by omega)
          have htx := Lib.hid (ptext_yes q rs.length A c acc w5 hA5 (hEW.out _ hbs.out) hcap hv)
          clear hA5 hcap
          obtain ⟨T, hT9⟩ : ∃ T, boardT q rs.length acc = T := ⟨_, rfl⟩
          rw [hT9] at htx
          by_cases hTs : T = s
          · have hpy : Hid (parB s = some (q, rs.length, acc)) := by show _ = _; rw [hpb.out, hv, hT9, decide_eq_true hTs]; rfl
            rw [hTs] at htx
            replace hT9 := Lib.hid hT9
            replace hTs := Lib.hid hTs
            go_upto_region 24 with (go_at_call 28; refine htx.out.mono ?_; rintro e w6 ⟨rfl, hbw⟩; replace ht2 := Lib.hid (ht2.out.next hbw); replace ht5 := Lib.hid (ht5.out.next hbw); replace hown := Lib.hid (hown.out.next hbw); replace hbs := Lib.hid (hbs.out.trans (hbw.mono hbs.out.size)); clear hbw)
            clear t50 t51 t52
            have t50 := ht5.out.c0
            have t51 := ht5.out.c1
            have t52 := ht5.out.c2
            have m0 := ht2.out.c0
            have m1 := ht2.out.c1
            have m2 := ht2.out.c2
            have n0 := ht2.out.fr 0
            have n1 := ht2.out.fr 1
            have n2 := ht2.out.fr 2
            go_wp2_with fail
            obtain ⟨s0, s1, s2⟩ := set3 m0 m1 m2 (.int .i64 (q : Int)) (.int .i64 (rs.length : Int)) (.slice A acc.length c)
            have hOf : O1 qEnc 1 (B5 + 1) 28 w6 w6 A c acc := ⟨hown.out.own, Below.refl _ _, hown.out.size⟩
            exact bodyPost_ret (v := .tuple #[bV (q : Int) (rs.length : Int) A acc.length c, .int .i64 0]) (by simp [results, Tryd.results30, go_sem, s0, s1, s2]) rfl (PB_some hpy.out ⟨A, c, rfl, hOf.set3 (by omega) (Nat.le_refl _) hbs.out _ _ _⟩)
          · have hpn : Hid (parB s = none) := by show _ = _; rw [hpb.out, hv, hT9, decide_eq_false hTs]; rfl
            have hne := list_ne hTs
            replace hT9 := Lib.hid hT9
            replace hTs := Lib.hid hTs
            go_wp2_with (go_at_call 28; refine htx.out.mono ?_; rintro e w6 ⟨rfl, hbw⟩; replace ht2 := Lib.hid (ht2.out.next hbw); have m0 := ht2.out.c0; have m1 := ht2.out.c1; have m2 := ht2.out.c2; have n0 := ht2.out.fr 0; have n1 := ht2.out.fr 1; have n2 := ht2.out.fr 2; replace hbs := Lib.hid (hbs.out.trans (hbw.mono hbs.out.size)); clear hbw)
            obtain ⟨s0, s1, s2⟩ := set3 m0 m1 m2 (.int .i64 0) (.int .i64 0) (.slice none 0 0)
            exact bodyPost_ret (v := .tuple #[bV 0 0 none 0 0, .int .i64 6]) (by simp [results, Tryd.results30, go_sem, s0, s1, s2]) rfl (PB_none hpn.out ⟨none, 0, rfl, O1.nil (below_set3 hbs.out (Nat.le_refl _) _ _ _) (by rw [nblk_set, nblk_set, nblk_set]; exact hbs.out.size)⟩)
end Go.Proofs.YtjglpphfkkabnaaDoor
