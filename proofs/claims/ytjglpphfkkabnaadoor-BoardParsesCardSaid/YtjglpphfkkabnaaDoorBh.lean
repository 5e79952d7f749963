/- Layer 3: the text of a rank. -/
import Derived.Test.YtjglpphfkkabnaaDoorBg
import Derived.Laws.IdiomStrings
namespace Go.Proofs.YtjglpphfkkabnaaDoor
open Go.RowKit
set_option linter.unusedSimpArgs false
set_option linter.unusedVariables false

/-- a number as a byte -/
def bx (n : Int) : UInt8 := UInt8.ofNat n.toNat
def bEnc (x : UInt8) : List Value := [.int .u8 (x.toNat : Int)]
theorem bEnc_len (x : UInt8) : (bEnc x).length = 1 := rfl
theorem bEnc_one (x : UInt8) : ∀ u ∈ bEnc x, u.oneCell' = true := by
  intro u hu
  simp only [bEnc, List.mem_cons, List.not_mem_nil, or_false] at hu
  subst hu; rfl
theorem byteRow : RowOf Tryd.prog 80 5 1 1 :=
  RowOf.mk' (z := .int .u8 0) Tryd.underlying80 (by kernel_rfl) (by decide) (by decide) rfl
theorem recs_b (w : World) (x : UInt8) (n : Int) (hn : n = (x.toNat : Int)) (t : TypeId) : RecAt bEnc 1 (w.alloc (.cells #[.int .u8 n] t)) (w.alloc (.cells #[.int .u8 n] t)).heap.size (some ⟨w.heap.size, 0, none⟩) [x] := by
  subst hn
  intro _
  refine ⟨w.heap.size, 0, rfl, by simp, fun k y hk j u hu => ?_⟩
  have hk0 : k = 0 := by have := (List.getElem?_eq_some_iff.1 hk).1; simp at this; omega
  subst hk0
  obtain rfl : x = y := by simpa using hk
  match j, hu with
  | 0, hu => rw [show u = .int .u8 (x.toNat : Int) from (Option.some.inj hu).symm]; simp
  | (j + 1), hu => simp [bEnc] at hu
section
variable {α : Type} {f : α → List Value} {g : α → Value} {base : Nat} {e : TypeId} {w0 W : World} {A : Option Addr} {c : Nat} {l : List α}
theorem flat1 (hf : ∀ x, f x = [g x]) (l : List α) : flatR f l = l.map g := by
  induction l with
  | nil => rfl
  | cons x l ih => show f x ++ flatR f l = _; rw [ih, hf]; rfl
theorem O1.form1 (h : O1 f 1 base e w0 W A c l) (h0 : 0 < l.length) : ∃ g, A = some ⟨g, 0, none⟩ ∧ base ≤ g := by
  rcases h.own.2 with ⟨_, h1⟩ | ⟨g, cap, cur, hv, hb, _⟩
  · omega
  · simp only [Value.slice.injEq] at hv
    exact ⟨g, hv.1, hb⟩
theorem O1.cell1 (hf : ∀ x, f x = [g x]) {b : Nat} (h : O1 f 1 base e w0 W (some ⟨b, 0, none⟩) c l) {k : Nat} {x : α} (hx : l[k]? = some x) : W.cell? ⟨b, k, none⟩ = some (g x) := by
  have hk : k < l.length := (List.getElem?_eq_some_iff.1 hx).1
  have h2 := World.ownsRow.cellAt h.own k (by omega)
  rw [h2, flat1 hf, List.getElem?_map, hx]; rfl
theorem O1.set1 (hf : ∀ x, f x = [g x]) {b : Nat} (h : O1 f 1 base e w0 W (some ⟨b, 0, none⟩) c l) (k : Nat) (x : α) {v : Value} (hv : v = g x) : O1 f 1 base e w0 (W.setCell ⟨b, k, none⟩ v) (some ⟨b, 0, none⟩) c (l.set k x) := by
  subst hv
  have ho := h.own
  obtain ⟨h1, h2⟩ := World.ownsRow.stored ho k (g x)
  refine ⟨?_, h.below.grown h2 h.size (fun k hk => (World.ownsRow.lt ho k hk).1), Nat.le_trans h.size h2.size⟩
  unfold Own1
  rw [flat1 hf] at h1
  rw [List.length_set, flat1 hf, List.map_set]
  exact h1
end
/-- one more piece of a rank: a letter, or a digit that grows -/
def rkStep (out : List UInt8) (p : Int) : List UInt8 :=
  if p = 0 then (match out.getLast? with
    | some c => if 49 ≤ c.toNat ∧ c.toNat ≤ 56 then out.dropLast ++ [c + 1] else out ++ [49]
    | none => out ++ [49])
  else out ++ [bx (PC.letV p)]
def rkL (l : List Int) : List UInt8 := l.foldl rkStep []
/-- the text of a rank -/
def rkT (l : List Int) : ByteArray := ⟨(rkL l).toArray⟩
theorem rkL_succ {l : List Int} {k : Nat} {x : Int} (h : l[k]? = some x) : rkL (l.take (k + 1)) = rkStep (rkL (l.take k)) x := by
  unfold rkL
  rw [List.take_add_one, h, List.foldl_append]
  rfl
theorem rkStep_let (out : List UInt8) {p : Int} (h : p ≠ 0) : rkStep out p = out ++ [bx (PC.letV p)] := if_neg h
theorem rkStep_nil : rkStep [] 0 = [49] := rfl
theorem rkStep_up (pre : List UInt8) (c : UInt8) (h : 49 ≤ c.toNat ∧ c.toNat ≤ 56) : rkStep (pre ++ [c]) 0 = (pre ++ [c]).set pre.length (c + 1) := by
  unfold rkStep
  rw [if_pos rfl, List.getLast?_concat, List.dropLast_concat]
  simp only [if_pos h]
  rw [List.set_append_right _ _ (Nat.le_refl _)]
  simp
theorem rkStep_new (pre : List UInt8) (c : UInt8) (h : ¬ (49 ≤ c.toNat ∧ c.toNat ≤ 56)) : rkStep (pre ++ [c]) 0 = pre ++ [c] ++ [49] := by
  unfold rkStep
  rw [if_pos rfl, List.getLast?_concat]
  simp only [if_neg h]
theorem rkStep_len (out : List UInt8) (p : Int) : (rkStep out p).length ≤ out.length + 1 := by
  unfold rkStep
  split
  · split
    · split
      · rename_i h _
        obtain ⟨ys, rfl⟩ := List.getLast?_eq_some_iff.1 h
        simp
      · simp
    · simp
  · simp
theorem rkL_len (l : List Int) : (rkL l).length ≤ l.length := by
  have key : ∀ (l : List Int) (out : List UInt8), (l.foldl rkStep out).length ≤ out.length + l.length := by
    intro l
    induction l with
    | nil => intro out; simp
    | cons x l ih => intro out; have h1 := ih (rkStep out x); have h2 := rkStep_len out x; simp only [List.foldl_cons, List.length_cons]; omega
  have := key l []
  simpa [rkL] using this
theorem let_bx (p : Int) : PC.letV p = ((bx (PC.letV p)).toNat : Int) := by
  obtain ⟨h0, h1⟩ := PC.letV_bd p
  unfold bx
  rw [UInt8.toNat_ofNat']
  omega
theorem conv_bytes (w : World) (A : Option Addr) (c : Nat) (l : List UInt8) (h : RecAt bEnc 1 w w.heap.size A l) (hl : l.length ≤ 100000) : (convert 80 9 (.slice A l.length c)).run Tryd.prog w = .ok (.string ⟨l.toArray⟩) w := by
  rcases A with _ | a
  · obtain rfl : l = [] := by
      rcases l with _ | ⟨x, l⟩
      · rfl
      · obtain ⟨b, off, e, _⟩ := h (by simp)
        cases e
    rw [run_convert_bytes_string w 80 9 5 none _ c Tryd.underlying80 Tryd.underlying5 Tryd.underlying9]
    simp [Conv.bytesToString]
    try rfl
  · refine run_convert_bytes_back w 80 9 5 a c l Tryd.underlying80 Tryd.underlying5 Tryd.underlying9 fun j hj => ?_
    obtain ⟨b, off, e, _, hc⟩ := h (by omega)
    obtain rfl : a = ⟨b, off, none⟩ := Option.some.inj e
    have h1 := hc j l[j] (List.getElem?_eq_getElem hj) 0 _ rfl
    rw [addr_add]
    rwa [Nat.mul_one, Nat.add_zero] at h1
set_option maxRecDepth 100000 in
set_option maxHeartbeats 2000000 in
theorem prank (A : Option Addr) (c : Nat) (l : List Int) (w : World) (hA : PcsAt w w.heap.size A l) (hE : EnvAt w) (hl : l.length ≤ 1000) (hall : ∀ p, p ∈ l → -15 ≤ p ∧ p ≤ 15) :
    Calls Tryd.prog 48 #[.slice A l.length c] w fun e w' => e = .returned (.string (rkT l)) ∧ Below w.heap.size w w' := by
  have hAW : Hid (∀ W, Below w.heap.size w W → PcsAt W w.heap.size A l) := fun W hb => hA.below (Nat.le_refl _) hb
  have hEW : Hid (∀ W, Below w.heap.size w W → PC.KindsAt W) := fun W hb => (hE.next hb).kinds
  have hallH := Lib.hid hall
  clear hA hE hall
  go_enter Tryd.func48, Tryd.ntmps48
  go_wp2_with fail
  go_loopw [3, 5, 6, 7, 8, 11] (fun s _ _ _ _ i wr => ∃ (k : Nat) (A' : Option Addr) (c' : Nat) (out : List UInt8), k ≤ l.length ∧ i = .int .i64 k ∧ s = .slice A' out.length c' ∧ out.length ≤ 1000 ∧ Hid (rkL (l.take k) = out) ∧ Hid (O1 bEnc 1 w.heap.size 5 w wr A' c' out)) (fun _ _ _ _ _ i _ => l.length - (intOf i).toNat)
  case atStart => exact ⟨0, none, 0, [], by omega, rfl, rfl, by decide, rfl, O1.nil (Below.refl _ _) (Nat.le_refl _)⟩
  case round =>
    obtain ⟨k, A', c', out, hk, rfl, rfl, hol, hout, hO⟩ := hrel
    by_cases hkn : k < l.length
    · obtain ⟨b, off, rfl, hb, hc⟩ := hAW.out _ hO.out.below (by omega)
      obtain ⟨x, hx⟩ : ∃ x, l[k]? = some x := ⟨_, List.getElem?_eq_getElem hkn⟩
      have m0 := pcs1 hc hx
      clear hc
      obtain ⟨x0, x1⟩ := hallH.out x (List.mem_of_getElem? hx)
      have hkW := Lib.hid (hEW.out _ hO.out.below)
      have hsu := Lib.hid (rkL_succ hx)
      have hol2 : Hid ((rkL (l.take (k + 1))).length ≤ 1000) := by
        have h1 := rkL_len (l.take (k + 1))
        have h2 := List.length_take_le (k + 1) l
        show _ ≤ _
        omega
      replace hx := Lib.hid hx
      by_cases hp : x = 0
      · subst hp
        rcases List.eq_nil_or_concat out with hnil | ⟨pre, cl, hcat⟩
        · subst hnil
          have hst : Hid (rkL (l.take (k + 1)) = [49]) := by show _ = _; rw [hsu.out, hout.out]; rfl
          go_wp2_with (at_builtin; refine wpList_append_recs byteRow bEnc_len bEnc_one rfl _ _ rfl w.heap.size A' c' [] rfl (hO.out.alloc _).own _ 1 [49] rfl (recs_b _ 49 49 rfl _) (by simp) (hO.out.alloc _).size ?_; intro A2 c2 w2 hown hg _; rw [List.nil_append] at hown ⊢; have hO' := Lib.hid ((hO.out.alloc _).app hown hg); clear hown hg)
          go_roundw
          case rel => exact ⟨k + 1, A2, c2, [49], by omega, by go_num, rfl, by decide, hst, hO'⟩
          case measure => simp [intOf]; omega
        · obtain ⟨n, hn⟩ : ∃ n, pre.length = n := ⟨_, rfl⟩
          have hlen : out.length = n + 1 := by rw [hcat, List.length_concat, hn]
          obtain ⟨g, rfl, hg⟩ := hO.out.form1 (by omega)
          have hcat' : out = pre ++ [cl] := by rw [hcat, List.concat_eq_append]
          have q0 : wr.cell? ⟨g, n, none⟩ = some (.int .u8 (cl.toNat : Int)) := hO.out.cell1 (g := fun x : UInt8 => Value.int .u8 (x.toNat : Int)) (fun _ => rfl) (by rw [hcat', List.getElem?_append_right (by omega), hn]; simp)
          have q1 : wr.frozen? ⟨g, n, none⟩ = false := World.ownsRow.frozenAt hO.out.own n
          have hcl : cl.toNat < 256 := cl.toNat_lt
          have hin : (n : Int) < (n : Int) + 1 := by omega
          have hn1 : n + 1 ≤ 1000 := by omega
          clear hcat
          replace hcat' := Lib.hid hcat'
          replace hn := Lib.hid hn
          rw [hlen]
          replace hlen := Lib.hid hlen
          by_cases hc1 : 49 ≤ cl.toNat
          · by_cases hc2 : cl.toNat ≤ 56
            · have hst : Hid (rkL (l.take (k + 1)) = out.set n (cl + 1)) := by show _ = _; rw [hsu.out, hout.out, hcat'.out, ← hn.out]; exact rkStep_up pre cl ⟨hc1, hc2⟩
              have hv1 : ((cl.toNat : Int) + 1) = ((cl + 1).toNat : Int) := by
                have : (cl + 1).toNat = cl.toNat + 1 := by rw [UInt8.toNat_add]; show (cl.toNat + 1) % 256 = _; omega
                omega
              have hO2 := Lib.hid (hO.out.set1 (g := fun x : UInt8 => Value.int .u8 (x.toNat : Int)) (fun _ => rfl) n (cl + 1) (congrArg (Value.int .u8) hv1))
              replace hv1 := Lib.hid hv1
              have i1 : (49 : Int) ≤ (cl.toNat : Int) := by omega
              have i2 : (cl.toNat : Int) ≤ 56 := by omega
              go_wp2_with fail
              go_roundw
              case rel => exact ⟨k + 1, some ⟨g, 0, none⟩, c', out.set n (cl + 1), by omega, by go_num, by rw [List.length_set, hlen.out], by rw [List.length_set]; exact hol, hst, hO2⟩
              case measure => simp [intOf]; omega
            · have hst : Hid (rkL (l.take (k + 1)) = out ++ [49]) := by show _ = _; rw [hsu.out, hout.out, hcat'.out]; exact rkStep_new pre cl (fun h => hc2 h.2)
              have i1 : (49 : Int) ≤ (cl.toNat : Int) := by omega
              have i2 : ((cl.toNat : Int) ≤ 56) = False := by rw [eq_iff_iff, iff_false]; omega
              go_wp2_with (at_builtin; refine wpList_append_recs byteRow bEnc_len bEnc_one rfl _ _ rfl w.heap.size (some ⟨g, 0, none⟩) c' out (by rw [hlen.out]; rfl) (hO.out.alloc _).own _ 1 [49] rfl (recs_b _ 49 49 rfl _) (by simp only [List.length_cons, List.length_nil]; omega) (hO.out.alloc _).size ?_; intro A2 c2 w2 hown hg _; have hO' := Lib.hid ((hO.out.alloc _).app hown hg); clear hown hg)
              go_roundw
              case rel => exact ⟨k + 1, A2, c2, out ++ [49], by omega, by go_num, by rw [List.length_append]; rfl, by rw [← hst.out]; exact hol2.out, hst, hO'⟩
              case measure => simp [intOf]; omega
          · have hst : Hid (rkL (l.take (k + 1)) = out ++ [49]) := by show _ = _; rw [hsu.out, hout.out, hcat'.out]; exact rkStep_new pre cl (fun h => hc1 h.1)
            have i1 : ((49 : Int) ≤ (cl.toNat : Int)) = False := by rw [eq_iff_iff, iff_false]; omega
            go_wp2_with (at_builtin; refine wpList_append_recs byteRow bEnc_len bEnc_one rfl _ _ rfl w.heap.size (some ⟨g, 0, none⟩) c' out (by rw [hlen.out]; rfl) (hO.out.alloc _).own _ 1 [49] rfl (recs_b _ 49 49 rfl _) (by simp only [List.length_cons, List.length_nil]; omega) (hO.out.alloc _).size ?_; intro A2 c2 w2 hown hg _; have hO' := Lib.hid ((hO.out.alloc _).app hown hg); clear hown hg)
            go_roundw
            case rel => exact ⟨k + 1, A2, c2, out ++ [49], by omega, by go_num, by rw [List.length_append]; rfl, by rw [← hst.out]; exact hol2.out, hst, hO'⟩
            case measure => simp [intOf]; omega
      · have hst : Hid (rkL (l.take (k + 1)) = out ++ [bx (PC.letV x)]) := by show _ = _; rw [hsu.out, hout.out, rkStep_let _ hp]
        have hlt : Hid (∀ W, W = wr → Calls Tryd.prog 63 #[.int .i8 x] W fun e w' => e = .returned (.tuple #[.int .u8 (PC.letV x), .int .i64 0]) ∧ W = w') := by
          rintro W rfl
          by_cases h9 : 0 < x
          · exact PC.pletter_pos x W hkW.out (by omega) x1
          · exact PC.pletter_neg x W hkW.out x0 (by omega)
        have hp1 : (x != 0) = true := by rw [bne_iff_ne]; exact hp
        have hlb := Lib.hid (let_bx x)
        replace hp := Lib.hid hp
        go_wp2_with (first
          | (go_at_call 63; refine (hlt.out _ rfl).mono ?_; rintro e w5 ⟨rfl, rfl⟩)
          | (at_builtin; refine wpList_append_recs byteRow bEnc_len bEnc_one rfl _ _ rfl w.heap.size A' c' out rfl (hO.out.alloc _).own _ 1 [bx (PC.letV x)] rfl (recs_b _ (bx (PC.letV x)) _ hlb.out _) (by simp only [List.length_cons, List.length_nil]; omega) (hO.out.alloc _).size ?_; intro A2 c2 w2 hown hg _; have hO' := Lib.hid ((hO.out.alloc _).app hown hg); clear hown hg))
        go_roundw
        case rel => exact ⟨k + 1, A2, c2, out ++ [bx (PC.letV x)], by omega, by go_num, by rw [List.length_append]; rfl, by rw [← hst.out]; exact hol2.out, hst, hO'⟩
        case measure => simp [intOf]; omega
    · obtain rfl : k = l.length := by omega
      have hcv := conv_bytes wr A' c' out (RecAt.of_own bEnc_len rfl hO.out.own) (by omega)
      go_wp2_with fail
      go_ret
      exact ⟨by unfold rkT; rw [← hout.out, List.take_length]; rfl, hO.out.below⟩
end Go.Proofs.YtjglpphfkkabnaaDoor
