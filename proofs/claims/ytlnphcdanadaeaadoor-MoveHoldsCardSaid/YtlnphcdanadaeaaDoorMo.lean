/- Layer 7: the words of a text, the reference's. -/
import Derived.Test.YtlnphcdanadaeaaDoorMk
import Derived.StillTailTactics
namespace Go.Proofs.YtlnphcdanadaeaaDoor
open Go.RowKit
set_option linter.unusedSimpArgs false
set_option linter.unusedVariables false

/-- one more byte of a text: a blank begins a new word -/
def nextW (ws : List ByteArray) (c : UInt8) : List ByteArray := if c = 32 then ws ++ [⟨#[]⟩] else ws.dropLast ++ [ws.getLastD ⟨#[]⟩ ++ ⟨#[c]⟩]
/-- the words of bytes -/
def wl (l : List UInt8) : List ByteArray := l.foldl nextW [⟨#[]⟩]
def wlT (s : ByteArray) (k : Nat) : List ByteArray := wl (s.data.toList.take k)
theorem wlT_zero (s : ByteArray) : wlT s 0 = [⟨#[]⟩] := by unfold wlT; rw [List.take_zero]; rfl
theorem wlT_succ (s : ByteArray) (k : Nat) (h : k < s.size) : wlT s (k + 1) = nextW (wlT s k) (s[k]'h) := by
  unfold wlT wl
  have hg : s.data.toList[k]? = some (s[k]'h) := by rw [Array.getElem?_toList, Array.getElem?_eq_getElem (by exact h)]; rfl
  rw [List.take_add_one, hg, List.foldl_append]
  rfl
theorem nextW_blank (ws : List ByteArray) : nextW ws 32 = ws ++ [⟨#[]⟩] := if_pos rfl
theorem nextW_byte (pre : List ByteArray) (last : ByteArray) {c : UInt8} (h : c ≠ 32) : nextW (pre ++ [last]) c = pre ++ [last ++ ⟨#[c]⟩] := by
  unfold nextW
  rw [if_neg h, List.dropLast_concat]
  simp
theorem flatS (l : List ByteArray) : flatR sEnc l = l.map Value.string := by
  induction l with
  | nil => rfl
  | cons x l ih => show sEnc x ++ flatR sEnc l = _; rw [ih]; rfl
theorem O1.store {base : Nat} {e : TypeId} {w0 W : World} {A : Option Addr} {c : Nat} {pre : List ByteArray} {last : ByteArray} (h : O1 sEnc 1 base e w0 W A c (pre ++ [last])) (g : Nat) (hA : A = some ⟨g, 0, none⟩) (t : ByteArray) :
    O1 sEnc 1 base e w0 (W.setCell ⟨g, pre.length, none⟩ (.string t)) A c (pre ++ [t]) := by
  subst hA
  have ho := h.own
  obtain ⟨h1, h2⟩ := World.ownsRow.stored ho pre.length (.string t)
  have hgb := World.ownsRow.lt ho g rfl
  refine ⟨?_, h.below.grown h2 h.size (fun k hk => (World.ownsRow.lt ho k hk).1), Nat.le_trans h.size h2.size⟩
  unfold Own1
  have e1 : (pre ++ [t]).length = (pre ++ [last]).length := by simp
  rw [e1, flatS]
  rw [flatS] at h1
  have e2 : ((pre ++ [last]).map Value.string).set pre.length (.string t) = (pre ++ [t]).map Value.string := by
    rw [List.map_append, List.map_append, List.set_append_right _ _ (by simp)]
    simp
  rw [← e2]
  exact h1
theorem own_form {base : Nat} {e : TypeId} {W : World} {A : Option Addr} {c : Nat} {l : List ByteArray} (h : Own1 sEnc 1 base e W A c l) (h0 : 0 < l.length) : ∃ g, A = some ⟨g, 0, none⟩ ∧ base ≤ g := by
  rcases h.2 with ⟨_, h1⟩ | ⟨g, cap, cur, hv, hb, _⟩
  · omega
  · simp only [Value.slice.injEq] at hv
    exact ⟨g, hv.1, hb⟩
theorem ext_one (s : ByteArray) (k : Nat) (h : k < s.size) : s.extract k (k + 1) = ⟨#[s[k]'h]⟩ := by
  apply ba_eq
  rw [ByteArray.data_extract]
  have hd : k < s.data.size := h
  have : s.data.extract k (k + 1) = #[s.data[k]] := by
    refine Array.ext (by rw [Array.size_extract]; simp only [List.size_toArray, List.length_cons, List.length_nil]; omega) (fun i h1 h2 => ?_)
    have hi : i = 0 := by simp only [List.size_toArray, List.length_cons, List.length_nil] at h2; omega
    subst hi
    rw [Array.getElem_extract]
    rfl
  rw [this]
  rfl
theorem rwords_nil (w : World) : Calls Tryd.prog 20 #[.string ⟨#[]⟩] w fun e w' => e = .returned (.slice none 0 0) ∧ w = w' := by
  go_enter Tryd.func20, Tryd.ntmps20
  go_wp2_with fail
  go_ret
  exact ⟨rfl, rfl⟩
set_option maxRecDepth 100000 in
set_option maxHeartbeats 1000000 in
theorem rwords (s : ByteArray) (w : World) (h0 : s ≠ ⟨#[]⟩) (hs : s.size ≤ 1000) : Calls Tryd.prog 20 #[.string s] w fun e w' => (∃ A c, e = .returned (.slice A (wlT s s.size).length c) ∧ RecAt sEnc 1 w' w'.heap.size A (wlT s s.size)) ∧ Below w.heap.size w w' := by
  have hne := emp_ne h0
  clear h0
  go_enter Tryd.func20, Tryd.ntmps20
  go_wp2_with fail
  go_loopw [3, 4] (fun v i wr => ∃ (k : Nat) (A : Option Addr) (c : Nat) (ws : List ByteArray), k ≤ s.size ∧ i = .int .i64 k ∧ v = .slice A ws.length c ∧ Hid (wlT s k = ws) ∧ ws.length ≤ k + 1 ∧ Hid (∃ pre last, ws = pre ++ [last] ∧ last.size ≤ k) ∧ Hid (O1 sEnc 1 w.heap.size 9 w wr A c ws)) (fun _ i _ => s.size - (intOf i).toNat)
  case atStart =>
    refine ⟨0, some ⟨w.heap.size, 0, none⟩, 1, [⟨#[]⟩], by omega, rfl, rfl, wlT_zero s, by simp, ⟨[], ⟨#[]⟩, rfl, by decide⟩, ⟨?_, (Below.refl _ _).alloc (Nat.le_refl _) _, by simp⟩⟩
    exact World.ownsRow_lit w #[.string ⟨#[]⟩] 1 (Nat.le_refl _) (by decide) rfl
  case round =>
    obtain ⟨k, A, c, ws, hk, rfl, rfl, hw, hlk, hlast, hO⟩ := hrel
    by_cases hkn : k < s.size
    · have hsu := Lib.hid (wlT_succ s k hkn)
      have hki : (k : Int) < (s.size : Int) := by omega
      by_cases hc : (s[k]'hkn) = 32
      · have hb : (((s[k]'hkn).toNat : Int) == 32) = true := by rw [hc]; rfl
        replace hc := Lib.hid hc
        have htl : Hid (ws.length ≤ 2000) := by show _ ≤ _; omega
        go_wp2_with (at_builtin; refine wpList_append_recs strRow sEnc_len sEnc_one rfl _ _ rfl w.heap.size A c ws rfl (hO.out.alloc _).own _ 1 [⟨#[]⟩] rfl (recs_str _ _ _) (by have := htl.out; simp only [List.length_cons, List.length_nil]; omega) (hO.out.alloc _).size ?_; intro A2 c2 w2 hown hg _; have hO' := Lib.hid ((hO.out.alloc _).app hown hg); clear hown hg)
        go_roundw
        case rel => exact ⟨k + 1, A2, c2, ws ++ [⟨#[]⟩], by omega, by go_num, by rw [List.length_append]; rfl, by show _ = _; rw [hsu.out, hc.out, hw.out, nextW_blank], by simp; omega, ⟨ws, ⟨#[]⟩, rfl, by show 0 ≤ _; omega⟩, hO'⟩
        case measure => simp [intOf]; omega
      · obtain ⟨pre, last, hws, hls⟩ := hlast.out
        obtain ⟨n, hn⟩ : ∃ n, pre.length = n := ⟨_, rfl⟩
        have hlen : ws.length = n + 1 := by rw [hws, List.length_append, hn]; rfl
        obtain ⟨g, rfl, hg⟩ := own_form hO.out.own (by omega)
        have hcell : wr.cell? ⟨g, n, none⟩ = some (.string last) := by
          have h2 := World.ownsRow.cellAt hO.out.own n (by omega)
          rw [h2, flatS, hws, List.map_append, List.getElem?_append_right (by rw [List.length_map]; omega), List.length_map, hn]
          simp
        have hfro : wr.frozen? ⟨g, n, none⟩ = false := World.ownsRow.frozenAt hO.out.own n
        have hb : (((s[k]'hkn).toNat : Int) == 32) = false := by
          rw [beq_eq_false_iff_ne]
          intro e
          apply hc
          apply UInt8.toNat_inj.1
          show (s[k]'hkn).toNat = 32
          omega
        have hex : Hid (s.extract k (k + 1) = ⟨#[s[k]'hkn]⟩) := by
          show _ = _
          exact ext_one s k hkn
        have hnx : Hid (wlT s (k + 1) = pre ++ [last ++ ⟨#[s[k]'hkn]⟩]) := by show _ = _; rw [hsu.out, hw.out, hws, nextW_byte _ _ hc]
        have hO2 : Hid (∀ t, O1 sEnc 1 w.heap.size 9 w (wr.drew.setCell ⟨g, n, none⟩ (.string t)) (some ⟨g, 0, none⟩) c (pre ++ [t])) := fun t => by
          have h3 := hO.out
          rw [hws] at h3
          have h4 : O1 sEnc 1 w.heap.size 9 w wr.drew (some ⟨g, 0, none⟩) c (pre ++ [last]) := ⟨h3.own, h3.below.drew, h3.size⟩
          have h5 := h4.store g rfl t
          rw [hn] at h5
          exact h5
        have hws1 : IntKind.i64.wrap (n : Int) = (n : Int) := IntWalk.i64_in _ (by omega)
        have hwk1 : IntKind.i64.wrap ((k : Int) + 1) = (k : Int) + 1 := IntWalk.i64_in _ (by omega)
        have hls' : last.size + 1 ≤ 1001 := by omega
        have hsx : (s.extract k (k + 1)).size = 1 := by rw [hex.out]; rfl
        have hcat : (9223372036854775807 < last.size + 1) = False := by rw [eq_iff_iff, iff_false]; omega
        have hin : (n : Int) < (n : Int) + 1 := by omega
        have hki1 : (k : Int) + 1 ≤ (s.size : Int) := by omega
        have hki2 : (k : Int) ≤ (k : Int) + 1 := by omega
        rw [hlen]
        clear hc hlast hO hw
        replace hws := Lib.hid hws
        replace hsu := Lib.hid hsu
        go_upto_region 9 with fail
        refine wp_region_still_tail 17 (by kernel_rfl) (by kernel_rfl) ?_
        simp only [List.take_succ_cons, List.take_zero, List.drop_succ_cons, List.drop_zero]
        repeat still_step
        refine wpStill_nil ?_
        change wpList _ _ _ _ _ (World.drew _)
        generalize s.extract k (k + 1) = X at *
        have hfd : wr.drew.frozen? ⟨g, n, none⟩ = false := hfro
        have hcd : wr.drew.cell? ⟨g, n, none⟩ = some (.string last) := hcell
        go_wp2_with fail
        go_roundw
        case rel =>
          refine ⟨k + 1, some ⟨g, 0, none⟩, c, pre ++ [last ++ X], by omega, by go_num, by rw [List.length_append, hn]; rfl, by show _ = _; rw [hnx.out, hex.out], ?_, ⟨pre, last ++ X, rfl, ?_⟩, ?_⟩
          · rw [List.length_append, hn]; show n + 1 ≤ _; omega
          · rw [ByteArray.size_append, hsx]; omega
          · have h6 := hO2.out (last ++ X)
            exact ⟨h6.own, h6.below, h6.size⟩
        case measure => simp [intOf]; omega
    · obtain rfl : k = s.size := by omega
      go_wp2_with fail
      go_ret
      exact ⟨⟨A, c, by rw [hw.out]; rfl, by rw [hw.out]; exact RecAt.of_own sEnc_len rfl hO.out.own⟩, hO.out.below⟩
end Go.Proofs.YtlnphcdanadaeaaDoor
