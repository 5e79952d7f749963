/- Layer 45: the theorem of the stage, walked: all cases. -/
import Derived.Test.YtlmdmdjcokmgjaaDoorRt
namespace Go.Proofs.YtlmdmdjcokmgjaaDoor
open Go.RowKit
set_option linter.unusedSimpArgs false
set_option linter.unusedVariables false

set_option maxRecDepth 100000 in
set_option maxHeartbeats 2000000 in
theorem law_holds_bad (a b c k : Int) (A : Option Addr) (l : List (Int × Int)) (cc : Nat) (w : World) (hl : LimsAt w) (hg : GamesAt w w.heap.size A l) (hm : l.length ≤ maxLen)
    (hbad : inB a 0 4000 = false ∨ (inB a 0 4000 = true ∧ inB b 0 4000 = false) ∨ (inB a 0 4000 = true ∧ inB b 0 4000 = true ∧ inB c 0 4000 = false) ∨
      (inB a 0 4000 = true ∧ inB b 0 4000 = true ∧ inB c 0 4000 = true ∧ (k < 1 ∨ (1 ≤ k ∧ 60 < k) ∨ ((1 ≤ k ∧ k ≤ 60) ∧ 20 < l.length) ∨ ((1 ≤ k ∧ k ≤ 60) ∧ l.length ≤ 20 ∧ vldG l = false)))) :
    Calls Tryd.prog 6 #[.int .i64 a, .int .i64 b, .int .i64 c, .int .i64 k, .slice A l.length cc] w fun e w' => e = .returned (.bool true) ∧ Below w.heap.size w w' := by
  have hlH := Lib.hid hl
  have hgH := Lib.hid hg
  have hmH := Lib.hid hm
  unfold maxLen at hm
  clear hl hg
  rcases hbad with ha | ⟨ha, hb⟩ | ⟨ha, hb, hc⟩ | ⟨ha, hb, hc, hk | ⟨hk, hk'⟩ | ⟨⟨hk, hk'⟩, hlen⟩ | ⟨⟨hk, hk'⟩, hlen, hv⟩⟩
  all_goals
    go_enter Tryd.func6, Tryd.ntmps6
    go_wp2_with (first
      | (go_at_call 9; refine (rrat _ _).mono ?_; rintro e w' ⟨rfl, rfl⟩)
      | (go_at_call 14; refine (rvalid _ _ _ _ hgH.out hmH.out).mono ?_; rintro e w' ⟨rfl, rfl⟩)
      | (go_at_call 10; refine (pknown _ hlH.out).mono ?_; rintro e w1 ⟨rfl, hb1⟩))
    go_ret
    exact ⟨rfl, hb1⟩

theorem law_holds (a b c k : Int) (A : Option Addr) (l : List (Int × Int)) (cc : Nat) (w : World) (hl : LimsAt w) (hg : GamesAt w w.heap.size A l) (hm : l.length ≤ maxLen) :
    Calls Tryd.prog 6 #[.int .i64 a, .int .i64 b, .int .i64 c, .int .i64 k, .slice A l.length cc] w fun e w' => e = .returned (.bool true) ∧ Below w.heap.size w w' := by
  rcases inB_or a 0 4000 with ⟨a0, a1, ha⟩ | ha
  · rcases inB_or b 0 4000 with ⟨b0, b1, hb⟩ | hb
    · rcases inB_or c 0 4000 with ⟨c0, c1, hc⟩ | hc
      · by_cases h1 : k < 1
        · exact law_holds_bad a b c k A l cc w hl hg hm (.inr (.inr (.inr ⟨ha, hb, hc, .inl h1⟩)))
        · by_cases h2 : 60 < k
          · exact law_holds_bad a b c k A l cc w hl hg hm (.inr (.inr (.inr ⟨ha, hb, hc, .inr (.inl ⟨by omega, h2⟩)⟩)))
          · by_cases h3 : 20 < l.length
            · exact law_holds_bad a b c k A l cc w hl hg hm (.inr (.inr (.inr ⟨ha, hb, hc, .inr (.inr (.inl ⟨⟨by omega, by omega⟩, h3⟩))⟩)))
            · cases hv : vldG l
              · exact law_holds_bad a b c k A l cc w hl hg hm (.inr (.inr (.inr ⟨ha, hb, hc, .inr (.inr (.inr ⟨⟨by omega, by omega⟩, by omega, hv⟩))⟩)))
              · by_cases h4 : b ≤ a
                · exact law_holds_ge a b c k A l cc w hl hg (by omega) a0 a1 b0 b1 c0 c1 (by omega) (by omega) hv h4
                · exact law_holds_lt a b c k A l cc w hl hg (by omega) a0 a1 b0 b1 c0 c1 (by omega) (by omega) hv (by omega)
      · exact law_holds_bad a b c k A l cc w hl hg hm (.inr (.inr (.inl ⟨ha, hb, hc⟩)))
    · exact law_holds_bad a b c k A l cc w hl hg hm (.inr (.inl ⟨ha, hb⟩))
  · exact law_holds_bad a b c k A l cc w hl hg hm (.inl ha)
end Go.Proofs.YtlmdmdjcokmgjaaDoor
