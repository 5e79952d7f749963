/- Layer 45: the law RatingSeasons. Printed by gen_seas.py. -/
import Derived.Test.YtlmdmdjcokmgjaaDoorRya
import Derived.Test.YtlmdmdjcokmgjaaDoorRyb
import Derived.Test.YtlmdmdjcokmgjaaDoorRyc
namespace Go.Proofs.YtlmdmdjcokmgjaaDoor
open Go.RowKit
set_option linter.unusedSimpArgs false
set_option linter.unusedVariables false

set_option maxRecDepth 100000 in
set_option maxHeartbeats 2000000 in
theorem law_seas_far (R F : List Int) (E : List En) (AR AF AE : Option Addr) (cR cF cE : Nat) (many : Int) (w : World) (hl : LimsAt w) (hR : RecAt iEnc 1 w w.heap.size AR R) (hF : RecAt iEnc 1 w w.heap.size AF F) (hE : RecAt eEnc 3 w w.heap.size AE E) (h : 10 < R.length ∨ 10 < F.length ∨ 30 < E.length) : Calls Tryd.prog 7 #[.slice AR R.length cR, .slice AF F.length cF, .slice AE E.length cE, .int .i64 many] w fun e w' => e = .returned (.bool true) ∧ Below w.heap.size w w'  := by
  have hlH := Lib.hid hl
  clear hl hR hF hE
  by_cases h1 : 10 < R.length
  · have t1 : (10 : Int) < (R.length : Int) := by omega
    clear h
    go_enter Tryd.func7, Tryd.ntmps7
    go_wp2_with (go_at_call 10; refine (pknown _ hlH.out).mono ?_; rintro e w8 ⟨rfl, hb8⟩)
    go_ret
    exact ⟨rfl, hb8⟩
  · have t1 : ((10 : Int) < (R.length : Int)) = False := by rw [eq_iff_iff, iff_false]; omega
    by_cases h2 : 10 < F.length
    · have t2 : (10 : Int) < (F.length : Int) := by omega
      clear h h1
      go_enter Tryd.func7, Tryd.ntmps7
      go_wp2_with (go_at_call 10; refine (pknown _ hlH.out).mono ?_; rintro e w8 ⟨rfl, hb8⟩)
      go_ret
      exact ⟨rfl, hb8⟩
    · have t2 : ((10 : Int) < (F.length : Int)) = False := by rw [eq_iff_iff, iff_false]; omega
      have t3 : (30 : Int) < (E.length : Int) := by omega
      clear h h1 h2
      go_enter Tryd.func7, Tryd.ntmps7
      go_wp2_with (go_at_call 10; refine (pknown _ hlH.out).mono ?_; rintro e w8 ⟨rfl, hb8⟩)
      go_ret
      exact ⟨rfl, hb8⟩
theorem law_seasons (R F : List Int) (E : List En) (AR AF AE : Option Addr) (cR cF cE : Nat) (many : Int) (w : World) (hl : LimsAt w) (hR : RecAt iEnc 1 w w.heap.size AR R) (hF : RecAt iEnc 1 w w.heap.size AF F) (hE : RecAt eEnc 3 w w.heap.size AE E) : Calls Tryd.prog 7 #[.slice AR R.length cR, .slice AF F.length cF, .slice AE E.length cE, .int .i64 many] w fun e w' => e = .returned (.bool true) ∧ Below w.heap.size w w'  := by
  by_cases h : 10 < R.length ∨ 10 < F.length ∨ 30 < E.length
  · exact law_seas_far R F E AR AF AE cR cF cE many w hl hR hF hE h
  · cases hb : allB R F (ownE E many) with
    | false => exact law_seas_bad R F E AR AF AE cR cF cE many w hl hR hF hE (by omega) (by omega) (by omega) hb
    | true =>
      cases hf : fulB R (ownE E many) R.length with
      | true => exact law_seas_full R F E AR AF AE cR cF cE many w hl hR hF hE (by omega) (by omega) (by omega) hb hf
      | false => exact law_seas_ok R F E AR AF AE cR cF cE many w hl hR hF hE (by omega) (by omega) (by omega) hb hf
end Go.Proofs.YtlmdmdjcokmgjaaDoor
