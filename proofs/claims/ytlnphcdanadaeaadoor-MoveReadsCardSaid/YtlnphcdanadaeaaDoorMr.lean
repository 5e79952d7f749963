/- Layer 7: the law MoveReads, joined. -/
import Derived.Test.YtlnphcdanadaeaaDoorMq
namespace Go.Proofs.YtlnphcdanadaeaaDoor
open Go.RowKit
set_option linter.unusedSimpArgs false
set_option linter.unusedVariables false

theorem reads_nil (f r : Int) (w : World) (hE : EnvAt w) (h : szB f r = true) : Calls Tryd.prog 6 #[.agg #[.int .i64 f, .int .i64 r], .string ⟨#[]⟩] w fun e w' => e = .returned (.bool true) ∧ Below w.heap.size w w' := by
  have hK := Lib.hid (BK.first f r w 23)
  have c0 := hK.out.c0
  have c1 := hK.out.c1
  have hEW : Hid (∀ W, Below w.heap.size w W → EnvAt W) := fun W hb => hE.next hb
  clear hE
  go_enter Tryd.func6, Tryd.ntmps6
  go_wp2_with (first
    | (go_at_call 18; refine (ppl_nil _ _ _ h).mono ?_; rintro e w1 ⟨rfl, hbw⟩; replace hK := Lib.hid (hK.out.next hbw); replace c0 := hK.out.c0; replace c1 := hK.out.c1; clear hbw)
    | (go_at_call 14; refine (rsize _ _ _).mono ?_; rintro e w2 ⟨rfl, hbw⟩; rw [h]; replace hK := Lib.hid (hK.out.next hbw); replace c0 := hK.out.c0; replace c1 := hK.out.c1; clear hbw)
    | (go_at_call 20; refine (rwords_nil _).mono ?_; rintro e w3 ⟨rfl, rfl⟩))
  go_loopw [9, 10] (fun v i wr => v = .slice none 0 0 ∧ i = .int .i64 0 ∧ Hid (BK f r w wr)) (fun _ i _ => 0)
  case atStart => exact ⟨rfl, rfl, hK⟩
  case round =>
    obtain ⟨rfl, rfl, hKr⟩ := hrel
    go_wp2_with (first
      | (go_at_call 19; refine (rsame none none 0 0 [] [] _ RecAt.nil RecAt.nil (by decide) (by decide)).mono ?_; rintro e w8 ⟨rfl, hbw⟩; rw [decide_eq_true rfl]; replace hKr := Lib.hid (hKr.out.next hbw); clear hbw)
      | (go_at_call 11; refine (known_7 _ (hEW.out _ hKr.out.below)).mono ?_; rintro e w9 ⟨rfl, hbw⟩; replace hKr := Lib.hid (hKr.out.next hbw); clear hbw))
    go_ret
    exact ⟨rfl, hKr.out.below⟩
theorem law_reads (f r : Int) (s : ByteArray) (w : World) (hE : EnvAt w) (hm : s.size ≤ maxLen) : Calls Tryd.prog 6 #[.agg #[.int .i64 f, .int .i64 r], .string s] w fun e w' => e = .returned (.bool true) ∧ Below w.heap.size w w' := by
  by_cases h3 : 300 < s.size
  · exact reads_long f r s w hE h3 hm
  · cases h : szB f r
    · exact reads_arg f r s w hE (by omega) h
    · by_cases h0 : s = ⟨#[]⟩
      · subst h0
        exact reads_nil f r w hE h
      · exact reads_in f r s w hE (by omega) h0 h
end Go.Proofs.YtlnphcdanadaeaaDoor
