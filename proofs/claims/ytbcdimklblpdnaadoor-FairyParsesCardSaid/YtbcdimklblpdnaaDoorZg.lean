/- Layer 27: one byte is struck from a text (plain); the raw text of an atom. -/
import Derived.Test.YtbcdimklblpdnaaDoorZb
import Derived.Test.YtbcdimklblpdnaaDoorZsh
import Derived.Lib.Replace
import Derived.Lib.IndexBytes
namespace Go.Proofs.YtbcdimklblpdnaaDoor
open Go Go.RowKit
set_option linter.unusedSimpArgs false
set_option linter.unusedVariables false
theorem ib_spec (c : UInt8) : ∀ s : List UInt8, (Lib.indexByte s c = -1 ∧ c ∉ s) ∨ ∃ p t, s = p ++ c :: t ∧ c ∉ p ∧ Lib.indexByte s c = (p.length : Int)
  | [] => .inl ⟨rfl, by simp⟩
  | b :: l => by
    by_cases h : b = c
    · subst h
      exact .inr ⟨[], l, rfl, by simp, by show (if b == b then (0 : Int) else _) = 0; rw [if_pos (by simp)]⟩
    · have hb : (b == c) = false := beq_eq_false_iff_ne.2 h
      have e : Lib.indexByte (b :: l) c = if Lib.indexByte l c == -1 then -1 else Lib.indexByte l c + 1 := by
        show (if b == c then (0 : Int) else _) = _
        rw [hb]; rfl
      rcases ib_spec c l with ⟨h1, h2⟩ | ⟨p, t, h1, h2, h3⟩
      · refine .inl ⟨by rw [e, h1]; rfl, ?_⟩
        rw [List.mem_cons, not_or]
        exact ⟨fun hh => h hh.symm, h2⟩
      · refine .inr ⟨b :: p, t, by rw [h1]; rfl, ?_, ?_⟩
        · rw [List.mem_cons, not_or]
          exact ⟨fun hh => h hh.symm, h2⟩
        · rw [e, h3, if_neg (by rw [beq_iff_eq]; omega)]
          simp
theorem countF_one (c : UInt8) : ∀ (n : Nat) (s : List UInt8), s.length < n → Lib.countFrom [c] n s = s.count c
  | 0, s, h => absurd h (by omega)
  | n + 1, s, h => by
    unfold Lib.countFrom
    rw [Lib.index_one]
    rcases ib_spec c s with ⟨h1, h2⟩ | ⟨p, t, h1, h2, h3⟩
    · rw [h1, if_pos (by decide), List.count_eq_zero.2 h2]
    · rw [if_neg (by rw [h3, beq_iff_eq]; omega), h3]
      have hd : s.drop ((p.length : Int).toNat + [c].length) = t := by
        rw [h1, Int.toNat_natCast]
        simp
      rw [hd, countF_one c n t (by rw [h1] at h; simp at h; omega), h1, List.count_append, List.count_eq_zero.2 h2]
      simp
      omega
theorem replK_one (c : UInt8) : ∀ (k : Nat) (s : List UInt8), s.count c ≤ k → Lib.replaceK [c] [] k s = s.filter (fun b => decide (b ≠ c))
  | 0, s, h => by
    have h0 : c ∉ s := List.count_eq_zero.1 (by omega)
    show s = _
    rw [List.filter_eq_self.2]
    intro b hb
    exact decide_eq_true (fun e => h0 (e ▸ hb))
  | k + 1, s, h => by
    unfold Lib.replaceK
    rw [Lib.index_one]
    rcases ib_spec c s with ⟨h1, h2⟩ | ⟨p, t, h1, h2, h3⟩
    · rw [h1, if_pos (by decide), List.filter_eq_self.2]
      intro b hb
      exact decide_eq_true (fun e => h2 (e ▸ hb))
    · rw [if_neg (by rw [h3, beq_iff_eq]; omega), h3]
      have hd : s.drop ((p.length : Int).toNat + [c].length) = t := by
        rw [h1, Int.toNat_natCast]
        simp
      have ht : s.take (p.length : Int).toNat = p := by
        rw [h1, Int.toNat_natCast]
        simp
      have hct : t.count c ≤ k := by
        rw [h1, List.count_append, List.count_cons_self] at h
        omega
      have hp : p.filter (fun b => decide (b ≠ c)) = p := List.filter_eq_self.2 fun b hb => decide_eq_true (fun e => h2 (e ▸ hb))
      rw [hd, ht, replK_one c k t hct, List.append_nil, h1, List.filter_append, hp]
      simp
theorem repl_one (c : UInt8) (s : List UInt8) : Lib.replaceAll s [c] [] = s.filter (fun b => decide (b ≠ c)) := by
  unfold Lib.replaceAll Lib.replace
  rw [if_neg (by simp)]
  have h : Lib.replaceNum s [c] (-1) = s.count c := by
    unfold Lib.replaceNum
    rw [if_pos (.inl (by decide))]
    exact countF_one c _ s (by omega)
  rw [h]
  exact replK_one c _ s (Nat.le_refl _)
/-- the raw text: a blank where there is no letter -/
def rawB (x : At) : List UInt8 := [([32, 109, 99] : List UInt8).getD x.mode.toNat 0, ([32, 102, 98] : List UInt8).getD x.way.toNat 0, letB x.kind, digB x.short, digB x.long] ++ (if 0 < x.most then [120, digB x.most] else [])
theorem raw_filter {x : At} (h : okA x) : (rawB x).filter (fun b => decide (b ≠ 32)) = atB x := by
  obtain ⟨hk, hm, hy, hs, hl, hx⟩ := h
  have hl1 : 1 ≤ x.long := by have := hl.1; unfold leastA at this; split at this <;> omega
  have hx7 : x.most ≤ 7 := by have := hx.2; unfold mostA at this; split at this <;> omega
  have hd : ∀ n : Int, 0 ≤ n → n ≤ 7 → digB n ≠ 32 := fun n h0 h7 => by
    rcases (by omega : n = 0 ∨ n = 1 ∨ n = 2 ∨ n = 3 ∨ n = 4 ∨ n = 5 ∨ n = 6 ∨ n = 7) with rfl | rfl | rfl | rfl | rfl | rfl | rfl | rfl <;> decide
  have hle : letB x.kind ≠ 32 := by
    rcases (by omega : x.kind = 1 ∨ x.kind = 2 ∨ x.kind = 3 ∨ x.kind = 4 ∨ x.kind = 5) with e | e | e | e | e <;> rw [e] <;> decide
  have hS := hd x.short (by omega) (by omega)
  have hL := hd x.long (by omega) (by omega)
  have hX := hd x.most hx.1 hx7
  have hM : [([32, 109, 99] : List UInt8).getD x.mode.toNat 0].filter (fun b => decide (b ≠ 32)) = modB x.mode := by
    rcases (by omega : x.mode = 0 ∨ x.mode = 1 ∨ x.mode = 2) with e | e | e <;> rw [e] <;> rfl
  have hY : [([32, 102, 98] : List UInt8).getD x.way.toNat 0].filter (fun b => decide (b ≠ 32)) = wayB x.way := by
    rcases (by omega : x.way = 0 ∨ x.way = 1 ∨ x.way = 2) with e | e | e <;> rw [e] <;> rfl
  have e : rawB x = [([32, 109, 99] : List UInt8).getD x.mode.toNat 0] ++ ([([32, 102, 98] : List UInt8).getD x.way.toNat 0] ++ ([letB x.kind] ++ ([digB x.short] ++ ([digB x.long] ++ (if 0 < x.most then [120, digB x.most] else []))))) := rfl
  rw [e, List.filter_append, hM, List.filter_append, hY]
  unfold atB
  by_cases hp : 0 < x.most
  · rw [if_pos hp, if_pos hp]
    simp [hle, hS, hL, hX, List.append_assoc]
  · rw [if_neg hp, if_neg hp]
    simp [hle, hS, hL, List.append_assoc]
end Go.Proofs.YtbcdimklblpdnaaDoor
