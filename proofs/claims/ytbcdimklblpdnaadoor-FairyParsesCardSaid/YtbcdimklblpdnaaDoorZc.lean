/- Layer 27: an atom is read from its text; All holds each atom once (plain). -/
import Derived.Test.YtbcdimklblpdnaaDoorZd
import Derived.Test.YtbcdimklblpdnaaDoorZb
namespace Go.Proofs.YtbcdimklblpdnaaDoor
open Go Go.RowKit
set_option linter.unusedSimpArgs false
set_option linter.unusedVariables false
/-- a letter is taken off the beginning -/
def idxB (of_ : List UInt8) : List UInt8 → Int × List UInt8
  | [] => (0, [])
  | c :: t => if 0 < of_.idxOf c ∧ of_.idxOf c < of_.length then ((of_.idxOf c : Nat), t) else (0, c :: t)
def cutB (b : UInt8) : List UInt8 → Option (List UInt8)
  | [] => none
  | c :: t => if c = b then some t else none
def mdL : List UInt8 := [32, 109, 99]
def wyL : List UInt8 := [32, 102, 98]
def ltL : List UInt8 := [32, 76, 82, 72, 74, 88]
def dgL : List UInt8 := [32, 49, 50, 51, 52, 53, 54, 55]
/-- the atom that is read -/
def prA (w : List UInt8) : At :=
  let m := idxB mdL w
  let y := idxB wyL m.2
  let k := idxB ltL y.2
  let s := idxB dgL k.2
  let w4 := if s.1 = 0 then (cutB 48 s.2).getD s.2 else s.2
  let l := idxB dgL w4
  let x := match cutB 120 l.2 with
    | some t => (idxB dgL t).1
    | none => 0
  ⟨k.1, s.1, l.1, x, m.1, y.1⟩
theorem st1 {m y k : Int} (hm : 0 ≤ m ∧ m ≤ 2) (hy : 0 ≤ y ∧ y ≤ 2) (hk : 1 ≤ k ∧ k ≤ 5) (T : List UInt8) : idxB mdL (modB m ++ (wayB y ++ (letB k :: T))) = (m, wayB y ++ (letB k :: T)) := by
  rcases (by omega : m = 0 ∨ m = 1 ∨ m = 2) with rfl | rfl | rfl
  · rcases (by omega : y = 0 ∨ y = 1 ∨ y = 2) with rfl | rfl | rfl
    · rcases (by omega : k = 1 ∨ k = 2 ∨ k = 3 ∨ k = 4 ∨ k = 5) with rfl | rfl | rfl | rfl | rfl <;> rfl
    · rfl
    · rfl
  · rfl
  · rfl
theorem st2 {y k : Int} (hy : 0 ≤ y ∧ y ≤ 2) (hk : 1 ≤ k ∧ k ≤ 5) (T : List UInt8) : idxB wyL (wayB y ++ (letB k :: T)) = (y, letB k :: T) := by
  rcases (by omega : y = 0 ∨ y = 1 ∨ y = 2) with rfl | rfl | rfl
  · rcases (by omega : k = 1 ∨ k = 2 ∨ k = 3 ∨ k = 4 ∨ k = 5) with rfl | rfl | rfl | rfl | rfl <;> rfl
  · rfl
  · rfl
theorem st3 {k : Int} (hk : 1 ≤ k ∧ k ≤ 5) (T : List UInt8) : idxB ltL (letB k :: T) = (k, T) := by
  rcases (by omega : k = 1 ∨ k = 2 ∨ k = 3 ∨ k = 4 ∨ k = 5) with rfl | rfl | rfl | rfl | rfl <;> rfl
theorem st4 {n : Int} (hn : 0 ≤ n ∧ n ≤ 7) (T : List UInt8) : (idxB dgL (digB n :: T)).1 = n ∧ (if (idxB dgL (digB n :: T)).1 = 0 then (cutB 48 (idxB dgL (digB n :: T)).2).getD (idxB dgL (digB n :: T)).2 else (idxB dgL (digB n :: T)).2) = T := by
  rcases (by omega : n = 0 ∨ n = 1 ∨ n = 2 ∨ n = 3 ∨ n = 4 ∨ n = 5 ∨ n = 6 ∨ n = 7) with rfl | rfl | rfl | rfl | rfl | rfl | rfl | rfl <;> exact ⟨rfl, rfl⟩
theorem st5 {n : Int} (hn : 1 ≤ n ∧ n ≤ 7) (T : List UInt8) : idxB dgL (digB n :: T) = (n, T) := by
  rcases (by omega : n = 1 ∨ n = 2 ∨ n = 3 ∨ n = 4 ∨ n = 5 ∨ n = 6 ∨ n = 7) with rfl | rfl | rfl | rfl | rfl | rfl | rfl <;> rfl
theorem st6 {n : Int} (hn : 0 ≤ n ∧ n ≤ 7) : (match cutB 120 (if 0 < n then [120] ++ [digB n] else []) with | some t => (idxB dgL t).1 | none => 0) = n := by
  rcases (by omega : n = 0 ∨ n = 1 ∨ n = 2 ∨ n = 3 ∨ n = 4 ∨ n = 5 ∨ n = 6 ∨ n = 7) with rfl | rfl | rfl | rfl | rfl | rfl | rfl | rfl <;> rfl
theorem prA_at {a : At} (h : okA a) : prA (atB a) = a := by
  obtain ⟨hk, hm, hy, hs, hl, hx⟩ := h
  have hl1 : 1 ≤ a.long := by have := hl.1; unfold leastA at this; split at this <;> omega
  have hx7 : a.most ≤ 7 := by have := hx.2; unfold mostA at this; split at this <;> omega
  have e : atB a = modB a.mode ++ (wayB a.way ++ (letB a.kind :: (digB a.short :: (digB a.long :: (if 0 < a.most then [120] ++ [digB a.most] else []))))) := by
    unfold atB
    simp [List.append_assoc]
  rw [e]
  obtain ⟨X, hX⟩ : ∃ X, (if 0 < a.most then [120] ++ [digB a.most] else []) = X := ⟨_, rfl⟩
  have h6 := st6 (n := a.most) ⟨hx.1, hx7⟩
  rw [hX] at h6 ⊢
  obtain ⟨h4, h4b⟩ := st4 (n := a.short) ⟨by omega, by omega⟩ (digB a.long :: X)
  rw [h4] at h4b
  have h5 := st5 (n := a.long) ⟨hl1, hl.2⟩ X
  unfold prA
  simp only [st1 hm hy hk, st2 hy hk, st3 hk, h4, h4b, h5, h6]
theorem atB_inj {a b : At} (ha : okA a) (hb : okA b) (h : atB a = atB b) : a = b := by rw [← prA_at ha, ← prA_at hb, h]
theorem mem6 {k m y L s : Int} {a : At} : ∀ {n : Nat}, a ∈ al6 k m y L s n → (a.kind = k ∧ a.mode = m ∧ a.way = y ∧ a.long = L ∧ a.short = s) ∧ a.most < (n : Int) := by
  intro n
  induction n with
  | zero => intro h; exact absurd h (by simp [al6])
  | succ n ih =>
    intro h
    unfold al6 at h
    rcases List.mem_append.1 h with h | h
    · obtain ⟨h1, h2⟩ := ih h
      exact ⟨h1, by omega⟩
    · split at h
      · rw [List.mem_singleton.1 h]
        exact ⟨⟨rfl, rfl, rfl, rfl, rfl⟩, by show (n : Int) < ((n + 1 : Nat) : Int); omega⟩
      · exact absurd h (by simp)
theorem mem5 {k m y L : Int} {a : At} : ∀ {n : Nat}, a ∈ al5 k m y L n → (a.kind = k ∧ a.mode = m ∧ a.way = y ∧ a.long = L) ∧ a.short < (n : Int) := by
  intro n
  induction n with
  | zero => intro h; exact absurd h (by simp [al5])
  | succ n ih =>
    intro h
    unfold al5 at h
    rcases List.mem_append.1 h with h | h
    · obtain ⟨h1, h2⟩ := ih h
      exact ⟨h1, by omega⟩
    · obtain ⟨⟨h1, h2, h3, h4, h5⟩, _⟩ := mem6 h
      exact ⟨⟨h1, h2, h3, h4⟩, by omega⟩
theorem mem4 {k m y : Int} {a : At} : ∀ {n : Nat}, a ∈ al4 k m y n → (a.kind = k ∧ a.mode = m ∧ a.way = y) ∧ a.long < (n : Int) + 1 := by
  intro n
  induction n with
  | zero => intro h; exact absurd h (by simp [al4])
  | succ n ih =>
    intro h
    unfold al4 at h
    rcases List.mem_append.1 h with h | h
    · obtain ⟨h1, h2⟩ := ih h
      exact ⟨h1, by omega⟩
    · obtain ⟨⟨h1, h2, h3, h4⟩, _⟩ := mem5 h
      exact ⟨⟨h1, h2, h3⟩, by omega⟩
theorem mem3 {k m : Int} {a : At} : ∀ {n : Nat}, a ∈ al3 k m n → (a.kind = k ∧ a.mode = m) ∧ a.way < (n : Int) := by
  intro n
  induction n with
  | zero => intro h; exact absurd h (by simp [al3])
  | succ n ih =>
    intro h
    unfold al3 at h
    rcases List.mem_append.1 h with h | h
    · obtain ⟨h1, h2⟩ := ih h
      exact ⟨h1, by omega⟩
    · obtain ⟨⟨h1, h2, h3⟩, _⟩ := mem4 h
      exact ⟨⟨h1, h2⟩, by omega⟩
theorem mem2 {k : Int} {a : At} : ∀ {n : Nat}, a ∈ al2 k n → a.kind = k ∧ a.mode < (n : Int) := by
  intro n
  induction n with
  | zero => intro h; exact absurd h (by simp [al2])
  | succ n ih =>
    intro h
    unfold al2 at h
    rcases List.mem_append.1 h with h | h
    · obtain ⟨h1, h2⟩ := ih h
      exact ⟨h1, by omega⟩
    · obtain ⟨⟨h1, h2⟩, _⟩ := mem3 h
      exact ⟨h1, by omega⟩
theorem mem1 {a : At} : ∀ {n : Nat}, a ∈ al1 n → a.kind < (n : Int) + 1 := by
  intro n
  induction n with
  | zero => intro h; exact absurd h (by simp [al1])
  | succ n ih =>
    intro h
    unfold al1 at h
    rcases List.mem_append.1 h with h | h
    · have := ih h; omega
    · obtain ⟨h1, _⟩ := mem2 h
      omega
theorem cnt_app {a : At} {X Y : List At} (hX : X.count a ≤ 1) (hY : Y.count a ≤ 1) (h : a ∈ X → a ∈ Y → False) : (X ++ Y).count a ≤ 1 := by
  rw [List.count_append]
  by_cases h1 : a ∈ X
  · have h2 : Y.count a = 0 := List.count_eq_zero.2 (fun h2 => h h1 h2)
    omega
  · have h2 : X.count a = 0 := List.count_eq_zero.2 h1
    omega
theorem cnt6 (a : At) (k m y L s : Int) : ∀ n, (al6 k m y L s n).count a ≤ 1
  | 0 => by simp [al6]
  | n + 1 => by
    unfold al6
    refine cnt_app (cnt6 a k m y L s n) ?_ fun h1 h2 => ?_
    · split
      · exact Nat.le_trans (List.count_le_length) (by simp)
      · simp
    · have h3 := (mem6 h1).2
      split at h2
      · rw [List.mem_singleton.1 h2] at h3
        have h4 : (n : Int) < (n : Int) := h3
        omega
      · exact absurd h2 (by simp)
theorem cnt5 (a : At) (k m y L : Int) : ∀ n, (al5 k m y L n).count a ≤ 1
  | 0 => by simp [al5]
  | n + 1 => by
    unfold al5
    refine cnt_app (cnt5 a k m y L n) (cnt6 _ _ _ _ _ _ _) fun h1 h2 => ?_
    have h3 := (mem5 h1).2
    have h4 := (mem6 h2).1.2.2.2.2
    omega
theorem cnt4 (a : At) (k m y : Int) : ∀ n, (al4 k m y n).count a ≤ 1
  | 0 => by simp [al4]
  | n + 1 => by
    unfold al4
    refine cnt_app (cnt4 a k m y n) (cnt5 _ _ _ _ _ _) fun h1 h2 => ?_
    have h3 := (mem4 h1).2
    have h4 := (mem5 h2).1.2.2.2
    omega
theorem cnt3 (a : At) (k m : Int) : ∀ n, (al3 k m n).count a ≤ 1
  | 0 => by simp [al3]
  | n + 1 => by
    unfold al3
    refine cnt_app (cnt3 a k m n) (cnt4 _ _ _ _ _) fun h1 h2 => ?_
    have h3 := (mem3 h1).2
    have h4 := (mem4 h2).1.2.2
    omega
theorem cnt2 (a : At) (k : Int) : ∀ n, (al2 k n).count a ≤ 1
  | 0 => by simp [al2]
  | n + 1 => by
    unfold al2
    refine cnt_app (cnt2 a k n) (cnt3 _ _ _ _) fun h1 h2 => ?_
    have h3 := (mem2 h1).2
    have h4 := (mem3 h2).1.2
    omega
theorem cnt1 (a : At) : ∀ n, (al1 n).count a ≤ 1
  | 0 => by simp [al1]
  | n + 1 => by
    unfold al1
    refine cnt_app (cnt1 a n) (cnt2 _ _ _) fun h1 h2 => ?_
    have h3 := mem1 h1
    have h4 := (mem2 h2).1
    omega
end Go.Proofs.YtbcdimklblpdnaaDoor
