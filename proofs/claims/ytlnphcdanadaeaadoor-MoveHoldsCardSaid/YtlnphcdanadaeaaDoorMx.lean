/- Layer 7: plain laws for lists of moves: sizes, blanks, copies; the program's Line at any list of at most 1000 moves. -/
import Derived.Test.YtlnphcdanadaeaaDoorMv
import Derived.Test.YtlnphcdanadaeaaDoorMk
namespace Go.Proofs.YtlnphcdanadaeaaDoor
open Go.RowKit
set_option linter.unusedSimpArgs false
set_option linter.unusedVariables false

theorem txt_size (f : Int) (m : Mv) : (txt f m).size ≤ 5 := by
  unfold txt mvT
  split
  · show 4 ≤ 5; omega
  · show 5 ≤ 5; omega
theorem join_len : ∀ (xs : List (List UInt8)), (∀ x, x ∈ xs → x.length ≤ 5) → (Lib.join xs [32]).length ≤ 6 * xs.length
  | [], _ => by simp [Lib.join, List.intercalate]
  | [x], h => by
    have := h x (by simp)
    simp [Lib.join, List.intercalate]; omega
  | x :: y :: l, h => by
    have ih := join_len (y :: l) (fun z hz => h z (by simp [hz]))
    have e : Lib.join (x :: y :: l) [32] = x ++ 32 :: Lib.join (y :: l) [32] := by simp [Lib.join, List.intercalate]
    have hx := h x (by simp)
    rw [e, List.length_append, List.length_cons]
    simp only [List.length_cons] at ih ⊢
    omega
theorem line_len (f : Int) (l : List Mv) (hl : l.length ≤ 2000) : (Lib.join ((l.map (txt f)).map (·.data.toList)) sp.data.toList).length ≤ 12000 := by
  have h := join_len ((l.map (txt f)).map (·.data.toList)) (fun x hx => by
    obtain ⟨y, hy, rfl⟩ := List.mem_map.1 hx
    obtain ⟨m, _, rfl⟩ := List.mem_map.1 hy
    have := txt_size f m
    exact this)
  rw [List.length_map, List.length_map] at h
  have e : sp.data.toList = [32] := rfl
  rw [e]; omega
theorem joinB_size (xs : List ByteArray) : (joinB xs).size = (Lib.join (xs.map (·.data.toList)) [32]).length := by
  show (Lib.join (xs.map (·.data.toList)) [32]).toArray.size = _
  simp
theorem line_size (f : Int) (l : List Mv) (hl : l.length ≤ 2000) : (joinB (l.map (txt f))).size ≤ 12000 := by
  rw [joinB_size]; exact line_len f l hl
theorem bx_ne (n : Int) (h : 33 ≤ n) (h2 : n < 200) : bx n ≠ 32 := by
  intro e
  have h3 := congrArg UInt8.toNat e
  unfold bx at h3
  rw [UInt8.toNat_ofNat'] at h3
  have e2 : (32 : UInt8).toNat = 32 := rfl
  rw [e2] at h3
  omega
theorem lb_ne (p : Int) (h : 2 ≤ p ∧ p ≤ 5) : lb p ≠ 32 := by
  rcases (by omega : p = 2 ∨ p = 3 ∨ p = 4 ∨ p = 5) with rfl | rfl | rfl | rfl <;> decide +kernel
theorem nsq_ne {f r a : Int} (h : sqB f r a = true) : ∀ c, c ∈ (nsq f a).data.toList → c ≠ 32 := by
  obtain ⟨hs, h0, h1⟩ := sqB_out h
  obtain ⟨f0, f1, r0, r1⟩ := szB_out hs
  have q0 : 0 ≤ a / f := Int.ediv_nonneg h0 (by omega)
  have q1 : a / f < r := Int.ediv_lt_of_lt_mul (by omega) (by rw [Int.mul_comm]; exact h1)
  have p0 : 0 ≤ a % f := Int.emod_nonneg _ (by omega)
  have p1 : a % f < f := Int.emod_lt_of_pos _ (by omega)
  intro c hc
  unfold nsq nm at hc
  simp only [List.mem_cons, List.not_mem_nil, or_false] at hc
  rcases hc with rfl | rfl
  · exact bx_ne _ (by omega) (by omega)
  · exact bx_ne _ (by omega) (by omega)
theorem txt_ne {f r : Int} {m : Mv} (h : okM f r m = true) : ∀ c, c ∈ (txt f m).data.toList → c ≠ 32 := by
  obtain ⟨ha, hb, _, hp⟩ := mvB_out h
  intro c hc
  unfold txt at hc
  by_cases h0 : m.2.2 = 0
  · rw [h0, mvT_zero] at hc
    rw [ByteArray.data_append, Array.toList_append, List.mem_append] at hc
    rcases hc with hc | hc
    · exact nsq_ne ha c hc
    · exact nsq_ne hb c hc
  · rw [mvT_pos _ _ _ h0, ByteArray.data_append, Array.toList_append, List.mem_append, ByteArray.data_append, Array.toList_append, List.mem_append] at hc
    rcases hc with (hc | hc) | hc
    · exact nsq_ne ha c hc
    · exact nsq_ne hb c hc
    · obtain rfl : c = lb m.2.2 := by simpa using hc
      exact lb_ne _ (by omega)
/-- the words of a line are the texts of its moves -/
theorem words_line {f r : Int} {l : List Mv} (h : l ≠ []) (hall : ∀ m, m ∈ l → okM f r m = true) : wordsB (joinB (l.map (txt f))) = l.map (txt f) := by
  refine words_joinB _ (by simpa using h) fun x hx => ?_
  obtain ⟨m, hm, rfl⟩ := List.mem_map.1 hx
  exact txt_ne (hall m hm)
theorem okS_txt {f r : Int} {m : Mv} (h : okM f r m = true) : okS f r (txt f m) = true ∧ mvOf f r (txt f m) = m := by
  have h1 : mvS f r (txt f m) = (true, m.1, m.2.1, m.2.2) := mvS_mvT h
  unfold okS mvOf
  rw [h1]
  exact ⟨rfl, rfl⟩
theorem map_back {f r : Int} {l : List Mv} (hall : ∀ m, m ∈ l → okM f r m = true) : (l.map (txt f)).map (mvOf f r) = l := by
  rw [List.map_map]
  conv => rhs; rw [← List.map_id l]
  exact List.map_congr_left fun m hm => (okS_txt (hall m hm)).2
theorem join_ne {xs : List ByteArray} (h : xs ≠ []) (h0 : ∀ x, x ∈ xs → 0 < x.size) : joinB xs ≠ ⟨#[]⟩ := by
  intro e
  have h1 := congrArg ByteArray.size e
  rw [joinB_size] at h1
  match xs, h, h0 with
  | x :: l, _, h0 =>
    have h2 := h0 x (by simp)
    have h3 : x.data.toList.length = x.size := rfl
    match l with
    | [] =>
      have e3 : (⟨#[]⟩ : ByteArray).size = 0 := rfl
      have e4 : (Lib.join ([x].map (·.data.toList)) [32]) = x.data.toList := by simp [Lib.join, List.intercalate]
      rw [e4] at h1
      omega
    | y :: l =>
      have e2 : Lib.join ((x :: y :: l).map (·.data.toList)) [32] = x.data.toList ++ 32 :: Lib.join ((y :: l).map (·.data.toList)) [32] := by simp [Lib.join, List.intercalate]
      rw [e2, List.length_append, List.length_cons] at h1
      have e3 : (⟨#[]⟩ : ByteArray).size = 0 := rfl
      omega
theorem txt_pos (f : Int) (m : Mv) : 0 < (txt f m).size := by
  unfold txt mvT
  split
  · show 0 < 4; omega
  · show 0 < 5; omega
theorem line_ne {f : Int} {l : List Mv} (h : l ≠ []) : joinB (l.map (txt f)) ≠ ⟨#[]⟩ :=
  join_ne (by simpa using h) fun x hx => by
    obtain ⟨m, _, rfl⟩ := List.mem_map.1 hx
    exact txt_pos f m
/-- copies of one move -/
def cps (n : Nat) : List Mv := List.replicate n (0, 1, 0)
theorem cps_len (n : Nat) : (cps n).length = n := List.length_replicate
theorem cps_succ (n : Nat) : cps n ++ [(0, 1, 0)] = cps (n + 1) := by unfold cps; rw [List.replicate_succ']
theorem cps_ok (n : Nat) : ∀ m, m ∈ cps n → okM 3 3 m = true := by
  intro m hm
  obtain rfl := List.eq_of_mem_replicate hm
  decide +kernel
theorem join_rep (x : List UInt8) : ∀ n : Nat, (Lib.join (List.replicate (n + 1) x) [32]).length = (x.length + 1) * n + x.length
  | 0 => by simp [Lib.join, List.intercalate]
  | n + 1 => by
    have ih := join_rep x n
    have e : Lib.join (List.replicate (n + 1 + 1) x) [32] = x ++ 32 :: Lib.join (List.replicate (n + 1) x) [32] := by
      rw [List.replicate_succ, List.replicate_succ]; simp [Lib.join, List.intercalate]
    rw [e, List.length_append, List.length_cons, ih, Nat.mul_succ]
    omega
theorem cps_size (n : Nat) (h : 0 < n) : (joinB ((cps n).map (txt 3))).size = 5 * n - 1 := by
  rw [joinB_size]
  unfold cps
  rw [List.map_replicate, List.map_replicate]
  obtain ⟨k, rfl⟩ : ∃ k, n = k + 1 := ⟨n - 1, by omega⟩
  have e : (txt 3 (0, 1, 0)).data.toList.length = 4 := rfl
  rw [join_rep, e]
  omega
/-- what Line says -/
def lineS (f r : Int) (l : List Mv) : ByteArray := if lineOk f r l then joinB (l.map (txt f)) else ⟨#[]⟩
def lineE (f r : Int) (l : List Mv) : Int := if lineOk f r l then 0 else 2
theorem lineV_se (f r : Int) (l : List Mv) : lineV f r l = .tuple #[.string (lineS f r l), .int .i64 (lineE f r l)] := by
  unfold lineV lineS lineE
  cases lineOk f r l <;> rfl
theorem lineOk_sz {f r : Int} {l : List Mv} (h : szB f r = false) : lineOk f r l = false := by unfold lineOk; rw [h]; rfl
theorem lineOk_all {f r : Int} {l : List Mv} (h : lineOk f r l = true) : szB f r = true ∧ ∀ m, m ∈ l → okM f r m = true := by
  unfold lineOk at h
  simp only [Bool.and_eq_true, List.all_eq_true] at h
  exact ⟨h.1, h.2.2⟩
theorem lineOk_mk {f r : Int} {l : List Mv} (h : szB f r = true) (hl : l.length ≤ 1000) (hall : ∀ m, m ∈ l → okM f r m = true) : lineOk f r l = true := by
  unfold lineOk
  simp only [Bool.and_eq_true, List.all_eq_true, decide_eq_true_eq]
  exact ⟨h, hl, hall⟩
theorem pline_tot (f r : Int) (A : Option Addr) (c : Nat) (l : List Mv) (w : World) (hA : RecAt mEnc 3 w w.heap.size A l) (hE : EnvAt w) (h2 : l.length ≤ 1000) :
    Calls Tryd.prog 16 #[.agg #[.int .i64 f, .int .i64 r], .slice A l.length c] w fun e w' => e = .returned (.tuple #[.string (lineS f r l), .int .i64 (lineE f r l)]) ∧ Below w.heap.size w w' := by
  rw [← lineV_se]
  cases h : szB f r
  · rw [lineV_no (lineOk_sz h)]
    exact pline_sz f r A c l w (by unfold maxLen; omega) h
  · exact pline_in f r A c l w hA hE.kinds (by have := hE.pos; omega) h h2 (by have := line_len f l (by omega); omega)
/-- ParseLine at the text of a list of valid moves that is not empty -/
theorem ppl_line (f r : Int) (l : List Mv) (w : World) (hE : EnvAt w) (h : szB f r = true) (h0 : l ≠ []) (hl : l.length ≤ 1000) (hall : ∀ m, m ∈ l → okM f r m = true) :
    Calls Tryd.prog 18 #[.agg #[.int .i64 f, .int .i64 r], .string (joinB (l.map (txt f)))] w fun e w' => (∃ A c, e = .returned (.tuple #[.slice A l.length c, .int .i64 0, .int .i64 0]) ∧ RecAt mEnc 3 w' w'.heap.size A l) ∧ Below w.heap.size w w' := by
  have hz := line_size f l (by omega)
  have hw := words_line h0 hall
  refine (ppl_in f r _ (l.map (txt f)) w h (line_ne h0) (fun W hb => ?_) (by rw [List.length_map]; exact hl) (fun t ht => ?_) hE.kinds (by have := hE.pos; omega)).mono ?_
  · have := hE.split (joinB (l.map (txt f))) (by omega) W hb
    rwa [hw] at this
  · obtain ⟨m, _, rfl⟩ := List.mem_map.1 ht
    have := txt_size f m
    unfold maxLen; omega
  · rintro e w' ⟨hp, hb⟩
    refine ⟨?_, hb⟩
    rcases hp with ⟨i, t, hi, _, hno, _⟩ | ⟨_, A, c, rfl, hr⟩
    · obtain ⟨m, hm, rfl⟩ := List.mem_map.1 (List.mem_of_getElem? hi)
      exact absurd ((okS_txt (hall m hm)).1.symm.trans hno) (by decide)
    · rw [map_back hall] at hr ⊢
      exact ⟨A, c, rfl, hr⟩
theorem ppl_line_far (f r : Int) (l : List Mv) (w : World) (hE : EnvAt w) (h : szB f r = true) (hl : 1000 < l.length) (hl2 : l.length ≤ 2000) (hall : ∀ m, m ∈ l → okM f r m = true) :
    Calls Tryd.prog 18 #[.agg #[.int .i64 f, .int .i64 r], .string (joinB (l.map (txt f)))] w fun e w' => e = .returned (.tuple #[.slice none 0 0, .int .i64 0, .int .i64 2]) ∧ Below w.heap.size w w' := by
  have hz := line_size f l hl2
  have h0 : l ≠ [] := by intro e; rw [e] at hl; simp at hl
  have hw := words_line h0 hall
  refine ppl_far f r _ (l.map (txt f)) w h (line_ne h0) (fun W hb => ?_) (by rw [List.length_map]; exact hl) (by rw [List.length_map]; unfold maxLen; omega)
  have := hE.split (joinB (l.map (txt f))) (by omega) W hb
  rwa [hw] at this
end Go.Proofs.YtlnphcdanadaeaaDoor
