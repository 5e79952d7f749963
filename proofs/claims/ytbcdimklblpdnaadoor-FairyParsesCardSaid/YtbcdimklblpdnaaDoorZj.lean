/- Layer 27: reading the text of a fairy piece, plain: what the reference reads and what the program reads. -/
import Derived.Test.YtbcdimklblpdnaaDoorZf
import Derived.Test.YtbcdimklblpdnaaDoorZg
namespace Go.Proofs.YtbcdimklblpdnaaDoor
open Go Go.RowKit
set_option linter.unusedSimpArgs false
set_option linter.unusedVariables false
/-- parts with a byte between them -/
def tlS (c : UInt8) (r : List (List UInt8)) : List UInt8 := (r.map (c :: ·)).flatten
def jnS (c : UInt8) : List (List UInt8) → List UInt8
  | [] => []
  | x :: r => x ++ tlS c r
/-- L are the parts of s -/
def IsSpl (c : UInt8) (s : List UInt8) (L : List (List UInt8)) : Prop := L ≠ [] ∧ (∀ x ∈ L, c ∉ x) ∧ jnS c L = s
theorem tlS_cons (c : UInt8) (y : List UInt8) (r : List (List UInt8)) : tlS c (y :: r) = c :: (y ++ tlS c r) := by
  unfold tlS
  rw [List.map_cons, List.flatten_cons]
  rfl
theorem tlS_form (c : UInt8) (r : List (List UInt8)) : tlS c r = [] ∨ ∃ u, tlS c r = c :: u := by
  cases r with
  | nil => exact .inl rfl
  | cons y r => exact .inr ⟨_, tlS_cons c y r⟩
theorem tlS_app (c : UInt8) (r : List (List UInt8)) (y : List UInt8) : tlS c (r ++ [y]) = tlS c r ++ c :: y := by
  unfold tlS
  rw [List.map_append, List.flatten_append]
  simp
theorem jnS_app (c : UInt8) (L : List (List UInt8)) (h : L ≠ []) (y : List UInt8) : jnS c (L ++ [y]) = jnS c L ++ c :: y := by
  cases L with
  | nil => exact absurd rfl h
  | cons x r =>
    show x ++ tlS c (r ++ [y]) = x ++ tlS c r ++ c :: y
    rw [tlS_app, List.append_assoc]
theorem pre_uniq {c : UInt8} : ∀ (x x' T T' : List UInt8), c ∉ x → c ∉ x' → (T = [] ∨ ∃ u, T = c :: u) → (T' = [] ∨ ∃ u, T' = c :: u) → x ++ T = x' ++ T' → x = x' ∧ T = T'
  | [], [], T, T', _, _, _, _, h => ⟨rfl, h⟩
  | [], b :: y, T, T', _, h2, h3, _, h => by
    rcases h3 with e | ⟨u, e⟩
    · rw [e] at h; cases h
    · rw [e] at h
      injection h with h5 h6
      exact absurd (h5 ▸ List.mem_cons_self) h2
  | a :: x, [], T, T', h1, _, _, h4, h => by
    rcases h4 with e | ⟨u, e⟩
    · rw [e] at h; cases h
    · rw [e] at h
      injection h with h5 h6
      exact absurd (h5 ▸ List.mem_cons_self) h1
  | a :: x, b :: y, T, T', h1, h2, h3, h4, h => by
    injection h with h5 h6
    obtain ⟨h7, h8⟩ := pre_uniq x y T T' (fun hh => h1 (List.mem_cons_of_mem _ hh)) (fun hh => h2 (List.mem_cons_of_mem _ hh)) h3 h4 h6
    exact ⟨by rw [h5, h7], h8⟩
theorem jn_uniq {c : UInt8} : ∀ (r : List (List UInt8)) (x : List UInt8) (x' : List UInt8) (r' : List (List UInt8)), (∀ y ∈ x :: r, c ∉ y) → (∀ y ∈ x' :: r', c ∉ y) → x ++ tlS c r = x' ++ tlS c r' → x = x' ∧ r = r'
  | [], x, x', r', h1, h2, h => by
    obtain ⟨h3, h4⟩ := pre_uniq x x' _ _ (h1 _ List.mem_cons_self) (h2 _ List.mem_cons_self) (tlS_form c _) (tlS_form c _) h
    refine ⟨h3, ?_⟩
    cases r' with
    | nil => rfl
    | cons y r' => rw [tlS_cons] at h4; exact absurd h4 (by simp [tlS])
  | z :: r, x, x', r', h1, h2, h => by
    obtain ⟨h3, h4⟩ := pre_uniq x x' _ _ (h1 _ List.mem_cons_self) (h2 _ List.mem_cons_self) (tlS_form c _) (tlS_form c _) h
    refine ⟨h3, ?_⟩
    cases r' with
    | nil => rw [tlS_cons] at h4; exact absurd h4 (by simp [tlS])
    | cons y r' =>
      rw [tlS_cons, tlS_cons] at h4
      injection h4 with _ h5
      obtain ⟨h6, h7⟩ := jn_uniq r z y r' (fun u hu => h1 u (List.mem_cons_of_mem _ hu)) (fun u hu => h2 u (List.mem_cons_of_mem _ hu)) h5
      rw [h6, h7]
theorem spl_uniq {c : UInt8} {s : List UInt8} {L L' : List (List UInt8)} (h : IsSpl c s L) (h' : IsSpl c s L') : L = L' := by
  obtain ⟨h1, h2, h3⟩ := h
  obtain ⟨g1, g2, g3⟩ := h'
  cases L with
  | nil => exact absurd rfl h1
  | cons x r =>
    cases L' with
    | nil => exact absurd rfl g1
    | cons x' r' =>
      obtain ⟨e1, e2⟩ := jn_uniq r x x' r' h2 g2 (h3.trans g3.symm)
      rw [e1, e2]
theorem splitK_spl (c : UInt8) : ∀ (k : Nat) (s : List UInt8), s.count c = k → IsSpl c s (Lib.splitK [c] 0 k s)
  | 0, s, h => by
    refine ⟨by simp [Lib.splitK], fun x hx => ?_, ?_⟩
    · rw [show x = s by simpa [Lib.splitK] using hx]
      exact List.count_eq_zero.1 h
    · show s ++ tlS c [] = s
      simp [tlS]
  | k + 1, s, h => by
    rcases ib_spec c s with ⟨h1, h2⟩ | ⟨p, t, h1, h2, h3⟩
    · rw [List.count_eq_zero.2 h2] at h; omega
    · have hct : t.count c = k := by
        rw [h1, List.count_append, List.count_eq_zero.2 h2, List.count_cons_self] at h
        omega
      obtain ⟨i1, i2, i3⟩ := splitK_spl c k t hct
      have e : Lib.splitK [c] 0 (k + 1) s = p :: Lib.splitK [c] 0 k t := by
        rw [Lib.splitK, Lib.index_one, h3, if_neg (by rw [beq_iff_eq]; omega), Int.toNat_natCast]
        rw [h1]
        simp
      rw [e]
      refine ⟨by simp, fun x hx => ?_, ?_⟩
      · rcases List.mem_cons.1 hx with rfl | hx
        · exact h2
        · exact i2 x hx
      · rw [h1]
        generalize Lib.splitK [c] 0 k t = R at *
        cases R with
        | nil => exact absurd rfl i1
        | cons y r =>
          show p ++ tlS c (y :: r) = _
          rw [tlS_cons, ← i3]
          rfl
theorem split_spl (c : UInt8) (s : List UInt8) : IsSpl c s (Lib.split s [c]) := by
  have e : Lib.split s [c] = Lib.splitK [c] 0 (s.count c) s := by
    unfold Lib.split Lib.count
    rw [countF_one c _ s (by omega)]
  rw [e]
  exact splitK_spl c _ s rfl
theorem take1 {s : List UInt8} {k : Nat} (h : k < s.length) : s.take (k + 1) = s.take k ++ [s.getD k 0] := by
  rw [List.take_add_one, List.getD_eq_getElem?_getD, List.getElem?_eq_getElem h]
  rfl
theorem splK_spl (c : UInt8) (s : List UInt8) : ∀ k, k ≤ s.length → IsSpl c (s.take k) ((splK c s k).1 ++ [(splK c s k).2])
  | 0, _ => ⟨by simp, fun x hx => by
      rw [show x = [] by simpa [splK] using hx]
      simp, by show ([] : List UInt8) ++ tlS c [] = _; simp [tlS]⟩
  | k + 1, hk => by
    obtain ⟨i1, i2, i3⟩ := splK_spl c s k (by omega)
    have ht := take1 (s := s) (k := k) (by omega)
    unfold splK
    by_cases h : s.getD k 0 = c
    · rw [if_pos h]
      refine ⟨by simp, fun x hx => ?_, ?_⟩
      · rcases List.mem_append.1 hx with hx | hx
        · exact i2 x hx
        · rw [List.mem_singleton.1 hx]; simp
      · show jnS c ((splK c s k).1 ++ [(splK c s k).2] ++ [[]]) = _
        rw [jnS_app _ _ i1, i3, ht, h]
    · rw [if_neg h]
      refine ⟨by simp, fun x hx => ?_, ?_⟩
      · rcases List.mem_append.1 hx with hx | hx
        · exact i2 x (List.mem_append.2 (.inl hx))
        · rw [List.mem_singleton.1 hx]
          intro hh
          rcases List.mem_append.1 hh with hh | hh
          · exact i2 _ (List.mem_append.2 (.inr List.mem_cons_self)) hh
          · exact h (List.mem_singleton.1 hh).symm
      · show jnS c ((splK c s k).1 ++ [(splK c s k).2 ++ [s.getD k 0]]) = _
        rw [ht, ← i3]
        cases h1 : (splK c s k).1 with
        | nil => simp [jnS, tlS]
        | cons a r =>
          rw [jnS_app _ _ (by simp), jnS_app _ _ (by simp)]
          simp
theorem splL_spl (c : UInt8) (s : List UInt8) : IsSpl c s (splL c s) := by
  have h := splK_spl c s s.length (Nat.le_refl _)
  rw [List.take_length] at h
  exact h
/-- bytes of atoms -/
theorem atB_bytes {a : At} (h : okA a) : ∀ b ∈ atB a, b ≠ 32 ∧ b ≠ 43 := by
  obtain ⟨hk, hm, hy, hs, hl, hx⟩ := h
  have hx7 : a.most ≤ 7 := by have := hx.2; unfold mostA at this; split at this <;> omega
  have hd : ∀ n : Int, 0 ≤ n → n ≤ 7 → digB n ≠ 32 ∧ digB n ≠ 43 := fun n h0 h7 => by
    rcases (by omega : n = 0 ∨ n = 1 ∨ n = 2 ∨ n = 3 ∨ n = 4 ∨ n = 5 ∨ n = 6 ∨ n = 7) with rfl | rfl | rfl | rfl | rfl | rfl | rfl | rfl <;> decide
  have h1 : ∀ b ∈ modB a.mode, b ≠ 32 ∧ b ≠ 43 := by
    rcases (by omega : a.mode = 0 ∨ a.mode = 1 ∨ a.mode = 2) with e | e | e <;> rw [e] <;> decide
  have h2 : ∀ b ∈ wayB a.way, b ≠ 32 ∧ b ≠ 43 := by
    rcases (by omega : a.way = 0 ∨ a.way = 1 ∨ a.way = 2) with e | e | e <;> rw [e] <;> decide
  have h3 : letB a.kind ≠ 32 ∧ letB a.kind ≠ 43 := by
    rcases (by omega : a.kind = 1 ∨ a.kind = 2 ∨ a.kind = 3 ∨ a.kind = 4 ∨ a.kind = 5) with e | e | e | e | e <;> rw [e] <;> decide
  have h4 := hd a.short (by omega) (by omega)
  have h5 := hd a.long (by omega) hl.2
  have h6 := hd a.most hx.1 hx7
  intro b hb
  unfold atB at hb
  rcases List.mem_append.1 hb with hb | hb
  rotate_left
  · split at hb
    · simp only [List.mem_append, List.mem_cons, List.not_mem_nil, or_false] at hb
      rcases hb with rfl | rfl
      · decide
      · exact h6
    · exact absurd hb (by simp)
  simp only [List.mem_append, List.mem_cons, List.not_mem_nil, or_false] at hb
  rcases hb with (((hb | hb) | rfl) | rfl) | rfl
  · exact h1 b hb
  · exact h2 b hb
  · exact h3
  · exact h4
  · exact h5
theorem plusK_jn (a : At) (r : List At) : ∀ k, k ≤ r.length → plusK (a :: r) (k + 1) = jnS 43 ((a :: r.take k).map atB)
  | 0, _ => by
    show [] ++ (if 0 < 0 then [43] else []) ++ atB ((a :: r).getD 0 default) = atB a ++ tlS 43 []
    simp [tlS]
  | k + 1, hk => by
    have hx : r[k]? = some (r.getD k default) := by rw [List.getD_eq_getElem?_getD, List.getElem?_eq_getElem (by omega)]; rfl
    have e : (a :: r.take (k + 1)).map atB = (a :: r.take k).map atB ++ [atB (r.getD k default)] := by
      rw [take_step hx]; simp
    show plusK (a :: r) (k + 1) ++ (if 0 < k + 1 then [43] else []) ++ atB ((a :: r).getD (k + 1) default) = _
    rw [plusK_jn a r k (by omega), e, jnS_app _ _ (by simp), if_pos (by omega), show (a :: r).getD (k + 1) default = r.getD k default from rfl, List.append_assoc]
    rfl
theorem plus_jn {l : List At} (h : 1 ≤ l.length) : plusK l l.length = jnS 43 (l.map atB) := by
  cases l with
  | nil => exact absurd h (by simp)
  | cons a r =>
    have := plusK_jn a r r.length (Nat.le_refl _)
    rw [List.take_length] at this
    exact this
theorem jn_join (c : UInt8) (L : List (List UInt8)) : Lib.join L [c] = jnS c L := by
  cases L with
  | nil => rfl
  | cons x r => rw [Lib.join_cons]; rfl
theorem plus_spl {l : List At} (h : 1 ≤ l.length) (hok : ∀ a ∈ l, okA a) : IsSpl 43 (plusK l l.length) (l.map atB) := by
  refine ⟨fun e => ?_, fun x hx => ?_, (plus_jn h).symm⟩
  · rw [List.map_eq_nil_iff] at e
    rw [e] at h
    exact absurd h (by simp)
  · obtain ⟨a, ha, rfl⟩ := List.mem_map.1 hx
    exact fun hh => (atB_bytes (hok a ha) 43 hh).2 rfl
theorem jn_mem {c b : UInt8} (hb : b ≠ c) : ∀ {L : List (List UInt8)}, b ∈ jnS c L → ∃ x ∈ L, b ∈ x
  | [], h => absurd h (by simp [jnS])
  | x :: r, h => by
    rcases List.mem_append.1 h with h | h
    · exact ⟨x, List.mem_cons_self, h⟩
    · unfold tlS at h
      obtain ⟨y, hy, h2⟩ := List.mem_flatten.1 h
      obtain ⟨z, hz, rfl⟩ := List.mem_map.1 hy
      rcases List.mem_cons.1 h2 with h3 | h3
      · exact absurd h3 hb
      · exact ⟨z, List.mem_cons_of_mem _ hz, h3⟩
theorem nm_bytes {nm : List UInt8} (h : PC.givV (bsB nm) = true) : (32 : UInt8) ∉ nm := by
  unfold PC.givV at h
  have h1 := of_decide_eq_true (Bool.and_eq_true_iff.1 h).1
  intro hm
  obtain ⟨k, hk, e⟩ := List.getElem_of_mem hm
  have h2 := h1 k (by rw [bs_size]; exact hk)
  have h3 : (bsB nm)[k]'(by rw [bs_size]; exact hk) = 32 := e
  rw [h3] at h2
  have e32 : (((32 : UInt8).toNat : Nat) : Int) = 32 := rfl
  rw [e32] at h2
  unfold PC.okP at h2
  omega
theorem okFy_ok {s : ByteArray} {l : List At} (h : okFy s l) : ∀ a ∈ l, okA a := fun a ha => by
  obtain ⟨k, hk⟩ := List.getElem?_of_mem ha
  exact fy_at h hk
theorem tx_spl {nm : List UInt8} {l : List At} (h : okFy (bsB nm) l) : IsSpl 32 (txL nm l) [nm, plusK l l.length] := by
  refine ⟨by simp, fun x hx => ?_, ?_⟩
  · rcases List.mem_cons.1 hx with rfl | hx
    · exact nm_bytes h.2
    · rw [List.mem_singleton.1 hx, plus_jn h.1.2.1]
      intro hh
      obtain ⟨y, hy, hb⟩ := jn_mem (by decide) hh
      obtain ⟨a, ha, rfl⟩ := List.mem_map.1 hy
      exact (atB_bytes (okFy_ok h a ha) 32 hb).1 rfl
  · show nm ++ tlS 32 [plusK l l.length] = nm ++ [32] ++ plusK l l.length
    simp [tlS]
/-! All holds every valid atom -/
theorem in6 {k m y L s : Int} {j : Nat} : ∀ {n : Nat}, j < n → okA ⟨k, s, L, (j : Int), m, y⟩ → (⟨k, s, L, (j : Int), m, y⟩ : At) ∈ al6 k m y L s n
  | 0, h, _ => absurd h (by omega)
  | n + 1, h, hok => by
    unfold al6
    refine List.mem_append.2 ?_
    by_cases e : j = n
    · subst e
      right
      rw [if_pos (aB_yes hok)]
      exact List.mem_singleton.2 rfl
    · exact .inl (in6 (by omega) hok)
theorem in5 {k m y L : Int} {a : At} {j : Nat} (ha : a ∈ al6 k m y L (j : Int) 8) : ∀ {n : Nat}, j < n → a ∈ al5 k m y L n
  | 0, h => absurd h (by omega)
  | n + 1, h => by
    unfold al5
    refine List.mem_append.2 ?_
    by_cases e : j = n
    · subst e; exact .inr ha
    · exact .inl (in5 ha (by omega))
theorem in4 {k m y : Int} {a : At} {j : Nat} (ha : a ∈ al5 k m y ((j : Int) + 1) (j + 2)) : ∀ {n : Nat}, j < n → a ∈ al4 k m y n
  | 0, h => absurd h (by omega)
  | n + 1, h => by
    unfold al4
    refine List.mem_append.2 ?_
    by_cases e : j = n
    · subst e; exact .inr ha
    · exact .inl (in4 ha (by omega))
theorem in3 {k m : Int} {a : At} {j : Nat} (ha : a ∈ al4 k m (j : Int) 7) : ∀ {n : Nat}, j < n → a ∈ al3 k m n
  | 0, h => absurd h (by omega)
  | n + 1, h => by
    unfold al3
    refine List.mem_append.2 ?_
    by_cases e : j = n
    · subst e; exact .inr ha
    · exact .inl (in3 ha (by omega))
theorem in2 {k : Int} {a : At} {j : Nat} (ha : a ∈ al3 k (j : Int) 3) : ∀ {n : Nat}, j < n → a ∈ al2 k n
  | 0, h => absurd h (by omega)
  | n + 1, h => by
    unfold al2
    refine List.mem_append.2 ?_
    by_cases e : j = n
    · subst e; exact .inr ha
    · exact .inl (in2 ha (by omega))
theorem in1 {a : At} {j : Nat} (ha : a ∈ al2 ((j : Int) + 1) 3) : ∀ {n : Nat}, j < n → a ∈ al1 n
  | 0, h => absurd h (by omega)
  | n + 1, h => by
    unfold al1
    refine List.mem_append.2 ?_
    by_cases e : j = n
    · subst e; exact .inr ha
    · exact .inl (in1 ha (by omega))
theorem all_in {a : At} (h : okA a) : a ∈ allL := by
  have hok := h
  obtain ⟨hk, hm, hy, hs, hl, hx⟩ := h
  have hl1 : 1 ≤ a.long := by have := hl.1; unfold leastA at this; split at this <;> omega
  have hx7 : a.most ≤ 7 := by have := hx.2; unfold mostA at this; split at this <;> omega
  obtain ⟨kind, short, long, most, mode, way⟩ := a
  dsimp only at *
  obtain ⟨j1, e1⟩ := Int.eq_ofNat_of_zero_le (show 0 ≤ kind - 1 by omega)
  obtain ⟨j2, rfl⟩ := Int.eq_ofNat_of_zero_le hm.1
  obtain ⟨j3, rfl⟩ := Int.eq_ofNat_of_zero_le hy.1
  obtain ⟨j4, e4⟩ := Int.eq_ofNat_of_zero_le (show 0 ≤ long - 1 by omega)
  obtain ⟨j5, rfl⟩ := Int.eq_ofNat_of_zero_le hs.1
  obtain ⟨j6, rfl⟩ := Int.eq_ofNat_of_zero_le hx.1
  obtain rfl : kind = (j1 : Int) + 1 := by omega
  obtain rfl : long = (j4 : Int) + 1 := by omega
  exact in1 (in2 (in3 (in4 (in5 (in6 (n := 8) (by omega) hok) (n := j4 + 2) (by omega)) (n := 7) (by omega)) (n := 3) (by omega)) (n := 3) (by omega)) (n := 5) (by omega)
theorem pickL_at {a : At} (h : okA a) : pickL (atB a) = [a] := by
  have hm : a ∈ pickL (atB a) := List.mem_filter.2 ⟨all_in h, decide_eq_true rfl⟩
  have hl := pickL_le (x := atB a)
  generalize pickL (atB a) = R at *
  match R, hm, hl with
  | [b], hm, _ => rw [List.mem_singleton.1 hm]
theorem pickL_ex {x : List UInt8} (h : pickL x ≠ []) : ∃ a, pickL x = [a] ∧ okA a ∧ atB a = x := by
  have hl := pickL_le (x := x)
  have hm : ∀ a ∈ pickL x, okA a ∧ atB a = x := fun a ha => by
    obtain ⟨h1, h2⟩ := List.mem_filter.1 ha
    exact ⟨allL_ok a h1, of_decide_eq_true h2⟩
  generalize pickL x = R at *
  match R, h, hl with
  | [b], _, _ => exact ⟨b, rfl, hm b List.mem_cons_self⟩
theorem resK_map {l : List At} (hok : ∀ a ∈ l, okA a) : ∀ k, k ≤ l.length → resK (l.map atB) k = some (l.take k)
  | 0, _ => rfl
  | k + 1, hk => by
    have hx : l[k]? = some (l.getD k default) := by rw [List.getD_eq_getElem?_getD, List.getElem?_eq_getElem (by omega)]; rfl
    have hg : (l.map atB).getD k [] = atB (l.getD k default) := by
      rw [List.getD_eq_getElem?_getD, List.getElem?_map, hx]; rfl
    unfold resK
    rw [resK_map hok k (by omega)]
    dsimp only
    rw [hg, pickL_at (hok _ (List.mem_of_getElem? hx)), if_neg (by simp), take_step hx]
theorem resK_inv {L : List (List UInt8)} : ∀ (k : Nat) (ats : List At), k ≤ L.length → resK L k = some ats → ats.map atB = L.take k ∧ ats.length = k
  | 0, ats, _, h => by
    obtain rfl : [] = ats := Option.some.inj h
    exact ⟨rfl, rfl⟩
  | k + 1, ats, hk, h => by
    unfold resK at h
    split at h
    · cases h
    · rename_i a0 h0
      obtain ⟨i1, i2⟩ := resK_inv k a0 (by omega) h0
      split at h
      · cases h
      · rename_i hne
        obtain rfl := Option.some.inj h
        obtain ⟨a, e1, e2, e3⟩ := pickL_ex hne
        have hx : L[k]? = some (L.getD k []) := by rw [List.getD_eq_getElem?_getD, List.getElem?_eq_getElem (by omega)]; rfl
        rw [e1]
        refine ⟨?_, by rw [List.length_append, i2]; rfl⟩
        rw [List.map_append, i1, take_step hx, ← e3]
        rfl
/-- what the reference reads is what it writes -/
theorem parR_iff (s nm : List UInt8) (l : List At) : parR s = some (nm, l) ↔ okFy (bsB nm) l ∧ txL nm l = s := by
  constructor
  · intro h
    unfold parR at h
    split at h
    · cases h
    rename_i h2
    have h2 : (splL 32 s).length = 2 := by omega
    obtain ⟨x, y, hxy⟩ : ∃ x y, splL 32 s = [x, y] := by
      match hL : splL 32 s, h2 with
      | [x, y], _ => exact ⟨x, y, rfl⟩
    have hsp := splL_spl 32 s
    rw [hxy] at h hsp
    split at h
    · cases h
    rename_i ats hr
    unfold fyO at h
    split at h
    rotate_left
    · cases h
    rename_i hok
    obtain ⟨e1, e2⟩ := Prod.mk.inj (Option.some.inj h)
    subst e1 e2
    have hr2 : resK (splL 43 y) (min (splL 43 y).length 9) = some ats := hr
    obtain ⟨i1, i2⟩ := resK_inv _ ats (Nat.min_le_left _ _) hr2
    have h8 := hok.1.2.2
    have hmin : min (splL 43 y).length 9 = (splL 43 y).length := by omega
    rw [hmin, List.take_length] at i1
    refine ⟨hok, ?_⟩
    have hs3 := hsp.2.2
    have hp := (splL_spl 43 y).2.2
    rw [← hs3]
    show x ++ [32] ++ plusK ats ats.length = x ++ tlS 32 [y]
    rw [plus_jn hok.1.2.1, i1, hp]
    simp [tlS]
  · rintro ⟨hok, rfl⟩
    have e1 : splL 32 (txL nm l) = [nm, plusK l l.length] := spl_uniq (splL_spl 32 _) (tx_spl hok)
    have e2 : splL 43 (plusK l l.length) = l.map atB := spl_uniq (splL_spl 43 _) (plus_spl hok.1.2.1 (okFy_ok hok))
    unfold parR
    rw [e1]
    show (if (2 : Nat) ≠ 2 then none else match resK (splL 43 (plusK l l.length)) (min (splL 43 (plusK l l.length)).length 9) with
      | none => none
      | some l => fyO nm l) = _
    rw [if_neg (by simp), e2, List.length_map, show min l.length 9 = l.length by have := hok.1.2.2; omega, resK_map (okFy_ok hok) _ (Nat.le_refl _), List.take_length]
    unfold fyO
    dsimp only
    rw [if_pos hok]
/-! the program -/
def nmP (s : List UInt8) : List UInt8 := (Lib.cut s [32]).1
def rsP (s : List UInt8) : List UInt8 := (Lib.cut s [32]).2.1
def ptP (s : List UInt8) : List (List UInt8) := Lib.split (rsP s) [43]
def atsP (s : List UInt8) : List At := (ptP s).map prA
open Classical in
noncomputable def parP (s : List UInt8) : Option (List UInt8 × List At) := if okFy (bsB (nmP s)) (atsP s) ∧ txL (nmP s) (atsP s) = s then some (nmP s, atsP s) else none
theorem cut_tx {nm t : List UInt8} (h : (32 : UInt8) ∉ nm) : Lib.cut (nm ++ [32] ++ t) [32] = (nm, t, true) := by
  have e : Lib.index (nm ++ [32] ++ t) [32] = (nm.length : Int) := by
    rw [Lib.index_one]
    rcases ib_spec 32 (nm ++ [32] ++ t) with ⟨h1, h2⟩ | ⟨p, u, h1, h2, h3⟩
    · exact absurd (by simp) h2
    · have h4 : p ++ 32 :: u = nm ++ 32 :: t := by rw [← h1]; simp
      obtain ⟨h5, _⟩ := pre_uniq p nm _ _ h2 h (.inr ⟨u, rfl⟩) (.inr ⟨t, rfl⟩) h4
      rw [h3, h5]
  unfold Lib.cut
  rw [e, if_pos (by omega), Int.toNat_natCast]
  simp
theorem read_tx {nm : List UInt8} {l : List At} (h : okFy (bsB nm) l) : nmP (txL nm l) = nm ∧ atsP (txL nm l) = l := by
  have hc : Lib.cut (txL nm l) [32] = (nm, plusK l l.length, true) := cut_tx (nm_bytes h.2)
  refine ⟨by unfold nmP; rw [hc], ?_⟩
  unfold atsP ptP rsP
  rw [hc]
  show (Lib.split (plusK l l.length) [43]).map prA = l
  rw [spl_uniq (split_spl 43 _) (plus_spl h.1.2.1 (okFy_ok h)), List.map_map]
  have : l.map (prA ∘ atB) = l.map id := List.map_congr_left fun a ha => prA_at (okFy_ok h a ha)
  rw [this, List.map_id]
theorem parP_iff (s nm : List UInt8) (l : List At) : parP s = some (nm, l) ↔ okFy (bsB nm) l ∧ txL nm l = s := by
  constructor
  · intro h
    unfold parP at h
    split at h
    · rename_i hh
      obtain ⟨e1, e2⟩ := Prod.mk.inj (Option.some.inj h)
      rw [e1, e2] at hh
      exact hh
    · cases h
  · rintro ⟨hok, rfl⟩
    obtain ⟨e1, e2⟩ := read_tx hok
    unfold parP
    rw [e1, e2, if_pos ⟨hok, rfl⟩]
/-- program and reference read the same -/
theorem parP_parR (s : List UInt8) : parP s = parR s := by
  rcases h : parP s with _ | ⟨nm, l⟩
  · rcases h2 : parR s with _ | ⟨nm, l⟩
    · rfl
    · exact absurd ((parP_iff s nm l).2 ((parR_iff s nm l).1 h2)) (by rw [h]; simp)
  · exact ((parR_iff s nm l).2 ((parP_iff s nm l).1 h)).symm
end Go.Proofs.YtbcdimklblpdnaaDoor
