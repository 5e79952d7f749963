/- Layer 27: the squares that an atom reaches, plain; Squares of the reference. -/
import Derived.Test.YtbcdimklblpdnaaGreatDoorYj
import Derived.Test.YtbcdimklblpdnaaGreatDoorYe
import Derived.Laws.Bits64b
namespace Go.Proofs.YtbcdimklblpdnaaGreatDoor
open Go Go.RowKit
set_option linter.unusedSimpArgs false
set_option linter.unusedVariables false
/-- a valid board and a square -/
structure Bd (f r a : Nat) (ps : List Int) : Prop where
  f0 : 3 ≤ f
  f1 : f ≤ 8
  r0 : 3 ≤ r
  r1 : r ≤ 8
  len : ps.length = f * r
  a0 : a < f * r
theorem keepS_on {x : At} {b : Bool} {p q : Int} (h : keepS x b p q = true) : min (absI p) (absI q) = x.short ∧ max (absI p) (absI q) = x.long := by
  unfold keepS at h
  rw [Bool.and_eq_true, Bool.and_eq_true, decide_eq_true_eq, decide_eq_true_eq] at h
  exact h.1
theorem refRow_mem {x : At} {b : Bool} {r : Int} {s : St} : ∀ {m : Nat}, s ∈ refRow x b r m → keepS x b s.files s.ranks = true ∧ s.ranks = r ∧ -7 ≤ s.files ∧ s.files ≤ (m : Int) - 8 := by
  intro m
  induction m with
  | zero => intro h; exact absurd h (by simp [refRow])
  | succ m ih =>
    intro h
    cases hk : keepS x b ((m : Int) - 7) r
    · rw [← refRow_no hk] at h
      obtain ⟨h1, h2, h3, h4⟩ := ih h
      exact ⟨h1, h2, h3, by omega⟩
    · rw [← refRow_yes hk, List.mem_append, List.mem_singleton] at h
      rcases h with h | rfl
      · obtain ⟨h1, h2, h3, h4⟩ := ih h
        exact ⟨h1, h2, h3, by omega⟩
      · refine ⟨hk, rfl, ?_, ?_⟩
        · show -7 ≤ (m : Int) - 7; omega
        · show (m : Int) - 7 ≤ ((m + 1 : Nat) : Int) - 8; omega
theorem refUp_mem {x : At} {b : Bool} {s : St} : ∀ {n : Nat}, s ∈ refUp x b n → keepS x b s.files s.ranks = true ∧ (-7 ≤ s.files ∧ s.files ≤ 7) ∧ -7 ≤ s.ranks ∧ s.ranks ≤ (n : Int) - 8 := by
  intro n
  induction n with
  | zero => intro h; exact absurd h (by simp [refUp])
  | succ n ih =>
    intro h
    have h9 : s ∈ refUp x b n ++ refRow x b ((n : Int) - 7) 15 := h
    rw [List.mem_append] at h9
    rcases h9 with h9 | h9
    · obtain ⟨h1, h2, h3, h4⟩ := ih h9
      exact ⟨h1, h2, h3, by omega⟩
    · obtain ⟨h1, h2, h3, h4⟩ := refRow_mem h9
      exact ⟨h1, ⟨h3, by omega⟩, by omega, by omega⟩
theorem Bd.dir {f r a : Nat} {ps : List Int} (h : Bd f r a ps) {x : At} {b : Bool} (hx : okA x) {s : St} (hs : s ∈ stepsL x b) : Dir f r a s.files s.ranks ps := by
  obtain ⟨h1, h2, h3, h4⟩ := refUp_mem hs
  refine ⟨h.f0, h.f1, h.r0, h.r1, h.len, h.a0, h2, ⟨h3, by omega⟩, ?_⟩
  have h5 := (keepS_on h1).2
  have h6 : 1 ≤ x.long := by
    have := hx.2.2.2.2.1.1
    unfold leastA at this
    split at this <;> omega
  unfold absI at h5
  rcases Int.lt_trichotomy s.files 0 with e | e | e
  · left; omega
  · right; omega
  · left; omega
theorem linF_mem {f r a : Nat} {sf sr : Int} {ps : List Int} (h : Dir f r a sf sr ps) {q : Int} : ∀ {n left k : Nat}, q ∈ linF f r a sf sr ps n left k → 0 ≤ q ∧ q < ((f * r : Nat) : Int) := by
  intro n
  induction n with
  | zero => intro left k hq; exact absurd hq (by simp [linF])
  | succ n ih =>
    intro left k hq
    unfold linF at hq
    split at hq
    · exact absurd hq (by simp)
    split at hq
    · rename_i hz
      rw [List.mem_cons] at hq
      rcases hq with rfl | hq
      · exact ⟨hz, h.lt hz⟩
      · split at hq
        · exact ih hq
        · exact absurd hq (by simp)
    · exact absurd hq (by simp)
theorem reachV_mem {x : At} {f r a : Nat} {sf sr : Int} {ps : List Int} (h : Dir f r a sf sr ps) {q : Int} (hq : q ∈ reachV x f r a sf sr ps) : 0 ≤ q ∧ q < ((f * r : Nat) : Int) := by
  unfold reachV at hq
  split at hq
  · exact linF_mem h hq
  split at hq
  · split at hq
    · exact absurd hq (by simp)
    · exact linF_mem h hq
  split at hq
  · split at hq
    · exact absurd hq (by simp)
    · exact linF_mem h hq
  split at hq
  · exact absurd hq (by simp)
  split at hq
  · exact absurd hq (by simp)
  · rename_i hz _
    rw [List.mem_singleton] at hq
    subst hq
    exact ⟨Int.not_lt.1 hz, h.lt (Int.not_lt.1 hz)⟩
/-- a square that is visited, with the mode of the atom -/
abbrev Vi := Int × Int
/-- the set of the chosen ones -/
def orF (P : Vi → Bool) (V : List Vi) : Nat := V.foldl (fun acc p => if P p then acc ||| 2 ^ p.2.toNat else acc) 0
theorem orF_yes {P : Vi → Bool} {V : List Vi} {p : Vi} (h : P p = true) : orF P (V ++ [p]) = orF P V ||| 2 ^ p.2.toNat := by
  unfold orF
  rw [List.foldl_append]
  show (if P p then _ else _) = _
  rw [h]; rfl
theorem orF_no {P : Vi → Bool} {V : List Vi} {p : Vi} (h : P p = false) : orF P (V ++ [p]) = orF P V := by
  unfold orF
  rw [List.foldl_append]
  show (if P p then _ else _) = _
  rw [h]; rfl
def enB (b : Bool) (p : Int) : Bool := if 0 < p then b else if p < 0 then !b else false
def pA (p : Vi) : Bool := decide (p.1 ≠ 1)
def pG (ps : List Int) (p : Vi) : Bool := decide (p.1 ≠ 2 ∧ ps.getD p.2.toNat 0 = 0)
def pT (b : Bool) (ps : List Int) (p : Vi) : Bool := decide (p.1 ≠ 1) && enB b (ps.getD p.2.toNat 0)
theorem or_shift2 {acc : Nat} {k : Nat} (h : acc < 18446744073709551616) (h1 : k < 64) : bits BinOp.or IntKind.u64 (acc : Int) (IntKind.u64.wrap (2 ^ k)) = ((acc ||| 2 ^ k : Nat) : Int) := by
  have e : 2 ^ k < 2 ^ 64 := Nat.pow_lt_pow_right (by decide) h1
  have e2 : IntKind.u64.wrap (2 ^ k) = ((2 ^ k : Nat) : Int) := by
    rw [IntKind.wrap_u64, Int.emod_eq_of_lt]
    · simp
    · exact Int.le_of_lt (Int.pow_pos (by decide))
    · have : ((2 ^ k : Nat) : Int) < ((2 ^ 64 : Nat) : Int) := by exact_mod_cast e
      simpa using this
  rw [e2]
  exact bits_or_u64_nat acc _ h (by omega)
theorem or_lt {acc k : Nat} (h : acc < 18446744073709551616) (h1 : k < 64) : acc ||| 2 ^ k < 18446744073709551616 := Nat.or_lt_two_pow (n := 64) h (Nat.pow_lt_pow_right (by decide) h1)
def visR (f r a : Nat) (ps : List Int) (x : At) (s : St) : List Vi := (reachV x f r a s.files s.ranks ps).map fun q => (x.mode, q)
def visS (f r a : Nat) (ps : List Int) (b : Bool) (x : At) : List Vi := (stepsL x b).flatMap (visR f r a ps x)
def visA (f r a : Nat) (ps : List Int) (b : Bool) (l : List At) : List Vi := l.flatMap (visS f r a ps b)
/-- three sets -/
structure Tr3 (ps : List Int) (b : Bool) (V : List Vi) (p q s : Nat) : Prop where
  p0 : p = orF pA V
  q0 : q = orF (pG ps) V
  s0 : s = orF (pT b ps) V
  p1 : p < 18446744073709551616
  q1 : q < 18446744073709551616
  s1 : s < 18446744073709551616
theorem Tr3.nil (ps : List Int) (b : Bool) : Tr3 ps b [] 0 0 0 := ⟨rfl, rfl, rfl, by decide, by decide, by decide⟩
theorem Tr3.put {ps : List Int} {b : Bool} {V : List Vi} {p q s : Nat} (h : Tr3 ps b V p q s) {m : Int} {z : Nat} (hz : z < 64) {p' q' s' : Nat}
    (hp : p' = if pA (m, (z : Int)) then p ||| 2 ^ z else p) (hq : q' = if pG ps (m, (z : Int)) then q ||| 2 ^ z else q) (hs : s' = if pT b ps (m, (z : Int)) then s ||| 2 ^ z else s) : Tr3 ps b (V ++ [(m, (z : Int))]) p' q' s' := by
  have key : ∀ (P : Vi → Bool) (o o' : Nat), o = orF P V → o < 18446744073709551616 → (o' = if P (m, (z : Int)) then o ||| 2 ^ z else o) → o' = orF P (V ++ [(m, (z : Int))]) ∧ o' < 18446744073709551616 := by
    intro P o o' h1 h2 h3
    cases hP : P (m, (z : Int))
    · rw [hP] at h3
      rw [orF_no hP, h3]
      exact ⟨h1, h2⟩
    · rw [hP] at h3
      rw [orF_yes hP, h3, ← h1]
      exact ⟨rfl, or_lt h2 hz⟩
  obtain ⟨a1, a2⟩ := key _ _ _ h.p0 h.p1 hp
  obtain ⟨b1, b2⟩ := key _ _ _ h.q0 h.q1 hq
  obtain ⟨c1, c2⟩ := key _ _ _ h.s0 h.s1 hs
  exact ⟨a1, b1, c1, a2, b2, c2⟩
theorem recI {w : World} {B : Nat} {A : Option Addr} {l : List Int} (h : RecAt iEnc 1 w B A l) {k : Nat} {x : Int} (hx : l[k]? = some x) : ∃ b off, A = some ⟨b, off, none⟩ ∧ b < B ∧ w.cell? ⟨b, off + k, none⟩ = some (.int .i64 x) := by
  obtain ⟨b, off, e, hb, hc⟩ := h (by have := (List.getElem?_eq_some_iff.1 hx).1; omega)
  refine ⟨b, off, e, hb, ?_⟩
  have := hc k x hx 0 _ rfl
  simpa using this
theorem stepsL_le (x : At) (b : Bool) : (stepsL x b).length ≤ 225 := refUp_le x b 15
theorem linF_len {f r a : Nat} {sf sr : Int} {ps : List Int} : ∀ {n left k : Nat}, (linF f r a sf sr ps n left k).length ≤ n := by
  intro n
  induction n with
  | zero => intro left k; exact Nat.le_refl _
  | succ n ih =>
    intro left k
    unfold linF
    split
    · exact Nat.zero_le _
    split
    · split
      · rw [List.length_cons]; have := @ih (left - 1) (k + 1); omega
      · simp
    · exact Nat.zero_le _
theorem reachV_len (x : At) (f r a : Nat) (sf sr : Int) (ps : List Int) : (reachV x f r a sf sr ps).length ≤ 9 := by
  unfold reachV
  split
  · exact linF_len
  split
  · split
    · exact Nat.zero_le _
    · exact linF_len
  split
  · split
    · exact Nat.zero_le _
    · exact linF_len
  split
  · exact Nat.zero_le _
  split
  · exact Nat.zero_le _
  · simp
set_option maxRecDepth 100000 in
set_option maxHeartbeats 1000000 in
theorem rsquares (f r a : Nat) (ps : List Int) (P : Option Addr) (c : Nat) (nm : ByteArray) (A : Option Addr) (l : List At) (ca : Nat) (b : Bool) (w : World) (h : Bd f r a ps) (hP : RecAt pEnc 1 w w.heap.size P ps) (hR : RecAt aEnc 6 w w.heap.size A l) (hok : ∀ x ∈ l, okA x) (hl : l.length ≤ 1000) :
    Calls Tryz.prog 18 #[.agg #[.int .i64 (f : Int), .int .i64 (r : Int), .slice P ps.length c], .agg #[.string nm, .slice A l.length ca], .int .i64 (a : Int), .bool b] w fun e w' => e = .returned (.tuple #[.int .u64 (orF pA (visA f r a ps b l) : Nat), .int .u64 (orF (pG ps) (visA f r a ps b l) : Nat), .int .u64 (orF (pT b ps) (visA f r a ps b l) : Nat)]) ∧ Below w.heap.size w w' := by
  obtain ⟨u, hu⟩ : ∃ u, (w.alloc (.cells #[.int .i64 (f : Int), .int .i64 (r : Int), .slice P ps.length c] 40)).alloc (.cells #[.string nm, .slice A l.length ca] 43) = u := ⟨_, rfl⟩
  have hbA : Below w.heap.size w (w.alloc (.cells #[.int .i64 (f : Int), .int .i64 (r : Int), .slice P ps.length c] 40)) := (Below.refl _ _).alloc (Nat.le_refl _) _
  have hbB : Below (w.alloc (.cells #[.int .i64 (f : Int), .int .i64 (r : Int), .slice P ps.length c] 40)).heap.size (w.alloc (.cells #[.int .i64 (f : Int), .int .i64 (r : Int), .slice P ps.length c] 40)) ((w.alloc (.cells #[.int .i64 (f : Int), .int .i64 (r : Int), .slice P ps.length c] 40)).alloc (.cells #[.string nm, .slice A l.length ca] 43)) := (Below.refl _ _).alloc (Nat.le_refl _) _
  have e1 : (w.alloc (.cells #[.int .i64 (f : Int), .int .i64 (r : Int), .slice P ps.length c] 40)).heap.size = w.heap.size + 1 := by simp
  have hX0 : KBd u w.heap.size f r P ps.length c := hu ▸ (KBd.new w f r P ps.length c).next hbB
  have hF0 : KF u (w.heap.size + 1) nm A l.length ca := by
    have h1 := KF.new (w.alloc (.cells #[.int .i64 (f : Int), .int .i64 (r : Int), .slice P ps.length c] 40)) nm A l.length ca
    rw [e1] at h1
    exact hu ▸ h1
  have hb0 : Below w.heap.size w u := hu ▸ hbA.trans (hbB.mono hbA.size)
  have hX := Lib.hid hX0
  have hF := Lib.hid hF0
  have hb1 := Lib.hid hb0
  have hPH := Lib.hid (recs_next hP hb1.out)
  have hRH := Lib.hid (recs_next hR hb1.out)
  have hD := Lib.hid h
  have hokH := Lib.hid hok
  have hl64 : ps.length ≤ 64 := by rw [h.len]; exact Nat.mul_le_mul h.f1 h.r1
  clear hbA hbB e1 hX0 hF0 hb0 h hP hR hok
  obtain ⟨TOT, hTOT⟩ : ∃ V, visA f r a ps b l = V := ⟨_, rfl⟩
  rw [hTOT]
  replace hTOT := Lib.hid hTOT
  go_enter Tryz.func18, Tryz.ntmps18
  go_upto_region 1 with fail
  generalize w.heap.size = B0 at hX hF ⊢
  simp only [hu] at *
  clear hu
  go_wp2_with fail
  go_loopw [11, 12, 13, 14] (fun s11 s12 s13 i wr => ∃ (k p q s : Nat) (V : List Vi), k ≤ l.length ∧ i = .int .i64 (k : Int) ∧ s11 = .int .u64 (p : Int) ∧ s12 = .int .u64 (q : Int) ∧ s13 = .int .u64 (s : Int) ∧ Hid (Tr3 ps b V p q s) ∧ Hid (V ++ visA f r a ps b (l.drop k) = TOT) ∧ Hid (Below u.heap.size u wr)) (fun _ _ _ i _ => l.length - (intOf i).toNat)
  case atStart => exact ⟨0, 0, 0, 0, [], by omega, rfl, rfl, rfl, rfl, Tr3.nil _ _, hTOT, Below.refl _ _⟩
  case round =>
    obtain ⟨k, p, q, s, V, hk, rfl, rfl, rfl, rfl, hT, hV, hB⟩ := hrel
    obtain ⟨x0, x1, x2, _⟩ := hX.out.next hB.out
    obtain ⟨f0, f1, _⟩ := hF.out.next hB.out
    by_cases hkl : k < l.length
    rotate_left
    · obtain rfl : k = l.length := by omega
      have hfin : Hid ((p = orF pA TOT ∧ q = orF (pG ps) TOT ∧ s = orF (pT b ps) TOT) ∧ Below w.heap.size w wr) := by
        have h1 := hV.out
        rw [List.drop_length] at h1
        have h2 : V = TOT := by rw [← h1]; exact (List.append_nil _).symm
        subst h2
        exact ⟨⟨hT.out.p0, hT.out.q0, hT.out.s0⟩, hb1.out.trans (hB.out.mono hb1.out.size)⟩
      go_wp2_with fail
      go_ret3
      obtain ⟨⟨rfl, rfl, rfl⟩, h2⟩ := hfin.out
      exact ⟨rfl, h2⟩
    obtain ⟨x, hx⟩ : ∃ x, l[k]? = some x := ⟨_, List.getElem?_eq_getElem hkl⟩
    have hxo : Hid (okA x) := hokH.out x (List.mem_of_getElem? hx)
    obtain ⟨ba, oa, rfl, hba, hat0⟩ := atoms6_of hRH.out hx
    have hat := hat0.next hba hB.out
    obtain ⟨g0, g1, g2, g3, g4, g5⟩ := hat
    have hdr : Hid (visA f r a ps b (l.drop k) = visS f r a ps b x ++ visA f r a ps b (l.drop (k + 1))) := by
      show visA f r a ps b (l.drop k) = _
      rw [List.drop_eq_getElem_cons hkl]
      have : l[k] = x := (List.getElem?_eq_some_iff.1 hx).2
      rw [this]
      unfold visA
      exact List.flatMap_cons
    clear hx hat0
    go_upto_region 6 with fail
    have hA0 := KA.new wr x
    have hbv := ((Below.refl wr.heap.size wr).alloc (Nat.le_refl _) (.cells #[.int .i64 x.kind, .int .i64 x.short, .int .i64 x.long, .int .i64 x.most, .int .i64 x.mode, .int .i64 x.way] 26))
    generalize wr.heap.size = B1 at hA0 ⊢
    have hBv := Lib.hid (hB.out.trans (hbv.mono hB.out.size))
    generalize wr.alloc (.cells #[.int .i64 x.kind, .int .i64 x.short, .int .i64 x.long, .int .i64 x.most, .int .i64 x.mode, .int .i64 x.way] 26) = v at *
    have hA := Lib.hid hA0
    clear hA0 hbv x0 x1 x2 f0 f1 g0 g1 g2 g3 g4 g5 hB
    have hst := Lib.hid (rsteps x b v)
    obtain ⟨L, hL⟩ : ∃ L, stepsL x b = L := ⟨_, rfl⟩
    have hLl : L.length ≤ 225 := hL ▸ stepsL_le x b
    have hLm : Hid (∀ s ∈ L, Dir f r a s.files s.ranks ps) := fun s hs => hD.out.dir hxo.out (hL ▸ hs)
    have hLv : Hid (visS f r a ps b x = L.flatMap (visR f r a ps x)) := by show visS f r a ps b x = _; unfold visS; rw [hL]
    rw [hL] at hst
    clear hL
    obtain ⟨a0, a1, a2, a3, a4, a5, _⟩ := hA.out
    go_upto_region 7 with (go_at_call 35; refine hst.out.mono ?_; rintro e w2 hSt; obtain ⟨A2, c2, rfl, hR2⟩ := hSt.out; have hR2H := Lib.hid hR2; have hb2 := Lib.hid hSt.below; clear hSt hR2)
    clear a0 a1 a2 a3 a4 a5 hst
    have hBw := Lib.hid (hBv.out.trans (hb2.out.mono hBv.out.size))
    replace hA := Lib.hid (hA.out.next hb2.out)
    clear hb2 hBv
    go_wp2_with fail
    go_loopw [11, 12, 13, 17] (fun s11 s12 s13 i wr => ∃ (j p q s : Nat) (V2 : List Vi), j ≤ L.length ∧ i = .int .i64 (j : Int) ∧ s11 = .int .u64 (p : Int) ∧ s12 = .int .u64 (q : Int) ∧ s13 = .int .u64 (s : Int) ∧ Hid (Tr3 ps b V2 p q s) ∧ Hid (V2 ++ (L.drop j).flatMap (visR f r a ps x) = V ++ visS f r a ps b x) ∧ Hid (Below w2.heap.size w2 wr)) (fun _ _ _ i _ => L.length - (intOf i).toNat)
    case atStart => exact ⟨0, p, q, s, V, by omega, rfl, rfl, rfl, rfl, hT, by rw [hLv.out]; exact rfl, Below.refl _ _⟩
    case round =>
      clear hT
      obtain ⟨j, p, q, s, V2, hj, rfl, rfl, rfl, rfl, hT, hV2, hB2⟩ := hrel
      by_cases hjl : j < L.length
      rotate_left
      · obtain rfl : j = L.length := by omega
        have hfin : Hid (V2 ++ visA f r a ps b (l.drop (k + 1)) = TOT) := by
          have h1 := hV2.out
          rw [List.drop_length] at h1
          have h2 : V2 = V ++ visS f r a ps b x := by rw [← h1]; exact (List.append_nil _).symm
          show _ = TOT
          rw [h2, List.append_assoc, ← hdr.out]
          exact hV.out
        have hBo := Lib.hid (hBw.out.trans (hB2.out.mono hBw.out.size))
        clear hV2 hB2
        go_wp2_with fail
        go_roundw
        case rel => exact ⟨k + 1, p, q, s, V2, by omega, by go_num, rfl, rfl, rfl, hT, hfin, hBo⟩
        case measure => simp [intOf]; omega
      obtain ⟨st, hst⟩ : ∃ st, L[j]? = some st := ⟨_, List.getElem?_eq_getElem hjl⟩
      have hDi := Lib.hid (hLm.out st (List.mem_of_getElem? hst))
      obtain ⟨bs, os, rfl, hbs, hs20⟩ := steps2_of hR2H.out hst
      have hs2 : Hid (∀ W, Below w2.heap.size w2 W → steps2 W bs (os + j * 2) st) := fun W h => hs20.next hbs h
      have hdr2 : Hid ((L.drop j).flatMap (visR f r a ps x) = visR f r a ps x st ++ (L.drop (j + 1)).flatMap (visR f r a ps x)) := by
        show (L.drop j).flatMap (visR f r a ps x) = _
        rw [List.drop_eq_getElem_cons hjl, (List.getElem?_eq_some_iff.1 hst).2]
        exact List.flatMap_cons
      clear hst hs20
      go_upto_region 10 with fail
      have hS : Hid (∀ W, Below wr.heap.size wr W → W.cell? ⟨B0, 0, none⟩ = some (.int .i64 (f : Int)) ∧ W.cell? ⟨B0, 1, none⟩ = some (.int .i64 (r : Int)) ∧ W.cell? ⟨B0, 2, none⟩ = some (.slice P ps.length c) ∧ W.cell? ⟨B1, 0, none⟩ = some (.int .i64 x.kind) ∧ W.cell? ⟨B1, 1, none⟩ = some (.int .i64 x.short) ∧ W.cell? ⟨B1, 2, none⟩ = some (.int .i64 x.long) ∧ W.cell? ⟨B1, 3, none⟩ = some (.int .i64 x.most) ∧ W.cell? ⟨B1, 4, none⟩ = some (.int .i64 x.mode) ∧ W.cell? ⟨B1, 5, none⟩ = some (.int .i64 x.way) ∧ W.cell? ⟨bs, os + j * 2, none⟩ = some (.int .i64 st.files) ∧ W.cell? ⟨bs, os + j * 2 + 1, none⟩ = some (.int .i64 st.ranks)) := fun W h => by
        have hw2 := hB2.out.trans (h.mono hB2.out.size)
        have hwu := hBw.out.trans (hw2.mono hBw.out.size)
        exact ⟨(hX.out.next hwu).c0, (hX.out.next hwu).c1, (hX.out.next hwu).c2, (hA.out.next hw2).c0, (hA.out.next hw2).c1, (hA.out.next hw2).c2, (hA.out.next hw2).c3, (hA.out.next hw2).c4, (hA.out.next hw2).c5, (hs2.out W hw2).1, (hs2.out W hw2).2⟩
      have hjI : (j : Int) < (L.length : Int) := by omega
      have hj0 : (0 : Int) ≤ (j : Int) := Int.natCast_nonneg _
      have hre : Hid (∀ W, Below wr.heap.size wr W → Calls Tryz.prog 47 #[.agg #[.int .i64 (f : Int), .int .i64 (r : Int), .slice P ps.length c], aV x, .int .i64 (a : Int), .agg #[.int .i64 st.files, .int .i64 st.ranks]] W fun e w' => LnR (reachV x f r a st.files st.ranks ps) e W w') := fun W h => by
        have hwu := hBw.out.trans ((hB2.out.trans (h.mono hB2.out.size)).mono hBw.out.size)
        exact rreaches x f r a st.files st.ranks ps P c W hDi.out (recs_next hPH.out hwu) hxo.out
      obtain ⟨R, hR⟩ : ∃ R, reachV x f r a st.files st.ranks ps = R := ⟨_, rfl⟩
      have hRl : R.length ≤ 9 := hR ▸ reachV_len x f r a st.files st.ranks ps
      have hRm : Hid (∀ q ∈ R, 0 ≤ q ∧ q < (ps.length : Int)) := fun q hq => by
        rw [hD.out.len]
        exact reachV_mem hDi.out (hR ▸ hq)
      have hRv : Hid (visR f r a ps x st = R.map fun q => (x.mode, q)) := by show visR f r a ps x st = _; unfold visR; rw [hR]
      rw [hR] at hre
      clear hR
      refine wp_region_held_drew (S := fun W => W.cell? ⟨B0, 0, none⟩ = some (.int .i64 (f : Int)) ∧ W.cell? ⟨B0, 1, none⟩ = some (.int .i64 (r : Int)) ∧ W.cell? ⟨B0, 2, none⟩ = some (.slice P ps.length c) ∧ W.cell? ⟨B1, 0, none⟩ = some (.int .i64 x.kind) ∧ W.cell? ⟨B1, 1, none⟩ = some (.int .i64 x.short) ∧ W.cell? ⟨B1, 2, none⟩ = some (.int .i64 x.long) ∧ W.cell? ⟨B1, 3, none⟩ = some (.int .i64 x.most) ∧ W.cell? ⟨B1, 4, none⟩ = some (.int .i64 x.mode) ∧ W.cell? ⟨B1, 5, none⟩ = some (.int .i64 x.way) ∧ W.cell? ⟨bs, os + j * 2, none⟩ = some (.int .i64 st.files) ∧ W.cell? ⟨bs, os + j * 2 + 1, none⟩ = some (.int .i64 st.ranks)) (by kernel_rfl) (hS.out _ ((Below.refl _ _).drew)) (fun hHeld => ?_)
      refine wpAnyH_take (i := 0) (v := ?_) rfl (by kernel_rfl) (by kernel_rfl) (by kernel_rfl) (fun _ _ _ h => h) (Or.inl ⟨by rfl, ?_⟩) hHeld ?_
      rotate_left
      · intro W9 hSw; (try dsimp only at hSw); go_simp; (try with_reducible rfl)
      simp only [Act.put, List.getElem_toArray, List.getElem_cons_zero, List.getElem_cons_succ, List.setIfInBounds_toArray, List.set_cons_zero, List.set_cons_succ]
      refine wpAnyH_take (i := 1) (v := ?_) rfl (by kernel_rfl) (by kernel_rfl) (by kernel_rfl) (fun _ _ _ h => h) (Or.inl ⟨by rfl, ?_⟩) hHeld ?_
      rotate_left
      · intro W9 hSw; (try dsimp only at hSw); go_simp; (try with_reducible rfl)
      simp only [Act.put, List.getElem_toArray, List.getElem_cons_zero, List.getElem_cons_succ, List.setIfInBounds_toArray, List.set_cons_zero, List.set_cons_succ]
      refine wpAnyH_take (i := 2) (v := ?_) rfl (by kernel_rfl) (by kernel_rfl) (by kernel_rfl) (fun _ _ _ h => h) (Or.inl ⟨by rfl, ?_⟩) hHeld ?_
      rotate_left
      · intro W9 hSw; (try dsimp only at hSw); go_simp; (try with_reducible rfl)
      simp only [Act.put, List.getElem_toArray, List.getElem_cons_zero, List.getElem_cons_succ, List.setIfInBounds_toArray, List.set_cons_zero, List.set_cons_succ]
      refine wpAnyH_take (i := 3) (v := ?_) rfl (by kernel_rfl) (by kernel_rfl) (by kernel_rfl) (fun _ _ _ h => h) (Or.inl ⟨by rfl, ?_⟩) hHeld ?_
      rotate_left
      · intro W9 hSw; (try dsimp only at hSw); go_simp; (try with_reducible rfl)
      simp only [Act.put, List.getElem_toArray, List.getElem_cons_zero, List.getElem_cons_succ, List.setIfInBounds_toArray, List.set_cons_zero, List.set_cons_succ]
      refine wpAnyH_take (i := 4) (v := ?_) rfl (by kernel_rfl) (by kernel_rfl) (by kernel_rfl) (fun _ _ _ h => h) (Or.inl ⟨by rfl, ?_⟩) hHeld ?_
      rotate_left
      · intro W9 hSw; (try dsimp only at hSw); go_simp; (try with_reducible rfl)
      simp only [Act.put, List.getElem_toArray, List.getElem_cons_zero, List.getElem_cons_succ, List.setIfInBounds_toArray, List.set_cons_zero, List.set_cons_succ]
      refine wpAnyH_take (i := 5) (v := ?_) rfl (by kernel_rfl) (by kernel_rfl) (by kernel_rfl) (fun _ _ _ h => h) (Or.inl ⟨by rfl, ?_⟩) hHeld ?_
      rotate_left
      · intro W9 hSw; (try dsimp only at hSw); go_simp; (try with_reducible rfl)
      simp only [Act.put, List.getElem_toArray, List.getElem_cons_zero, List.getElem_cons_succ, List.setIfInBounds_toArray, List.set_cons_zero, List.set_cons_succ]
      refine wpAnyH_take (i := 6) (v := ?_) rfl (by kernel_rfl) (by kernel_rfl) (by kernel_rfl) (fun _ _ _ h => h) (Or.inl ⟨by rfl, ?_⟩) hHeld ?_
      rotate_left
      · intro W9 hSw; (try dsimp only at hSw); go_simp; (try with_reducible rfl)
      simp only [Act.put, List.getElem_toArray, List.getElem_cons_zero, List.getElem_cons_succ, List.setIfInBounds_toArray, List.set_cons_zero, List.set_cons_succ]
      refine wpAnyH_ready (rs := [7]) (by kernel_rfl) (by simp) ?_
      refine AllReadyH.cons rfl (fun K hK => ?_) AllReadyH.nil
      go_simp
      go_at_call 47
      refine (hre.out _ ((Below.refl _ _).drew)).mono ?_
      rintro e w3 hLn
      obtain ⟨A3, c3, rfl, hR3⟩ := hLn.out
      have hR3H := Lib.hid hR3
      have hb5 := Lib.hid (undrew hLn.below)
      clear hLn hR3
      refine hK.out _ _ (hS.out _ hb5.out) (fun hHeld2 => ?_)
      clear hK K hHeld
      have hHeld := hHeld2
      clear hHeld2
      refine wpAnyH_take (i := 8) (v := ?_) rfl (by kernel_rfl) (by kernel_rfl) (by kernel_rfl) (fun _ _ _ h => h) (Or.inl ⟨by rfl, ?_⟩) hHeld ?_
      rotate_left
      · intro W9 hSw; (try dsimp only at hSw); go_simp; (try with_reducible rfl)
      simp only [Act.put, List.getElem_toArray, List.getElem_cons_zero, List.getElem_cons_succ, List.setIfInBounds_toArray, List.set_cons_zero, List.set_cons_succ]
      refine wpAnyH_done (by kernel_rfl) ?_ _
      clear hHeld hS hre hs2 hjI hj0
      have hBw3 := Lib.hid (hB2.out.trans (hb5.out.mono hB2.out.size))
      clear hb5 hB2
      have hA3 := Lib.hid (hA.out.next hBw3.out)
      have hBu3 := Lib.hid (hBw.out.trans (hBw3.out.mono hBw.out.size))
      go_wp2_with fail
      go_loopw [11, 12, 13, 19] (fun s11 s12 s13 i wr => ∃ (n p q s : Nat) (V3 : List Vi), n ≤ R.length ∧ i = .int .i64 (n : Int) ∧ s11 = .int .u64 (p : Int) ∧ s12 = .int .u64 (q : Int) ∧ s13 = .int .u64 (s : Int) ∧ Hid (Tr3 ps b V3 p q s) ∧ Hid (V3 ++ (R.drop n).map (fun q => (x.mode, q)) = V2 ++ visR f r a ps x st) ∧ Hid (Below w3.heap.size w3 wr)) (fun _ _ _ i _ => R.length - (intOf i).toNat)
      case atStart => exact ⟨0, p, q, s, V2, by omega, rfl, rfl, rfl, rfl, hT, by rw [hRv.out]; exact rfl, Below.refl _ _⟩
      case round =>
        clear hT
        obtain ⟨n, p, q, s, V3, hn, rfl, rfl, rfl, rfl, hT, hV3, hB3⟩ := hrel
        by_cases hnl : n < R.length
        rotate_left
        · obtain rfl : n = R.length := by omega
          have hfin : Hid (V3 ++ (L.drop (j + 1)).flatMap (visR f r a ps x) = V ++ visS f r a ps b x) := by
            have h1 := hV3.out
            rw [List.drop_length] at h1
            have h2 : V3 = V2 ++ visR f r a ps x st := by rw [← h1]; exact (List.append_nil _).symm
            show _ = V ++ visS f r a ps b x
            rw [h2, List.append_assoc, ← hdr2.out]
            exact hV2.out
          have hBo := Lib.hid (hBw3.out.trans (hB3.out.mono hBw3.out.size))
          clear hV3 hB3
          go_wp2_with fail
          go_roundw
          case rel => exact ⟨j + 1, p, q, s, V3, by omega, by go_num, rfl, rfl, rfl, hT, hfin, hBo⟩
          case measure => simp [intOf]; omega
        obtain ⟨zz, hzz⟩ : ∃ zz, R[n]? = some zz := ⟨_, List.getElem?_eq_getElem hnl⟩
        obtain ⟨hz0, hz1⟩ := hRm.out zz (List.mem_of_getElem? hzz)
        obtain ⟨z, rfl⟩ := Int.eq_ofNat_of_zero_le hz0
        obtain ⟨br, or', rfl, hbr, hcr⟩ := recI hR3H.out hzz
        have hzl : z < ps.length := by omega
        obtain ⟨pc, hpc⟩ : ∃ pc, ps[z]? = some pc := ⟨_, List.getElem?_eq_getElem hzl⟩
        obtain ⟨bk, off, rfl, hbk, hc0⟩ := recP hPH.out hpc
        have hBu := Lib.hid (hBu3.out.trans (hB3.out.mono hBu3.out.size))
        have hcz : wr.cell? ⟨br, or' + n, none⟩ = some (.int .i64 (z : Int)) := (hB3.out.cell (p := ⟨br, or' + n, none⟩) hbr).trans hcr
        have hcp : wr.cell? ⟨bk, off + z, none⟩ = some (.int .i8 pc) := (hBu.out.cell (p := ⟨bk, off + z, none⟩) hbk).trans hc0
        obtain ⟨x0, x1, x2, _⟩ := hX.out.next hBu.out
        obtain ⟨a0, _, _, _, a4, _, _⟩ := hA3.out.next hB3.out
        have hgd : Hid (ps.getD ((x.mode, (z : Int)) : Vi).2.toNat 0 = pc) := by show ps.getD (z : Int).toNat 0 = pc; rw [Int.toNat_natCast, List.getD_eq_getElem?_getD, hpc]; rfl
        have hdr3 : Hid (V3 ++ [(x.mode, (z : Int))] ++ (R.drop (n + 1)).map (fun q => (x.mode, q)) = V2 ++ visR f r a ps x st) := by
          show _ = V2 ++ visR f r a ps x st
          rw [← hV3.out, List.drop_eq_getElem_cons hnl, (List.getElem?_eq_some_iff.1 hzz).2, List.append_assoc]
          rfl
        have hz64 : z < 64 := by omega
        have hzI : (z : Int) < (ps.length : Int) := hz1
        have hnI : (n : Int) < (R.length : Int) := by omega
        have hn0 : (0 : Int) ≤ (n : Int) := Int.natCast_nonneg _
        have hBn : Hid (∀ m, Below w3.heap.size w3 (wr.drewN m)) := fun m => below_drewN hB3.out m
        have hop := or_shift2 hT.out.p1 hz64
        have hoq := or_shift2 hT.out.q1 hz64
        have hos := or_shift2 hT.out.s1 hz64
        clear hzz hpc hcr hc0 hV3 hBu hB3
        go_upto_region 15 with fail
        go_quiet (fail)
        have a0q : (wr.drewN nq).cell? ⟨B1, 4, none⟩ = some (.int .i64 x.mode) := a4
        have hBq := Lib.hid (hBn.out nq)
        clear a0 a4 x0 x1 x2 hcz hcp hBn
        generalize wr.drewN nq = wq at *
        by_cases k1 : x.mode = 1
        · have q1 : (x.mode != 1) = false := by rw [bne_eq_false_iff_eq]; exact k1
          have q2 : (x.mode != 2) = true := by rw [bne_iff_ne]; omega
          have hpA : pA (x.mode, (z : Int)) = false := by unfold pA; exact decide_eq_false (fun h => h k1)
          by_cases hp0 : pc = 0
          · have q3 : (pc == 0) = true := by rw [beq_iff_eq]; exact hp0
            have hpG : pG ps (x.mode, (z : Int)) = true := by unfold pG; exact decide_eq_true ⟨by show x.mode ≠ 2; omega, hgd.out.trans hp0⟩
            have hpT : pT b ps (x.mode, (z : Int)) = false := by unfold pT; rw [decide_eq_false (fun h => h k1)]; rfl
            have hT2 : Hid (Tr3 ps b (V3 ++ [(x.mode, (z : Int))]) (p) (q ||| 2 ^ z) (s)) := hT.out.put hz64 (by rw [show pA (x.mode, (z : Int)) = false from hpA]; rfl) (by rw [show pG ps (x.mode, (z : Int)) = true from hpG]; rfl) (by rw [show pT b ps (x.mode, (z : Int)) = false from hpT]; rfl)
            clear hpA hpG hpT hp0 k1
            clear hop
            clear hos
            go_wp2_with fail
            go_roundw
            case rel => exact ⟨n + 1, p, q ||| 2 ^ z, s, V3 ++ [(x.mode, (z : Int))], by omega, by go_num, rfl, rfl, rfl, hT2, hdr3, hBq⟩
            case measure => simp [intOf]; omega
          · have q3 : (pc == 0) = false := by rw [beq_eq_false_iff_ne]; exact hp0
            have hpG : pG ps (x.mode, (z : Int)) = false := by unfold pG; exact decide_eq_false (fun h => hp0 (hgd.out.symm.trans h.2))
            have hpT : pT b ps (x.mode, (z : Int)) = false := by unfold pT; rw [decide_eq_false (fun h => h k1)]; rfl
            have hT2 : Hid (Tr3 ps b (V3 ++ [(x.mode, (z : Int))]) (p) (q) (s)) := hT.out.put hz64 (by rw [show pA (x.mode, (z : Int)) = false from hpA]; rfl) (by rw [show pG ps (x.mode, (z : Int)) = false from hpG]; rfl) (by rw [show pT b ps (x.mode, (z : Int)) = false from hpT]; rfl)
            clear hpA hpG hpT hp0 k1
            clear hop
            clear hoq
            clear hos
            go_wp2_with fail
            go_roundw
            case rel => exact ⟨n + 1, p, q, s, V3 ++ [(x.mode, (z : Int))], by omega, by go_num, rfl, rfl, rfl, hT2, hdr3, hBq⟩
            case measure => simp [intOf]; omega
        have q1 : (x.mode != 1) = true := by rw [bne_iff_ne]; exact k1
        have hpA : pA (x.mode, (z : Int)) = true := by unfold pA; exact decide_eq_true k1
        by_cases k2 : x.mode = 2
        · have q2 : (x.mode != 2) = false := by rw [bne_eq_false_iff_eq]; exact k2
          rcases Int.lt_trichotomy pc 0 with hp0 | hp0 | hp0
          · cases b
            case true =>
              have q4 : (0 < pc) = False := eq_false (by omega)
              have q5 : (pc < 0) = True := eq_true (by omega)
              have q3 : (pc == 0) = false := by rw [beq_eq_false_iff_ne]; omega
              have hpG : pG ps (x.mode, (z : Int)) = false := by unfold pG; exact decide_eq_false (fun h => h.1 k2)
              have hpT : pT true ps (x.mode, (z : Int)) = false := by unfold pT; rw [hgd.out]; rw [decide_eq_true k1]; unfold enB; rw [if_neg (by omega), if_pos (by omega)]; rfl
              have hT2 : Hid (Tr3 ps true (V3 ++ [(x.mode, (z : Int))]) (p ||| 2 ^ z) (q) (s)) := hT.out.put hz64 (by rw [show pA (x.mode, (z : Int)) = true from hpA]; rfl) (by rw [show pG ps (x.mode, (z : Int)) = false from hpG]; rfl) (by rw [show pT true ps (x.mode, (z : Int)) = false from hpT]; rfl)
              clear hpA hpG hpT hp0 k1 k2
              clear hoq
              clear hos
              go_wp2_with fail
              go_roundw
              case rel => exact ⟨n + 1, p ||| 2 ^ z, q, s, V3 ++ [(x.mode, (z : Int))], by omega, by go_num, rfl, rfl, rfl, hT2, hdr3, hBq⟩
              case measure => simp [intOf]; omega
            case false =>
              have q4 : (0 < pc) = False := eq_false (by omega)
              have q5 : (pc < 0) = True := eq_true (by omega)
              have q3 : (pc == 0) = false := by rw [beq_eq_false_iff_ne]; omega
              have hpG : pG ps (x.mode, (z : Int)) = false := by unfold pG; exact decide_eq_false (fun h => h.1 k2)
              have hpT : pT false ps (x.mode, (z : Int)) = true := by unfold pT; rw [hgd.out]; rw [decide_eq_true k1]; unfold enB; rw [if_neg (by omega), if_pos (by omega)]; rfl
              have hT2 : Hid (Tr3 ps false (V3 ++ [(x.mode, (z : Int))]) (p ||| 2 ^ z) (q) (s ||| 2 ^ z)) := hT.out.put hz64 (by rw [show pA (x.mode, (z : Int)) = true from hpA]; rfl) (by rw [show pG ps (x.mode, (z : Int)) = false from hpG]; rfl) (by rw [show pT false ps (x.mode, (z : Int)) = true from hpT]; rfl)
              clear hpA hpG hpT hp0 k1 k2
              clear hoq
              go_wp2_with fail
              go_roundw
              case rel => exact ⟨n + 1, p ||| 2 ^ z, q, s ||| 2 ^ z, V3 ++ [(x.mode, (z : Int))], by omega, by go_num, rfl, rfl, rfl, hT2, hdr3, hBq⟩
              case measure => simp [intOf]; omega
          · have q4 : (0 < pc) = False := eq_false (by omega)
            have q5 : (pc < 0) = False := eq_false (by omega)
            have q3 : (pc == 0) = true := by rw [beq_iff_eq]; omega
            have hpG : pG ps (x.mode, (z : Int)) = false := by unfold pG; exact decide_eq_false (fun h => h.1 k2)
            have hpT : pT b ps (x.mode, (z : Int)) = false := by unfold pT; rw [hgd.out]; rw [decide_eq_true k1]; unfold enB; rw [if_neg (by omega), if_neg (by omega)]; rfl
            have hT2 : Hid (Tr3 ps b (V3 ++ [(x.mode, (z : Int))]) (p ||| 2 ^ z) (q) (s)) := hT.out.put hz64 (by rw [show pA (x.mode, (z : Int)) = true from hpA]; rfl) (by rw [show pG ps (x.mode, (z : Int)) = false from hpG]; rfl) (by rw [show pT b ps (x.mode, (z : Int)) = false from hpT]; rfl)
            clear hpA hpG hpT hp0 k1 k2
            clear hoq
            clear hos
            go_wp2_with fail
            go_roundw
            case rel => exact ⟨n + 1, p ||| 2 ^ z, q, s, V3 ++ [(x.mode, (z : Int))], by omega, by go_num, rfl, rfl, rfl, hT2, hdr3, hBq⟩
            case measure => simp [intOf]; omega
          · cases b
            case true =>
              have q4 : (0 < pc) = True := eq_true (by omega)
              have q5 : (pc < 0) = False := eq_false (by omega)
              have q3 : (pc == 0) = false := by rw [beq_eq_false_iff_ne]; omega
              have hpG : pG ps (x.mode, (z : Int)) = false := by unfold pG; exact decide_eq_false (fun h => h.1 k2)
              have hpT : pT true ps (x.mode, (z : Int)) = true := by unfold pT; rw [hgd.out]; rw [decide_eq_true k1]; unfold enB; rw [if_pos (by omega)]; rfl
              have hT2 : Hid (Tr3 ps true (V3 ++ [(x.mode, (z : Int))]) (p ||| 2 ^ z) (q) (s ||| 2 ^ z)) := hT.out.put hz64 (by rw [show pA (x.mode, (z : Int)) = true from hpA]; rfl) (by rw [show pG ps (x.mode, (z : Int)) = false from hpG]; rfl) (by rw [show pT true ps (x.mode, (z : Int)) = true from hpT]; rfl)
              clear hpA hpG hpT hp0 k1 k2
              clear hoq
              go_wp2_with fail
              go_roundw
              case rel => exact ⟨n + 1, p ||| 2 ^ z, q, s ||| 2 ^ z, V3 ++ [(x.mode, (z : Int))], by omega, by go_num, rfl, rfl, rfl, hT2, hdr3, hBq⟩
              case measure => simp [intOf]; omega
            case false =>
              have q4 : (0 < pc) = True := eq_true (by omega)
              have q5 : (pc < 0) = False := eq_false (by omega)
              have q3 : (pc == 0) = false := by rw [beq_eq_false_iff_ne]; omega
              have hpG : pG ps (x.mode, (z : Int)) = false := by unfold pG; exact decide_eq_false (fun h => h.1 k2)
              have hpT : pT false ps (x.mode, (z : Int)) = false := by unfold pT; rw [hgd.out]; rw [decide_eq_true k1]; unfold enB; rw [if_pos (by omega)]; rfl
              have hT2 : Hid (Tr3 ps false (V3 ++ [(x.mode, (z : Int))]) (p ||| 2 ^ z) (q) (s)) := hT.out.put hz64 (by rw [show pA (x.mode, (z : Int)) = true from hpA]; rfl) (by rw [show pG ps (x.mode, (z : Int)) = false from hpG]; rfl) (by rw [show pT false ps (x.mode, (z : Int)) = false from hpT]; rfl)
              clear hpA hpG hpT hp0 k1 k2
              clear hoq
              clear hos
              go_wp2_with fail
              go_roundw
              case rel => exact ⟨n + 1, p ||| 2 ^ z, q, s, V3 ++ [(x.mode, (z : Int))], by omega, by go_num, rfl, rfl, rfl, hT2, hdr3, hBq⟩
              case measure => simp [intOf]; omega
        have q2 : (x.mode != 2) = true := by rw [bne_iff_ne]; exact k2
        rcases Int.lt_trichotomy pc 0 with hp0 | hp0 | hp0
        · cases b
          case true =>
            have q4 : (0 < pc) = False := eq_false (by omega)
            have q5 : (pc < 0) = True := eq_true (by omega)
            have q3 : (pc == 0) = false := by rw [beq_eq_false_iff_ne]; omega
            have hpG : pG ps (x.mode, (z : Int)) = false := by unfold pG; exact decide_eq_false (fun h => absurd (hgd.out.symm.trans h.2) (by omega))
            have hpT : pT true ps (x.mode, (z : Int)) = false := by unfold pT; rw [hgd.out]; rw [decide_eq_true k1]; unfold enB; rw [if_neg (by omega), if_pos (by omega)]; rfl
            have hT2 : Hid (Tr3 ps true (V3 ++ [(x.mode, (z : Int))]) (p ||| 2 ^ z) (q) (s)) := hT.out.put hz64 (by rw [show pA (x.mode, (z : Int)) = true from hpA]; rfl) (by rw [show pG ps (x.mode, (z : Int)) = false from hpG]; rfl) (by rw [show pT true ps (x.mode, (z : Int)) = false from hpT]; rfl)
            clear hpA hpG hpT hp0 k1 k2
            clear hoq
            clear hos
            go_wp2_with fail
            go_roundw
            case rel => exact ⟨n + 1, p ||| 2 ^ z, q, s, V3 ++ [(x.mode, (z : Int))], by omega, by go_num, rfl, rfl, rfl, hT2, hdr3, hBq⟩
            case measure => simp [intOf]; omega
          case false =>
            have q4 : (0 < pc) = False := eq_false (by omega)
            have q5 : (pc < 0) = True := eq_true (by omega)
            have q3 : (pc == 0) = false := by rw [beq_eq_false_iff_ne]; omega
            have hpG : pG ps (x.mode, (z : Int)) = false := by unfold pG; exact decide_eq_false (fun h => absurd (hgd.out.symm.trans h.2) (by omega))
            have hpT : pT false ps (x.mode, (z : Int)) = true := by unfold pT; rw [hgd.out]; rw [decide_eq_true k1]; unfold enB; rw [if_neg (by omega), if_pos (by omega)]; rfl
            have hT2 : Hid (Tr3 ps false (V3 ++ [(x.mode, (z : Int))]) (p ||| 2 ^ z) (q) (s ||| 2 ^ z)) := hT.out.put hz64 (by rw [show pA (x.mode, (z : Int)) = true from hpA]; rfl) (by rw [show pG ps (x.mode, (z : Int)) = false from hpG]; rfl) (by rw [show pT false ps (x.mode, (z : Int)) = true from hpT]; rfl)
            clear hpA hpG hpT hp0 k1 k2
            clear hoq
            go_wp2_with fail
            go_roundw
            case rel => exact ⟨n + 1, p ||| 2 ^ z, q, s ||| 2 ^ z, V3 ++ [(x.mode, (z : Int))], by omega, by go_num, rfl, rfl, rfl, hT2, hdr3, hBq⟩
            case measure => simp [intOf]; omega
        · have q4 : (0 < pc) = False := eq_false (by omega)
          have q5 : (pc < 0) = False := eq_false (by omega)
          have q3 : (pc == 0) = true := by rw [beq_iff_eq]; omega
          have hpG : pG ps (x.mode, (z : Int)) = true := by unfold pG; exact decide_eq_true ⟨k2, hgd.out.trans hp0⟩
          have hpT : pT b ps (x.mode, (z : Int)) = false := by unfold pT; rw [hgd.out]; rw [decide_eq_true k1]; unfold enB; rw [if_neg (by omega), if_neg (by omega)]; rfl
          have hT2 : Hid (Tr3 ps b (V3 ++ [(x.mode, (z : Int))]) (p ||| 2 ^ z) (q ||| 2 ^ z) (s)) := hT.out.put hz64 (by rw [show pA (x.mode, (z : Int)) = true from hpA]; rfl) (by rw [show pG ps (x.mode, (z : Int)) = true from hpG]; rfl) (by rw [show pT b ps (x.mode, (z : Int)) = false from hpT]; rfl)
          clear hpA hpG hpT hp0 k1 k2
          clear hos
          go_wp2_with fail
          go_roundw
          case rel => exact ⟨n + 1, p ||| 2 ^ z, q ||| 2 ^ z, s, V3 ++ [(x.mode, (z : Int))], by omega, by go_num, rfl, rfl, rfl, hT2, hdr3, hBq⟩
          case measure => simp [intOf]; omega
        · cases b
          case true =>
            have q4 : (0 < pc) = True := eq_true (by omega)
            have q5 : (pc < 0) = False := eq_false (by omega)
            have q3 : (pc == 0) = false := by rw [beq_eq_false_iff_ne]; omega
            have hpG : pG ps (x.mode, (z : Int)) = false := by unfold pG; exact decide_eq_false (fun h => absurd (hgd.out.symm.trans h.2) (by omega))
            have hpT : pT true ps (x.mode, (z : Int)) = true := by unfold pT; rw [hgd.out]; rw [decide_eq_true k1]; unfold enB; rw [if_pos (by omega)]; rfl
            have hT2 : Hid (Tr3 ps true (V3 ++ [(x.mode, (z : Int))]) (p ||| 2 ^ z) (q) (s ||| 2 ^ z)) := hT.out.put hz64 (by rw [show pA (x.mode, (z : Int)) = true from hpA]; rfl) (by rw [show pG ps (x.mode, (z : Int)) = false from hpG]; rfl) (by rw [show pT true ps (x.mode, (z : Int)) = true from hpT]; rfl)
            clear hpA hpG hpT hp0 k1 k2
            clear hoq
            go_wp2_with fail
            go_roundw
            case rel => exact ⟨n + 1, p ||| 2 ^ z, q, s ||| 2 ^ z, V3 ++ [(x.mode, (z : Int))], by omega, by go_num, rfl, rfl, rfl, hT2, hdr3, hBq⟩
            case measure => simp [intOf]; omega
          case false =>
            have q4 : (0 < pc) = True := eq_true (by omega)
            have q5 : (pc < 0) = False := eq_false (by omega)
            have q3 : (pc == 0) = false := by rw [beq_eq_false_iff_ne]; omega
            have hpG : pG ps (x.mode, (z : Int)) = false := by unfold pG; exact decide_eq_false (fun h => absurd (hgd.out.symm.trans h.2) (by omega))
            have hpT : pT false ps (x.mode, (z : Int)) = false := by unfold pT; rw [hgd.out]; rw [decide_eq_true k1]; unfold enB; rw [if_pos (by omega)]; rfl
            have hT2 : Hid (Tr3 ps false (V3 ++ [(x.mode, (z : Int))]) (p ||| 2 ^ z) (q) (s)) := hT.out.put hz64 (by rw [show pA (x.mode, (z : Int)) = true from hpA]; rfl) (by rw [show pG ps (x.mode, (z : Int)) = false from hpG]; rfl) (by rw [show pT false ps (x.mode, (z : Int)) = false from hpT]; rfl)
            clear hpA hpG hpT hp0 k1 k2
            clear hoq
            clear hos
            go_wp2_with fail
            go_roundw
            case rel => exact ⟨n + 1, p ||| 2 ^ z, q, s, V3 ++ [(x.mode, (z : Int))], by omega, by go_num, rfl, rfl, rfl, hT2, hdr3, hBq⟩
            case measure => simp [intOf]; omega
end Go.Proofs.YtbcdimklblpdnaaGreatDoor
