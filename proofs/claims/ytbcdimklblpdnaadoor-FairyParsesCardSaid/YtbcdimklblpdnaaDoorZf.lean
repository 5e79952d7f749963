/- Layer 27: Parse of the reference. -/
import Derived.Test.YtbcdimklblpdnaaDoorZc
import Derived.Test.YtbcdimklblpdnaaDoorZe
import Derived.Test.YtbcdimklblpdnaaDoorYq
namespace Go.Proofs.YtbcdimklblpdnaaDoor
open Go Go.RowKit
set_option linter.unusedSimpArgs false
set_option linter.unusedVariables false
/-- the atoms with a text -/
def pickL (x : List UInt8) : List At := allL.filter fun a => decide (atB a = x)
/-- the atoms of the first parts -/
def resK (l : List (List UInt8)) : Nat → Option (List At)
  | 0 => some []
  | k + 1 => match resK l k with
    | none => none
    | some ats => if pickL (l.getD k []) = [] then none else some (ats ++ pickL (l.getD k []))
theorem eqb_bs (x y : List UInt8) : ((bsB x).toList == (bsB y).toList) = decide (x = y) := by
  rw [ByteArray.toList_eq, ByteArray.toList_eq]
  show (x == y) = decide (x = y)
  by_cases h : x = y
  · subst h; simp
  · rw [decide_eq_false h, beq_eq_false_iff_ne]; exact h
theorem resK_no {l : List (List UInt8)} {k : Nat} (h : resK l k = none) : ∀ n, k ≤ n → resK l n = none := by
  intro n hn
  induction n with
  | zero =>
    obtain rfl : k = 0 := by omega
    exact h
  | succ n ih =>
    by_cases e : k = n + 1
    · subst e; exact h
    · unfold resK
      rw [ih (by omega)]
open Classical in
noncomputable def fyO (nm : List UInt8) (l : List At) : Option (List UInt8 × List At) := if okFy (bsB nm) l then some (nm, l) else none
/-- what Parse gives -/
noncomputable def parR (s : List UInt8) : Option (List UInt8 × List At) :=
  if (splL 32 s).length ≠ 2 then none
  else match resK (splL 43 ((splL 32 s).getD 1 [])) (min (splL 43 ((splL 32 s).getD 1 [])).length 9) with
    | none => none
    | some l => fyO ((splL 32 s).getD 0 []) l
structure PaR (R : Option (List UInt8 × List At)) (e : Ending) (w w' : World) : Prop where
  no : R = none → e = .returned (.tuple #[.agg #[.string ⟨#[]⟩, .slice none 0 0], .int .i64 6])
  yes : ∀ nm l, R = some (nm, l) → ∃ (A : Option Addr) (c : Nat), e = .returned (.tuple #[.agg #[.string (bsB nm), .slice A l.length c], .int .i64 0]) ∧ RecAt aEnc 6 w' w'.heap.size A l
  below : Below w.heap.size w w'
/-- a box of two cells -/
structure B2 (w : World) (B : Nat) (x y : Value) : Prop where
  c0 : w.cell? ⟨B, 0, none⟩ = some x
  c1 : w.cell? ⟨B, 1, none⟩ = some y
  f0 : w.frozen? ⟨B, 0, none⟩ = false
  f1 : w.frozen? ⟨B, 1, none⟩ = false
  lt : B < w.heap.size
theorem B2.new (w : World) (x y : Value) (T : TypeId) : B2 (w.alloc (.cells #[x, y] T)) w.heap.size x y :=
  ⟨by rw [cell_of_row _ _ _ _ _ _ (heap_alloc_new w _)]; rfl, by rw [cell_of_row _ _ _ _ _ _ (heap_alloc_new w _)]; rfl, by simp only [World.frozen?]; rw [heap_alloc_new w _]; rfl, by simp only [World.frozen?]; rw [heap_alloc_new w _]; rfl, by simp⟩
theorem B2.of_block {w w' : World} {B : Nat} {x y : Value} (h : B2 w B x y) (hb : w'.heap[B]? = w.heap[B]?) (hs : w.heap.size ≤ w'.heap.size) : B2 w' B x y :=
  ⟨(World.cell?_of_block hb).trans h.c0, (World.cell?_of_block hb).trans h.c1, by have := h.f0; simp only [World.frozen?] at this ⊢; rw [hb]; exact this, by have := h.f1; simp only [World.frozen?] at this ⊢; rw [hb]; exact this, Nat.lt_of_lt_of_le h.lt hs⟩
theorem B2.next {w w' : World} {B : Nat} {x y : Value} (h : B2 w B x y) (hb : Below w.heap.size w w') : B2 w' B x y := h.of_block (hb.block B h.lt) hb.size
theorem B2.chg {S : List Nat} {w w' : World} {B : Nat} {x y : Value} (h : B2 w B x y) (hc : Chg S w w') (hn : B ∉ S) : B2 w' B x y := h.of_block (hc.block B h.lt hn) hc.size
theorem B2.set0 {w : World} {B : Nat} {x y : Value} (h : B2 w B x y) (x' : Value) : B2 (w.setCell ⟨B, 0, none⟩ x') B x' y :=
  ⟨World.cell?_setCell_same' _ _ _ (by rw [h.c0]; rfl), (World.cell?_setCell_other w ⟨B, 0, none⟩ ⟨B, 1, none⟩ _ (by simp)).trans h.c1, by rw [World.frozen?_setCell]; exact h.f0, by rw [World.frozen?_setCell]; exact h.f1, by rw [nblk_set]; exact h.lt⟩
theorem B2.set1 {w : World} {B : Nat} {x y : Value} (h : B2 w B x y) (y' : Value) : B2 (w.setCell ⟨B, 1, none⟩ y') B x y' :=
  ⟨(World.cell?_setCell_other w ⟨B, 1, none⟩ ⟨B, 0, none⟩ _ (by simp)).trans h.c0, World.cell?_setCell_same' _ _ _ (by rw [h.c1]; rfl), by rw [World.frozen?_setCell]; exact h.f0, by rw [World.frozen?_setCell]; exact h.f1, by rw [nblk_set]; exact h.lt⟩
theorem Chg.grown {S : List Nat} {w0 w w' : World} (h : Chg S w0 w) {row : Option Nat} (hg : w.grownBy w' row) (hr : ∀ k, row = some k → w0.heap.size ≤ k) : Chg S w0 w' :=
  ⟨hg.os.trans h.os, hg.tape.trans h.tape, hg.output.trans h.output, Nat.le_trans h.size hg.size, fun k hk hn => (hg.block k (Nat.lt_of_lt_of_le hk h.size) (fun e => by have := hr k e.symm; omega)).trans (h.block k hk hn)⟩
/-- the fairy piece that grows -/
structure PS (v w : World) (BF : Nat) (nm : List UInt8) (A : Option Addr) (c : Nat) (ats : List At) : Prop where
  box : B2 w BF (.string (bsB nm)) (.slice A ats.length c)
  own : Own1 aEnc 6 v.heap.size 40 w A c ats
  chg : Chg [BF] v w
  lt : BF < v.heap.size
theorem PS.next {v w w' : World} {BF : Nat} {nm : List UInt8} {A : Option Addr} {c : Nat} {ats : List At} (h : PS v w BF nm A c ats) (hb : Below w.heap.size w w') : PS v w' BF nm A c ats :=
  ⟨h.box.next hb, World.ownsRow.kept h.own (grown_of_below hb) (by cases hv : (Value.slice A ats.length c).ownBlock <;> simp), h.chg.trans (Chg.of_below hb), h.lt⟩
theorem PS.push {v w : World} {BF : Nat} {nm : List UInt8} {A : Option Addr} {c : Nat} {ats : List At} (h : PS v w BF nm A c ats) (x : At) {w5 : World} (hb : Below w.heap.size w w5) (hl : ats.length ≤ 400000) :
    ∃ (A5 : Option Addr) (c5 : Nat) (w6 : World), (Builtin.append_ #[23, 23] 23 #[.slice A ats.length c, .slice (some ⟨w5.heap.size, 0, none⟩) 1 1]).run Tryd.prog (w5.alloc (.cells #[.int .i64 x.kind, .int .i64 x.short, .int .i64 x.long, .int .i64 x.most, .int .i64 x.mode, .int .i64 x.way] 40)) = .ok (.slice A5 (ats ++ [x]).length c5) w6 ∧
      B2 w6 BF (.string (bsB nm)) (.slice A ats.length c) ∧ PS v (w6.setCell ⟨BF, 1, none⟩ (.slice A5 (ats ++ [x]).length c5)) BF nm A5 c5 (ats ++ [x]) := by
  have h5 := h.next hb
  have hvw := h5.chg.size
  have hown := World.ownsRow.alloc h5.own (.cells #[.int .i64 x.kind, .int .i64 x.short, .int .i64 x.long, .int .i64 x.most, .int .i64 x.mode, .int .i64 x.way] 40)
  obtain ⟨A5, c5, w6, h1, h2, h3, _⟩ := run_append_recs (P := Tryd.prog) atomRow aEnc_len aEnc_one 23 v.heap.size A c ats hown (some ⟨w5.heap.size, 0, none⟩) 1 [x] (recs_at w5 x _) (by simp; omega) (by rw [World.size_alloc]; omega)
  have hlow : ∀ k, (Value.slice A ats.length c).ownBlock = some k → v.heap.size ≤ k := fun k e => (World.ownsRow.lt hown k e).1
  have hlt := h.lt
  have hba : Below w5.heap.size w5 (w5.alloc (.cells #[.int .i64 x.kind, .int .i64 x.short, .int .i64 x.long, .int .i64 x.most, .int .i64 x.mode, .int .i64 x.way] 40)) := (Below.refl _ _).alloc (Nat.le_refl _) _
  have hbx := (h5.box.next hba).of_block (h3.block BF (by rw [World.size_alloc]; omega) (fun e => by have := hlow BF e.symm; omega)) h3.size
  refine ⟨A5, c5, w6, h1, hbx, hbx.set1 _, ?_, ?_, h.lt⟩
  · refine ownsRow_setCell_other h2 (fun e => ?_) _
    have := (World.ownsRow.lt h2 BF e).1
    omega
  · exact ((h5.chg.trans (Chg.of_below hba)).grown h3 hlow).setCell (by simp) 1 _
theorem PS.done {v w w6 : World} {BF : Nat} {nm : List UInt8} {A A5 : Option Addr} {c c5 : Nat} {ats at2 : List At} (h : PS v w BF nm A c ats) (hown : w6.ownsRow v.heap.size 40 6 (.slice A5 at2.length c5) at2.length (flatR aEnc at2)) (hg : w.grownBy w6 (Value.slice A ats.length c).ownBlock) :
    B2 w6 BF (.string (bsB nm)) (.slice A ats.length c) ∧ Chg [BF] v w6 ∧ PS v (w6.setCell ⟨BF, 1, none⟩ (.slice A5 at2.length c5)) BF nm A5 c5 at2 := by
  have hlow : ∀ k, (Value.slice A ats.length c).ownBlock = some k → v.heap.size ≤ k := fun k e => (World.ownsRow.lt h.own k e).1
  have hlt := h.lt
  have hbx := h.box.of_block (hg.block BF h.box.lt (fun e => by have := hlow BF e.symm; omega)) hg.size
  have hc6 := h.chg.grown hg hlow
  refine ⟨hbx, hc6, hbx.set1 _, ?_, hc6.setCell (by simp) 1 _, h.lt⟩
  refine ownsRow_setCell_other hown (fun e => ?_) _
  have := (World.ownsRow.lt hown BF e).1
  omega
theorem recW {w : World} {B : Nat} {A : Option Addr} {l : List (List UInt8)} (h : RecAt wEnc 1 w B A l) {k : Nat} {x : List UInt8} (hx : l[k]? = some x) : ∃ b off, A = some ⟨b, off, none⟩ ∧ b < B ∧ w.cell? ⟨b, off + k, none⟩ = some (.string (bsB x)) := by
  obtain ⟨b, off, e, hb, hc⟩ := h (by have := (List.getElem?_eq_some_iff.1 hx).1; omega)
  refine ⟨b, off, e, hb, ?_⟩
  have := hc k x hx 0 _ rfl
  simpa using this
theorem splL_len (b : UInt8) (s : List UInt8) : (splL b s).length ≤ s.length + 1 ∧ ∀ x ∈ splL b s, x.length ≤ s.length := by
  have key : ∀ k, ∀ x ∈ (splK b s k).1, x.length ≤ k := by
    intro k
    induction k with
    | zero => intro x hx; exact absurd hx (by simp [splK])
    | succ k ih =>
      intro x hx
      unfold splK at hx
      split at hx
      · rcases List.mem_append.1 hx with hx | hx
        · have := ih x hx; omega
        · have h2 := (splK_len b s k).2
          rw [List.mem_singleton.1 hx]
          omega
      · have := ih x hx; omega
  have hl := splK_len b s s.length
  refine ⟨by unfold splL; rw [List.length_append]; simp; omega, fun x hx => ?_⟩
  unfold splL at hx
  rcases List.mem_append.1 hx with hx | hx
  · exact key _ x hx
  · rw [List.mem_singleton.1 hx]; exact hl.2
theorem pickL_far {x : List UInt8} (h : 8 ≤ x.length) : pickL x = [] := by
  unfold pickL
  rw [List.filter_eq_nil_iff]
  intro a _ hd
  have h1 := of_decide_eq_true hd
  have h2 := atB_len a
  rw [h1] at h2
  omega
theorem allL_len : allL.length ≤ 22680 := al1_le 5
theorem allL_ok : ∀ a ∈ allL, okA a := by
  have h6 : ∀ (k m y L s : Int) (n : Nat), ∀ a ∈ al6 k m y L s n, okA a := by
    intro k m y L s n
    induction n with
    | zero => intro a ha; exact absurd ha (by simp [al6])
    | succ n ih =>
      intro a ha
      unfold al6 at ha
      rcases List.mem_append.1 ha with ha | ha
      · exact ih a ha
      · split at ha
        · rename_i h
          rw [List.mem_singleton.1 ha]
          exact of_decide_eq_true h
        · exact absurd ha (by simp)
  have h5 : ∀ (k m y L : Int) (n : Nat), ∀ a ∈ al5 k m y L n, okA a := by
    intro k m y L n
    induction n with
    | zero => intro a ha; exact absurd ha (by simp [al5])
    | succ n ih =>
      intro a ha
      unfold al5 at ha
      rcases List.mem_append.1 ha with ha | ha
      · exact ih a ha
      · exact h6 _ _ _ _ _ _ a ha
  have h4 : ∀ (k m y : Int) (n : Nat), ∀ a ∈ al4 k m y n, okA a := by
    intro k m y n
    induction n with
    | zero => intro a ha; exact absurd ha (by simp [al4])
    | succ n ih =>
      intro a ha
      unfold al4 at ha
      rcases List.mem_append.1 ha with ha | ha
      · exact ih a ha
      · exact h5 _ _ _ _ _ a ha
  have h3 : ∀ (k m : Int) (n : Nat), ∀ a ∈ al3 k m n, okA a := by
    intro k m n
    induction n with
    | zero => intro a ha; exact absurd ha (by simp [al3])
    | succ n ih =>
      intro a ha
      unfold al3 at ha
      rcases List.mem_append.1 ha with ha | ha
      · exact ih a ha
      · exact h4 _ _ _ _ a ha
  have h2 : ∀ (k : Int) (n : Nat), ∀ a ∈ al2 k n, okA a := by
    intro k n
    induction n with
    | zero => intro a ha; exact absurd ha (by simp [al2])
    | succ n ih =>
      intro a ha
      unfold al2 at ha
      rcases List.mem_append.1 ha with ha | ha
      · exact ih a ha
      · exact h3 _ _ _ a ha
  have h1 : ∀ (n : Nat), ∀ a ∈ al1 n, okA a := by
    intro n
    induction n with
    | zero => intro a ha; exact absurd ha (by simp [al1])
    | succ n ih =>
      intro a ha
      unfold al1 at ha
      rcases List.mem_append.1 ha with ha | ha
      · exact ih a ha
      · exact h2 _ _ a ha
  exact h1 5
theorem pickL_le {x : List UInt8} : (pickL x).length ≤ 1 := by
  by_cases h : pickL x = []
  · rw [h]; simp
  · obtain ⟨a, ha⟩ := List.exists_mem_of_ne_nil _ h
    obtain ⟨h1, h2⟩ := List.mem_filter.1 ha
    have h3 := of_decide_eq_true h2
    have h4 : ∀ b ∈ pickL x, b = a := fun b hb => by
      obtain ⟨e1, e2⟩ := List.mem_filter.1 hb
      exact atB_inj (allL_ok b e1) (allL_ok a h1) ((of_decide_eq_true e2).trans h3.symm)
    have h5 : pickL x = List.replicate (pickL x).length a := List.eq_replicate_of_mem h4
    have h6 : (pickL x).count a ≤ 1 := Nat.le_trans (List.Sublist.count_le a List.filter_sublist) (cnt1 a 5)
    rw [h5, List.count_replicate_self] at h6
    exact h6
theorem pickL_len (x : List UInt8) : (pickL x).length ≤ 1 := pickL_le
theorem resK_len (l : List (List UInt8)) : ∀ (k : Nat) (ats : List At), resK l k = some ats → ats.length ≤ k
  | 0, ats, h => by
    obtain rfl : [] = ats := Option.some.inj h
    exact Nat.zero_le _
  | k + 1, ats, h => by
    unfold resK at h
    split at h
    · cases h
    · rename_i a0 h0
      have ih := resK_len l k a0 h0
      split at h
      · cases h
      · obtain rfl := Option.some.inj h
        have := pickL_len (l.getD k [])
        rw [List.length_append]
        omega
set_option maxRecDepth 100000 in
set_option maxHeartbeats 1000000 in
theorem rparse (s : List UInt8) (w : World) (hs : s.length ≤ 10000) : Calls Tryd.prog 6 #[.string (bsB s)] w fun e w' => PaR (parR s) e w w' := by
  have hsp : Hid (∀ (x : List UInt8) (W : World), x.length ≤ 100000 → Calls Tryd.prog 21 #[.string (bsB x), .int .u8 32] W fun e w' => SpR (splL 32 x) e W w') := fun x W hx => rsplit x 32 W hx
  have hsq : Hid (∀ (x : List UInt8) (W : World), x.length ≤ 100000 → Calls Tryd.prog 21 #[.string (bsB x), .int .u8 43] W fun e w' => SpR (splL 43 x) e W w') := fun x W hx => rsplit x 43 W hx
  have hspl := splL_len 32 s
  have hRV : Hid (parR s = if (splL 32 s).length ≠ 2 then none
  else match resK (splL 43 ((splL 32 s).getD 1 [])) (min (splL 43 ((splL 32 s).getD 1 [])).length 9) with
    | none => none
    | some l => fyO ((splL 32 s).getD 0 []) l) := rfl
  obtain ⟨R, hR⟩ : ∃ R, parR s = R := ⟨_, rfl⟩
  have hsp0 : Hid (∀ W, Calls Tryd.prog 21 #[.string (bsB s), .int .u8 32] W fun e w' => SpR (splL 32 s) e W w') := fun W => hsp.out s W (by omega)
  obtain ⟨WL, hWL⟩ : ∃ WL, splL 32 s = WL := ⟨_, rfl⟩
  rw [hWL] at hsp0 hspl hRV
  rw [hR] at hRV ⊢
  clear hsp hWL hR
  go_enter Tryd.func6, Tryd.ntmps6
  go_upto_region 1 with fail
  have hR0 := Lib.hid (B2.new w (.string ⟨#[]⟩) (.slice none 0 0) 25)
  have hb0 : Hid (Below w.heap.size w (w.alloc (.cells #[.string ⟨#[]⟩, .slice none 0 0] 25))) := (Below.refl _ _).alloc (Nat.le_refl _) _
  obtain ⟨BR, hBR⟩ : ∃ BR, w.heap.size = BR := ⟨_, rfl⟩
  rw [hBR] at hR0
  simp only [hBR]
  have hBRH : Hid (w.heap.size = BR) := hBR
  clear hBR
  generalize w.alloc (.cells #[.string ⟨#[]⟩, .slice none 0 0] 25) = u at *
  go_upto_region 2 with (go_at_call 21; refine (hsp0.out _).mono ?_; rintro e w2 hSp; obtain ⟨A4, c4, rfl, hW⟩ := hSp.out; replace hW := Lib.hid hW; have hb2 := Lib.hid hSp.below; clear hSp)
  replace hR0 := Lib.hid (hR0.out.next hb2.out)
  have hbw2 : Hid (Below w.heap.size w w2) := hb0.out.trans (hb2.out.mono hb0.out.size)
  by_cases hw2l : WL.length = 2
  rotate_left
  · have hRn : Hid (R = none) := by show R = none; rw [hRV.out, if_pos hw2l]
    have q1 : ((WL.length : Int) != 2) = true := by rw [bne_iff_ne]; omega
    clear hw2l hRV hsq
    have hset : Hid (B2 ((w2.setCell ⟨BR, 0, none⟩ (.string ⟨#[]⟩)).setCell ⟨BR, 1, none⟩ (.slice none 0 0)) BR (.string ⟨#[]⟩) (.slice none 0 0)) := (hR0.out.set0 _).set1 _
    have hbz : Hid (Below w.heap.size w ((w2.setCell ⟨BR, 0, none⟩ (.string ⟨#[]⟩)).setCell ⟨BR, 1, none⟩ (.slice none 0 0))) := (hbw2.out.setCell (p := ⟨BR, 0, none⟩) (by show w.heap.size ≤ BR; have := hBRH.out; omega) _).setCell (p := ⟨BR, 1, none⟩) (by show w.heap.size ≤ BR; have := hBRH.out; omega) _
    obtain ⟨r0, r1, rf0, rf1, _⟩ := hR0.out
    go_wp2_with fail
    refine bodyPost_ret (v := .tuple #[.agg #[.string ⟨#[]⟩, .slice none 0 0], .int .i64 6]) ?hres rfl ?hfin
    case hfin => exact ⟨fun _ => rfl, (fun nm l h => by rw [hRn.out] at h; cases h), hbz.out⟩
    case hres =>
      have k0 := hset.out.c0
      have k1 := hset.out.c1
      generalize ((w2.setCell ⟨BR, 0, none⟩ (.string ⟨#[]⟩)).setCell ⟨BR, 1, none⟩ (.slice none 0 0)) = wz at *
      simp [results, Tryd.results6, go_sem, k0, k1]
  have q1 : ((WL.length : Int) != 2) = false := by rw [bne_eq_false_iff_eq]; omega
  obtain ⟨nm, rest, hWe⟩ : ∃ nm rest, WL = [nm, rest] := by
    match WL, hw2l with
    | [x1, x2], _ => exact ⟨x1, x2, rfl⟩
  have hnml : nm.length ≤ s.length := hspl.2 nm (by rw [hWe]; simp)
  have hrl : rest.length ≤ s.length := hspl.2 rest (by rw [hWe]; simp)
  obtain ⟨L, hL⟩ : ∃ L, splL 43 rest = L := ⟨_, rfl⟩
  have hLl : L.length ≤ 10001 := by have := (splL_len 43 rest).1; rw [hL] at this; omega
  have hRV2 : Hid (R = match resK L (min L.length 9) with | none => none | some l => fyO nm l) := by
    show R = _
    rw [hRV.out, if_neg (by omega), hWe, ← hL]; rfl
  have hsq2 : Hid (∀ W, Calls Tryd.prog 21 #[.string (bsB rest), .int .u8 43] W fun e w' => SpR L e W w') := fun W => hL ▸ hsq.out rest W (by omega)
  obtain ⟨g4, rfl, _, _⟩ := O1.form hW.out (by rw [hw2l]; decide)
  obtain ⟨b1, o1, he1, hg4, hc0⟩ := recW (hW.out.recs wEnc_len) (k := 0) (x := nm) (by rw [hWe]; rfl)
  obtain ⟨b2, o2, he2, _, hc1⟩ := recW (hW.out.recs wEnc_len) (k := 1) (x := rest) (by rw [hWe]; rfl)
  cases he1
  cases he2
  rw [Nat.zero_add] at hc0 hc1
  clear hL hRV hsq hspl hWe
  go_upto_region 5 with fail
  have hbA : Hid (Below w2.heap.size w2 (w2.alloc (.cells #[.string (bsB nm), .slice none 0 0] 25))) := (Below.refl _ _).alloc (Nat.le_refl _) _
  have hF0 := Lib.hid (B2.new w2 (.string (bsB nm)) (.slice none 0 0) 25)
  have hs3 : Hid ((w2.alloc (.cells #[.string (bsB nm), .slice none 0 0] 25)).heap.size = w2.heap.size + 1) := by show _ = _; simp
  have hc1b : (w2.alloc (.cells #[.string (bsB nm), .slice none 0 0] 25)).cell? ⟨g4, 1, none⟩ = some (.string (bsB rest)) := (hbA.out.cell (p := ⟨g4, 1, none⟩) hg4).trans hc1
  have hBRlt : Hid (BR < w2.heap.size) := hR0.out.lt
  replace hR0 := Lib.hid (hR0.out.next hbA.out)
  have hbw3 : Hid (Below w.heap.size w (w2.alloc (.cells #[.string (bsB nm), .slice none 0 0] 25))) := hbw2.out.trans (hbA.out.mono hbw2.out.size)
  obtain ⟨BF, hBF⟩ : ∃ BF, w2.heap.size = BF := ⟨_, rfl⟩
  rw [hBF] at hF0 hs3 hBRlt
  simp only [hBF]
  clear hc0 hc1 hbA hBF hbw2
  generalize w2.alloc (.cells #[.string (bsB nm), .slice none 0 0] 25) = w3 at *
  have hF3 := hF0
  go_wp2_with fail
  go_at_call 21
  refine (hsq2.out _).mono ?_
  rintro e w4 hSp
  obtain ⟨A6, c6, rfl, hL4⟩ := hSp.out
  replace hL4 := Lib.hid hL4
  have hb4 := Lib.hid hSp.below
  clear hSp hsq2 hc1b
  go_wp2_with fail
  go_at_call 22
  refine (rall _).mono ?_
  rintro e v hAl
  obtain ⟨A7, c7, rfl, hA7⟩ := hAl.out
  replace hA7 := Lib.hid hA7
  have hb5 := Lib.hid hAl.below
  clear hAl
  have hb35 : Hid (Below w3.heap.size w3 v) := hb4.out.trans (hb5.out.mono hb4.out.size)
  have hbwv : Hid (Below w.heap.size w v) := hbw3.out.trans (hb35.out.mono hbw3.out.size)
  replace hR0 := Lib.hid (hR0.out.next hb35.out)
  replace hF0 := Lib.hid (hF0.out.next hb35.out)
  have hL5 := Lib.hid (hL4.out.next hb5.out)
  obtain ⟨AL, hAL⟩ : ∃ AL, allL = AL := ⟨_, rfl⟩
  have hALl : AL.length ≤ 22680 := hAL ▸ allL_len
  have hpk : Hid (∀ x, pickL x = AL.filter fun a => decide (atB a = x)) := fun x => by rw [← hAL]; rfl
  have hALok : Hid (∀ a ∈ AL, okA a) := hAL ▸ allL_ok
  rw [hAL] at hA7 ⊢
  have hLrow : Hid (∀ (k : Nat) (x : List UInt8), L[k]? = some x → ∃ g, A6 = some ⟨g, 0, none⟩ ∧ ∀ W, Chg [BF] v W → W.cell? ⟨g, k, none⟩ = some (.string (bsB x))) := fun k x hx => by
    have hk := (List.getElem?_eq_some_iff.1 hx).1
    obtain ⟨g, rfl, hg1, hg2⟩ := O1.form hL5.out (by omega)
    obtain ⟨b, o, he, _, hc⟩ := recW (hL5.out.recs wEnc_len) hx
    cases he
    rw [Nat.zero_add] at hc
    refine ⟨g, rfl, fun W hW => (hW.cell (p := ⟨g, k, none⟩) hg2 ?_).trans hc⟩
    have := hs3.out
    simp only [List.mem_cons, List.not_mem_nil, or_false]
    omega
  have hArow : Hid (∀ (k : Nat) (x : At), AL[k]? = some x → ∃ g, A7 = some ⟨g, 0, none⟩ ∧ ∀ W, Chg [BF] v W → atoms6 W g (k * 6) x) := fun k x hx => by
    have hk := (List.getElem?_eq_some_iff.1 hx).1
    obtain ⟨g, rfl, hg1, hg2⟩ := O1.form hA7.out (by omega)
    obtain ⟨b, o, he, _, hc⟩ := atoms6_of (hA7.out.recs aEnc_len) hx
    cases he
    rw [Nat.zero_add] at hc
    refine ⟨g, rfl, fun W hW => ?_⟩
    have hn : g ∉ [BF] := by
      have h1 := hs3.out
      have h2 := hb4.out.size
      simp only [List.mem_cons, List.not_mem_nil, or_false]
      omega
    exact ⟨(hW.cell (p := ⟨g, _, none⟩) hg2 hn).trans hc.e0, (hW.cell (p := ⟨g, _, none⟩) hg2 hn).trans hc.e1, (hW.cell (p := ⟨g, _, none⟩) hg2 hn).trans hc.e2, (hW.cell (p := ⟨g, _, none⟩) hg2 hn).trans hc.e3, (hW.cell (p := ⟨g, _, none⟩) hg2 hn).trans hc.e4, (hW.cell (p := ⟨g, _, none⟩) hg2 hn).trans hc.e5⟩
  have hP0 : Hid (PS v v BF nm none 0 []) := ⟨hF0.out, owns_nil, Chg.refl _ _, hF0.out.lt⟩
  have hRF : Hid (BR ≠ BF) := by have := hBRlt.out; show BR ≠ BF; omega
  have hfree : Hid (∀ W, Chg [BF] v W → B2 W BR (.string ⟨#[]⟩) (.slice none 0 0) ∧ Below w.heap.size w W) := fun W hW => by
    have h1 := hbwv.out.size
    have h2 := hBRH.out
    have h3 := hBRlt.out
    exact ⟨hR0.out.chg hW (by simp only [List.mem_cons, List.not_mem_nil, or_false]; exact hRF.out), hbwv.out.trans (hW.below h1 (by intro b hb; simp only [List.mem_cons, List.not_mem_nil, or_false] at hb; omega))⟩
  clear hL4 hL5 hA7 hF0 hF3 hR0 hbw3 hb35 hbwv hb4 hb5 hAL
  go_wp2_with fail
  go_loopw [8] (fun s8 wr => ∃ (k : Nat) (ats : List At) (A : Option Addr) (c : Nat), k ≤ L.length ∧ k ≤ 9 ∧ s8 = .int .i64 (k : Int) ∧ Hid (resK L k = some ats) ∧ Hid (PS v wr BF nm A c ats)) (fun s8 _ => 10 - (intOf s8).toNat)
  case atStart => exact ⟨0, [], none, 0, by omega, by omega, rfl, rfl, hP0⟩
  case round =>
    clear hP0
    obtain ⟨k, ats, A, c, hkL, hk9, rfl, hrs, hPS⟩ := hrel
    have hk0 : (0 : Int) ≤ (k : Int) := Int.natCast_nonneg _
    have hal := resK_len L k ats hrs.out
    by_cases hgo : k < L.length ∧ k < 9
    rotate_left
    · have hfinR : Hid (R = fyO nm ats) := by
        have h1 : min L.length 9 = k := by omega
        show R = _
        rw [hRV2.out, h1, hrs.out]
      have hV := Lib.hid (rvalid (bsB nm) A ats c wr (RecAt.of_own aEnc_len rfl hPS.out.own) (by have : k ≤ 9 := hk9; omega) (by rw [bs_size]; unfold maxLen; omega))
      obtain ⟨p0, p1, pf0, pf1, _⟩ := hPS.out.box
      by_cases hkl : k < L.length
      · have q2 : ((k : Int) < (L.length : Int)) = True := eq_true (by omega)
        have q3 : ((k : Int) < 9) = False := eq_false (by omega)
        by_cases hok : okFy (bsB nm) ats
        rotate_left
        · rw [fyB_no hok] at hV
          have hRn : Hid (R = none) := hfinR.out.trans (if_neg hok)
          clear hok hfinR
          go_upto_region 19 with (go_at_call 24; refine hV.out.mono ?_; rintro e w8 ⟨rfl, hb8⟩; replace hb8 := Lib.hid hb8)
          have hPS8 := Lib.hid (hPS.out.next hb8.out)
          have hRb : Hid (B2 w8 BR (.string ⟨#[]⟩) (.slice none 0 0)) := (hfree.out w8 hPS8.out.chg).1
          have hbb : Hid (Below w.heap.size w w8) := (hfree.out w8 hPS8.out.chg).2
          clear hV hPS hb8 p0 p1 pf0 pf1
          have hset : Hid (B2 ((w8.setCell ⟨BR, 0, none⟩ (.string ⟨#[]⟩)).setCell ⟨BR, 1, none⟩ (.slice none 0 0)) BR (.string ⟨#[]⟩) (.slice none 0 0)) := (hRb.out.set0 _).set1 _
          have hbz : Hid (Below w.heap.size w ((w8.setCell ⟨BR, 0, none⟩ (.string ⟨#[]⟩)).setCell ⟨BR, 1, none⟩ (.slice none 0 0))) := (hbb.out.setCell (p := ⟨BR, 0, none⟩) (by show w.heap.size ≤ BR; have := hBRH.out; omega) _).setCell (p := ⟨BR, 1, none⟩) (by show w.heap.size ≤ BR; have := hBRH.out; omega) _
          obtain ⟨r0, r1, rf0, rf1, _⟩ := hRb.out
          go_wp2_with fail
          refine bodyPost_ret (v := .tuple #[.agg #[.string ⟨#[]⟩, .slice none 0 0], .int .i64 6]) ?hres rfl ?hfin
          case hfin => exact ⟨fun _ => rfl, (fun nm l h => by rw [hRn.out] at h; cases h), hbz.out⟩
          case hres =>
            have k0 := hset.out.c0
            have k1 := hset.out.c1
            generalize ((w8.setCell ⟨BR, 0, none⟩ (.string ⟨#[]⟩)).setCell ⟨BR, 1, none⟩ (.slice none 0 0)) = wz at *
            simp [results, Tryd.results6, go_sem, k0, k1]
        rw [fyB_yes hok] at hV
        have hRy : Hid (R = some (nm, ats)) := hfinR.out.trans (if_pos hok)
        clear hok hfinR
        go_upto_region 20 with (go_at_call 24; refine hV.out.mono ?_; rintro e w8 ⟨rfl, hb8⟩; replace hb8 := Lib.hid hb8)
        have hPS8 := Lib.hid (hPS.out.next hb8.out)
        have hRb : Hid (B2 w8 BR (.string ⟨#[]⟩) (.slice none 0 0)) := (hfree.out w8 hPS8.out.chg).1
        have hbb : Hid (Below w.heap.size w w8) := (hfree.out w8 hPS8.out.chg).2
        clear hV hPS hb8 p0 p1 pf0 pf1
        obtain ⟨p0, p1, pf0, pf1, _⟩ := hPS8.out.box
        have hset : Hid (B2 ((w8.setCell ⟨BR, 0, none⟩ (.string (bsB nm))).setCell ⟨BR, 1, none⟩ (.slice A ats.length c)) BR (.string (bsB nm)) (.slice A ats.length c)) := (hRb.out.set0 _).set1 _
        have hbz : Hid (Below w.heap.size w ((w8.setCell ⟨BR, 0, none⟩ (.string (bsB nm))).setCell ⟨BR, 1, none⟩ (.slice A ats.length c))) := (hbb.out.setCell (p := ⟨BR, 0, none⟩) (by show w.heap.size ≤ BR; have := hBRH.out; omega) _).setCell (p := ⟨BR, 1, none⟩) (by show w.heap.size ≤ BR; have := hBRH.out; omega) _
        have hrc : Hid (RecAt aEnc 6 ((w8.setCell ⟨BR, 0, none⟩ (.string (bsB nm))).setCell ⟨BR, 1, none⟩ (.slice A ats.length c)) ((w8.setCell ⟨BR, 0, none⟩ (.string (bsB nm))).setCell ⟨BR, 1, none⟩ (.slice A ats.length c)).heap.size A ats) := by
          have hne : ∀ x, (Value.slice A ats.length c).ownBlock ≠ some (⟨BR, x, none⟩ : Addr).block := fun x e => by
            have h1 := (World.ownsRow.lt hPS8.out.own BR e).1
            have h2 := hBRlt.out
            have h3 := hPS8.out.lt
            omega
          exact RecAt.of_own aEnc_len rfl (ownsRow_setCell_other (ownsRow_setCell_other hPS8.out.own (hne 0) _) (hne 1) _)
        obtain ⟨r0, r1, rf0, rf1, _⟩ := hRb.out
        go_wp2_with fail
        refine bodyPost_ret (v := .tuple #[.agg #[.string (bsB nm), .slice A ats.length c], .int .i64 0]) ?hres rfl ?hfin
        case hfin => exact ⟨(fun h => by rw [hRy.out] at h; cases h), (fun nm2 l2 h => by rw [hRy.out] at h; cases h; exact ⟨A, c, rfl, hrc.out⟩), hbz.out⟩
        case hres =>
          have k0 := hset.out.c0
          have k1 := hset.out.c1
          generalize ((w8.setCell ⟨BR, 0, none⟩ (.string (bsB nm))).setCell ⟨BR, 1, none⟩ (.slice A ats.length c)) = wz at *
          simp [results, Tryd.results6, go_sem, k0, k1]
      · have q2 : ((k : Int) < (L.length : Int)) = False := eq_false (by omega)
        by_cases hok : okFy (bsB nm) ats
        rotate_left
        · rw [fyB_no hok] at hV
          have hRn : Hid (R = none) := hfinR.out.trans (if_neg hok)
          clear hok hfinR
          go_upto_region 19 with (go_at_call 24; refine hV.out.mono ?_; rintro e w8 ⟨rfl, hb8⟩; replace hb8 := Lib.hid hb8)
          have hPS8 := Lib.hid (hPS.out.next hb8.out)
          have hRb : Hid (B2 w8 BR (.string ⟨#[]⟩) (.slice none 0 0)) := (hfree.out w8 hPS8.out.chg).1
          have hbb : Hid (Below w.heap.size w w8) := (hfree.out w8 hPS8.out.chg).2
          clear hV hPS hb8 p0 p1 pf0 pf1
          have hset : Hid (B2 ((w8.setCell ⟨BR, 0, none⟩ (.string ⟨#[]⟩)).setCell ⟨BR, 1, none⟩ (.slice none 0 0)) BR (.string ⟨#[]⟩) (.slice none 0 0)) := (hRb.out.set0 _).set1 _
          have hbz : Hid (Below w.heap.size w ((w8.setCell ⟨BR, 0, none⟩ (.string ⟨#[]⟩)).setCell ⟨BR, 1, none⟩ (.slice none 0 0))) := (hbb.out.setCell (p := ⟨BR, 0, none⟩) (by show w.heap.size ≤ BR; have := hBRH.out; omega) _).setCell (p := ⟨BR, 1, none⟩) (by show w.heap.size ≤ BR; have := hBRH.out; omega) _
          obtain ⟨r0, r1, rf0, rf1, _⟩ := hRb.out
          go_wp2_with fail
          refine bodyPost_ret (v := .tuple #[.agg #[.string ⟨#[]⟩, .slice none 0 0], .int .i64 6]) ?hres rfl ?hfin
          case hfin => exact ⟨fun _ => rfl, (fun nm l h => by rw [hRn.out] at h; cases h), hbz.out⟩
          case hres =>
            have k0 := hset.out.c0
            have k1 := hset.out.c1
            generalize ((w8.setCell ⟨BR, 0, none⟩ (.string ⟨#[]⟩)).setCell ⟨BR, 1, none⟩ (.slice none 0 0)) = wz at *
            simp [results, Tryd.results6, go_sem, k0, k1]
        rw [fyB_yes hok] at hV
        have hRy : Hid (R = some (nm, ats)) := hfinR.out.trans (if_pos hok)
        clear hok hfinR
        go_upto_region 20 with (go_at_call 24; refine hV.out.mono ?_; rintro e w8 ⟨rfl, hb8⟩; replace hb8 := Lib.hid hb8)
        have hPS8 := Lib.hid (hPS.out.next hb8.out)
        have hRb : Hid (B2 w8 BR (.string ⟨#[]⟩) (.slice none 0 0)) := (hfree.out w8 hPS8.out.chg).1
        have hbb : Hid (Below w.heap.size w w8) := (hfree.out w8 hPS8.out.chg).2
        clear hV hPS hb8 p0 p1 pf0 pf1
        obtain ⟨p0, p1, pf0, pf1, _⟩ := hPS8.out.box
        have hset : Hid (B2 ((w8.setCell ⟨BR, 0, none⟩ (.string (bsB nm))).setCell ⟨BR, 1, none⟩ (.slice A ats.length c)) BR (.string (bsB nm)) (.slice A ats.length c)) := (hRb.out.set0 _).set1 _
        have hbz : Hid (Below w.heap.size w ((w8.setCell ⟨BR, 0, none⟩ (.string (bsB nm))).setCell ⟨BR, 1, none⟩ (.slice A ats.length c))) := (hbb.out.setCell (p := ⟨BR, 0, none⟩) (by show w.heap.size ≤ BR; have := hBRH.out; omega) _).setCell (p := ⟨BR, 1, none⟩) (by show w.heap.size ≤ BR; have := hBRH.out; omega) _
        have hrc : Hid (RecAt aEnc 6 ((w8.setCell ⟨BR, 0, none⟩ (.string (bsB nm))).setCell ⟨BR, 1, none⟩ (.slice A ats.length c)) ((w8.setCell ⟨BR, 0, none⟩ (.string (bsB nm))).setCell ⟨BR, 1, none⟩ (.slice A ats.length c)).heap.size A ats) := by
          have hne : ∀ x, (Value.slice A ats.length c).ownBlock ≠ some (⟨BR, x, none⟩ : Addr).block := fun x e => by
            have h1 := (World.ownsRow.lt hPS8.out.own BR e).1
            have h2 := hBRlt.out
            have h3 := hPS8.out.lt
            omega
          exact RecAt.of_own aEnc_len rfl (ownsRow_setCell_other (ownsRow_setCell_other hPS8.out.own (hne 0) _) (hne 1) _)
        obtain ⟨r0, r1, rf0, rf1, _⟩ := hRb.out
        go_wp2_with fail
        refine bodyPost_ret (v := .tuple #[.agg #[.string (bsB nm), .slice A ats.length c], .int .i64 0]) ?hres rfl ?hfin
        case hfin => exact ⟨(fun h => by rw [hRy.out] at h; cases h), (fun nm2 l2 h => by rw [hRy.out] at h; cases h; exact ⟨A, c, rfl, hrc.out⟩), hbz.out⟩
        case hres =>
          have k0 := hset.out.c0
          have k1 := hset.out.c1
          generalize ((w8.setCell ⟨BR, 0, none⟩ (.string (bsB nm))).setCell ⟨BR, 1, none⟩ (.slice A ats.length c)) = wz at *
          simp [results, Tryd.results6, go_sem, k0, k1]
    obtain ⟨hkl, hk8⟩ := hgo
    have q2 : ((k : Int) < (L.length : Int)) = True := eq_true (by omega)
    have q3 : ((k : Int) < 9) = True := eq_true (by omega)
    have hkI : (k : Int) < (L.length : Int) := by omega
    obtain ⟨wd, hwd⟩ : ∃ wd, L[k]? = some wd := ⟨_, List.getElem?_eq_getElem hkl⟩
    obtain ⟨g6, rfl, hcw0⟩ := hLrow.out k wd hwd
    have hcw := Lib.hid hcw0
    have hnext : Hid (resK L (k + 1) = if pickL wd = [] then none else some (ats ++ pickL wd)) := by
      have h1 : L.getD k [] = wd := by rw [List.getD_eq_getElem?_getD, hwd]; rfl
      show (match resK L k with | none => none | some a0 => if pickL (L.getD k []) = [] then none else some (a0 ++ pickL (L.getD k []))) = _
      rw [hrs.out, h1]
    have hbsz := bs_size wd
    clear hwd hcw0
    go_wp2_with fail
    go_loopw [9, 10] (fun s9 s10 wr => ∃ (j : Nat) (pk : List At) (fnd : Bool) (A : Option Addr) (c : Nat), j ≤ AL.length ∧ s10 = .int .i64 (j : Int) ∧ s9 = .bool fnd ∧ Hid (fnd = decide (pk ≠ [])) ∧ Hid (pk = (AL.take j).filter fun a => decide (atB a = wd)) ∧ Hid (PS v wr BF nm A c (ats ++ pk))) (fun _ s10 _ => AL.length - (intOf s10).toNat)
    case atStart => exact ⟨0, [], false, A, c, by omega, rfl, rfl, rfl, rfl, by show PS _ _ _ _ _ _ (ats ++ []); rw [List.append_nil]; exact hPS.out⟩
    case round =>
      clear hPS
      obtain ⟨j, pk, fnd, A, c, hj, rfl, rfl, hfd, hpkj, hPS⟩ := hrel
      have hj0 : (0 : Int) ≤ (j : Int) := Int.natCast_nonneg _
      have cw := hcw.out wr hPS.out.chg
      by_cases hend : j < AL.length ∧ wd.length < 8
      rotate_left
      · have hpe : Hid (pk = pickL wd) := by
          show pk = pickL wd
          by_cases h1 : j < AL.length
          · have h8 : 8 ≤ wd.length := by omega
            rw [pickL_far h8, hpkj.out, List.filter_eq_nil_iff]
            intro a _ hd
            have e1 := of_decide_eq_true hd
            have e2 := atB_len a
            rw [e1] at e2
            omega
          · have h2 : j = AL.length := by omega
            rw [hpkj.out, h2, List.take_length, hpk.out]
        by_cases hjl : j < AL.length
        · have q4 : ((j : Int) < (AL.length : Int)) = True := eq_true (by omega)
          have q5 : ((wd.length : Int) < 8) = False := eq_false (by omega)
          clear hend
          cases fnd
          · have hRn : Hid (R = none) := by
              have h1 : pk = [] := by
                have h2 := of_decide_eq_false hfd.out.symm
                exact Classical.byContradiction fun h => h2 h
              have h3 := hnext.out
              rw [if_pos (hpe.out.symm.trans h1)] at h3
              show R = none
              rw [hRV2.out, resK_no h3 (min L.length 9) (by omega)]
            have hRb : Hid (B2 wr BR (.string ⟨#[]⟩) (.slice none 0 0)) := (hfree.out wr hPS.out.chg).1
            have hbb : Hid (Below w.heap.size w wr) := (hfree.out wr hPS.out.chg).2
            clear hfd hpkj hPS hpe
            have hset : Hid (B2 ((wr.setCell ⟨BR, 0, none⟩ (.string ⟨#[]⟩)).setCell ⟨BR, 1, none⟩ (.slice none 0 0)) BR (.string ⟨#[]⟩) (.slice none 0 0)) := (hRb.out.set0 _).set1 _
            have hbz : Hid (Below w.heap.size w ((wr.setCell ⟨BR, 0, none⟩ (.string ⟨#[]⟩)).setCell ⟨BR, 1, none⟩ (.slice none 0 0))) := (hbb.out.setCell (p := ⟨BR, 0, none⟩) (by show w.heap.size ≤ BR; have := hBRH.out; omega) _).setCell (p := ⟨BR, 1, none⟩) (by show w.heap.size ≤ BR; have := hBRH.out; omega) _
            obtain ⟨r0, r1, rf0, rf1, _⟩ := hRb.out
            go_wp2_with fail
            refine bodyPost_ret (v := .tuple #[.agg #[.string ⟨#[]⟩, .slice none 0 0], .int .i64 6]) ?hres rfl ?hfin
            case hfin => exact ⟨fun _ => rfl, (fun nm l h => by rw [hRn.out] at h; cases h), hbz.out⟩
            case hres =>
              have k0 := hset.out.c0
              have k1 := hset.out.c1
              generalize ((wr.setCell ⟨BR, 0, none⟩ (.string ⟨#[]⟩)).setCell ⟨BR, 1, none⟩ (.slice none 0 0)) = wz at *
              simp [results, Tryd.results6, go_sem, k0, k1]
          · have hrs2 : Hid (resK L (k + 1) = some (ats ++ pk)) := by
              have h2 : pk ≠ [] := of_decide_eq_true hfd.out.symm
              show resK L (k + 1) = some (ats ++ pk)
              rw [hnext.out, if_neg (fun h => h2 (hpe.out.trans h)), hpe.out]
            clear hfd hpkj hpe
            go_wp2_with fail
            go_roundw
            case rel => exact ⟨k + 1, ats ++ pk, A, c, by omega, by omega, by go_num, hrs2, hPS⟩
            case measure => simp [intOf]; omega
        · have q4 : ((j : Int) < (AL.length : Int)) = False := eq_false (by omega)
          clear hend
          cases fnd
          · have hRn : Hid (R = none) := by
              have h1 : pk = [] := by
                have h2 := of_decide_eq_false hfd.out.symm
                exact Classical.byContradiction fun h => h2 h
              have h3 := hnext.out
              rw [if_pos (hpe.out.symm.trans h1)] at h3
              show R = none
              rw [hRV2.out, resK_no h3 (min L.length 9) (by omega)]
            have hRb : Hid (B2 wr BR (.string ⟨#[]⟩) (.slice none 0 0)) := (hfree.out wr hPS.out.chg).1
            have hbb : Hid (Below w.heap.size w wr) := (hfree.out wr hPS.out.chg).2
            clear hfd hpkj hPS hpe
            have hset : Hid (B2 ((wr.setCell ⟨BR, 0, none⟩ (.string ⟨#[]⟩)).setCell ⟨BR, 1, none⟩ (.slice none 0 0)) BR (.string ⟨#[]⟩) (.slice none 0 0)) := (hRb.out.set0 _).set1 _
            have hbz : Hid (Below w.heap.size w ((wr.setCell ⟨BR, 0, none⟩ (.string ⟨#[]⟩)).setCell ⟨BR, 1, none⟩ (.slice none 0 0))) := (hbb.out.setCell (p := ⟨BR, 0, none⟩) (by show w.heap.size ≤ BR; have := hBRH.out; omega) _).setCell (p := ⟨BR, 1, none⟩) (by show w.heap.size ≤ BR; have := hBRH.out; omega) _
            obtain ⟨r0, r1, rf0, rf1, _⟩ := hRb.out
            go_wp2_with fail
            refine bodyPost_ret (v := .tuple #[.agg #[.string ⟨#[]⟩, .slice none 0 0], .int .i64 6]) ?hres rfl ?hfin
            case hfin => exact ⟨fun _ => rfl, (fun nm l h => by rw [hRn.out] at h; cases h), hbz.out⟩
            case hres =>
              have k0 := hset.out.c0
              have k1 := hset.out.c1
              generalize ((wr.setCell ⟨BR, 0, none⟩ (.string ⟨#[]⟩)).setCell ⟨BR, 1, none⟩ (.slice none 0 0)) = wz at *
              simp [results, Tryd.results6, go_sem, k0, k1]
          · have hrs2 : Hid (resK L (k + 1) = some (ats ++ pk)) := by
              have h2 : pk ≠ [] := of_decide_eq_true hfd.out.symm
              show resK L (k + 1) = some (ats ++ pk)
              rw [hnext.out, if_neg (fun h => h2 (hpe.out.trans h)), hpe.out]
            clear hfd hpkj hpe
            go_wp2_with fail
            go_roundw
            case rel => exact ⟨k + 1, ats ++ pk, A, c, by omega, by omega, by go_num, hrs2, hPS⟩
            case measure => simp [intOf]; omega
      obtain ⟨hjl, hw8⟩ := hend
      have q4 : ((j : Int) < (AL.length : Int)) = True := eq_true (by omega)
      have q5 : ((wd.length : Int) < 8) = True := eq_true (by omega)
      have hjI : (j : Int) < (AL.length : Int) := by omega
      obtain ⟨a, ha⟩ : ∃ a, AL[j]? = some a := ⟨_, List.getElem?_eq_getElem hjl⟩
      obtain ⟨g7, rfl, hca0⟩ := hArow.out j a ha
      have hca := Lib.hid hca0
      have hrat : Hid (∀ W, Calls Tryd.prog 23 #[aV a] W fun e w' => e = .returned (.string (bsB (atB a))) ∧ Below W.heap.size W w') := fun W => ratom a W (hALok.out a (List.mem_of_getElem? ha))
      have htk : Hid ((AL.take (j + 1)).filter (fun a => decide (atB a = wd)) = pk ++ (if atB a = wd then [a] else [])) := by
        show _ = _
        rw [take_step ha, List.filter_append, ← hpkj.out]
        by_cases h : atB a = wd
        · rw [if_pos h]; simp [h]
        · rw [if_neg h]; simp [h]
      clear ha hca0
      obtain ⟨ax, hax⟩ : ∃ ax, atB a = ax := ⟨_, rfl⟩
      rw [hax] at hrat htk
      obtain ⟨eq9, heq9⟩ : ∃ eq9, decide (ax = wd) = eq9 := ⟨_, rfl⟩
      have hq9 : ((bsB ax).toList == (bsB wd).toList) = eq9 := by rw [eqb_bs, heq9]
      have heqH := Lib.hid heq9
      clear hax heq9
      go_upto_region 13 with fail
      have hS : Hid (∀ W, Below wr.heap.size wr W → W.cell? ⟨g7, j * 6, none⟩ = some (.int .i64 a.kind) ∧ W.cell? ⟨g7, j * 6 + 1, none⟩ = some (.int .i64 a.short) ∧ W.cell? ⟨g7, j * 6 + 2, none⟩ = some (.int .i64 a.long) ∧ W.cell? ⟨g7, j * 6 + 3, none⟩ = some (.int .i64 a.most) ∧ W.cell? ⟨g7, j * 6 + 4, none⟩ = some (.int .i64 a.mode) ∧ W.cell? ⟨g7, j * 6 + 5, none⟩ = some (.int .i64 a.way) ∧ W.cell? ⟨g6, k, none⟩ = some (.string (bsB wd))) := fun W hh => by
        have hc := hPS.out.chg.trans (Chg.of_below hh)
        have h6 := hca.out W hc
        exact ⟨h6.e0, h6.e1, h6.e2, h6.e3, h6.e4, h6.e5, hcw.out W hc⟩
      clear cw
      refine wp_region_held_drew (S := fun W => W.cell? ⟨g7, j * 6, none⟩ = some (.int .i64 a.kind) ∧ W.cell? ⟨g7, j * 6 + 1, none⟩ = some (.int .i64 a.short) ∧ W.cell? ⟨g7, j * 6 + 2, none⟩ = some (.int .i64 a.long) ∧ W.cell? ⟨g7, j * 6 + 3, none⟩ = some (.int .i64 a.most) ∧ W.cell? ⟨g7, j * 6 + 4, none⟩ = some (.int .i64 a.mode) ∧ W.cell? ⟨g7, j * 6 + 5, none⟩ = some (.int .i64 a.way) ∧ W.cell? ⟨g6, k, none⟩ = some (.string (bsB wd))) (by kernel_rfl) (hS.out _ ((Below.refl _ _).drew)) (fun hHeld => ?_)
      refine wpAnyH_take (i := 0) (v := ?_) rfl (by kernel_rfl) (by kernel_rfl) (by kernel_rfl) (fun _ _ _ h => h) (Or.inl ⟨by rfl, ?_⟩) hHeld ?_
      rotate_left
      · intro W9 hSw; (try dsimp only at hSw); go_simp; (try with_reducible rfl)
      simp only [Act.put, List.getElem_toArray, List.getElem_cons_zero, List.getElem_cons_succ, List.setIfInBounds_toArray, List.set_cons_zero, List.set_cons_succ]
      refine wpAnyH_take (i := 1) (v := ?_) rfl (by kernel_rfl) (by kernel_rfl) (by kernel_rfl) (fun _ _ _ h => h) (Or.inl ⟨by rfl, ?_⟩) hHeld ?_
      rotate_left
      · intro W9 hSw; (try dsimp only at hSw); go_simp; (try with_reducible rfl)
      simp only [Act.put, List.getElem_toArray, List.getElem_cons_zero, List.getElem_cons_succ, List.setIfInBounds_toArray, List.set_cons_zero, List.set_cons_succ]
      refine wpAnyH_take (i := 2) (v := ?_) rfl (by kernel_rfl) (by kernel_rfl) (by kernel_rfl) (fun _ _ _ h => h) (Or.inl ⟨by rfl, ?_⟩) hHeld ?_
      rotate_left
      · intro W9 hSw; (try dsimp only at hSw); go_simp; (try with_reducible rfl)
      simp only [Act.put, List.getElem_toArray, List.getElem_cons_zero, List.getElem_cons_succ, List.setIfInBounds_toArray, List.set_cons_zero, List.set_cons_succ]
      refine wpAnyH_take (i := 3) (v := ?_) rfl (by kernel_rfl) (by kernel_rfl) (by kernel_rfl) (fun _ _ _ h => h) (Or.inl ⟨by rfl, ?_⟩) hHeld ?_
      rotate_left
      · intro W9 hSw; (try dsimp only at hSw); go_simp; (try with_reducible rfl)
      simp only [Act.put, List.getElem_toArray, List.getElem_cons_zero, List.getElem_cons_succ, List.setIfInBounds_toArray, List.set_cons_zero, List.set_cons_succ]
      refine wpAnyH_take (i := 5) (v := ?_) rfl (by kernel_rfl) (by kernel_rfl) (by kernel_rfl) (fun _ _ _ h => h) (Or.inl ⟨by rfl, ?_⟩) hHeld ?_
      rotate_left
      · intro W9 hSw; (try dsimp only at hSw); go_simp; (try with_reducible rfl)
      simp only [Act.put, List.getElem_toArray, List.getElem_cons_zero, List.getElem_cons_succ, List.setIfInBounds_toArray, List.set_cons_zero, List.set_cons_succ]
      refine wpAnyH_take (i := 6) (v := ?_) rfl (by kernel_rfl) (by kernel_rfl) (by kernel_rfl) (fun _ _ _ h => h) (Or.inl ⟨by rfl, ?_⟩) hHeld ?_
      rotate_left
      · intro W9 hSw; (try dsimp only at hSw); go_simp; (try with_reducible rfl)
      simp only [Act.put, List.getElem_toArray, List.getElem_cons_zero, List.getElem_cons_succ, List.setIfInBounds_toArray, List.set_cons_zero, List.set_cons_succ]
      refine wpAnyH_take (i := 7) (v := ?_) rfl (by kernel_rfl) (by kernel_rfl) (by kernel_rfl) (fun _ _ _ h => h) (Or.inl ⟨by rfl, ?_⟩) hHeld ?_
      rotate_left
      · intro W9 hSw; (try dsimp only at hSw); go_simp; (try with_reducible rfl)
      simp only [Act.put, List.getElem_toArray, List.getElem_cons_zero, List.getElem_cons_succ, List.setIfInBounds_toArray, List.set_cons_zero, List.set_cons_succ]
      refine wpAnyH_take (i := 8) (v := ?_) rfl (by kernel_rfl) (by kernel_rfl) (by kernel_rfl) (fun _ _ _ h => h) (Or.inl ⟨by rfl, ?_⟩) hHeld ?_
      rotate_left
      · intro W9 hSw; (try dsimp only at hSw); go_simp; (try with_reducible rfl)
      simp only [Act.put, List.getElem_toArray, List.getElem_cons_zero, List.getElem_cons_succ, List.setIfInBounds_toArray, List.set_cons_zero, List.set_cons_succ]
      refine wpAnyH_ready (rs := [4]) (by kernel_rfl) (by simp) ?_
      refine AllReadyH.cons rfl (fun K hK => ?_) AllReadyH.nil
      go_simp
      go_at_call 23
      refine (hrat.out _).mono ?_
      rintro e w9 ⟨rfl, hb⟩
      have hb9 := Lib.hid (undrew hb)
      clear hb
      refine hK.out _ _ (hS.out _ hb9.out) (fun hHeld2 => ?_)
      clear hK K hHeld
      have hHeld := hHeld2
      clear hHeld2
      refine wpAnyH_take (i := 9) (v := ?_) rfl (by kernel_rfl) (by kernel_rfl) (by kernel_rfl) (fun _ _ _ h => h) (Or.inl ⟨by rfl, ?_⟩) hHeld ?_
      rotate_left
      · intro W9 hSw; (try dsimp only at hSw); go_simp; (try with_reducible rfl)
      simp only [Act.put, List.getElem_toArray, List.getElem_cons_zero, List.getElem_cons_succ, List.setIfInBounds_toArray, List.set_cons_zero, List.set_cons_succ]
      refine wpAnyH_done (by kernel_rfl) ?_ _
      clear hHeld hS hrat hq9
      have hPS9 := Lib.hid (hPS.out.next hb9.out)
      clear hPS hb9
      cases eq9
      · have htk2 : Hid (pk = (AL.take (j + 1)).filter fun a => decide (atB a = wd)) := by
          show pk = _
          rw [htk.out, if_neg (of_decide_eq_false heqH.out), List.append_nil]
        clear htk heqH
        go_wp2_with fail
        go_roundw
        case rel => exact ⟨j + 1, pk, fnd, A, c, by omega, by go_num, rfl, hfd, htk2, hPS9⟩
        case measure => simp [intOf]; omega
      · have htk2 : Hid (pk ++ [a] = (AL.take (j + 1)).filter fun a => decide (atB a = wd)) := by
          show pk ++ [a] = _
          rw [htk.out, if_pos (of_decide_eq_true heqH.out)]
        have hpl : (ats ++ pk).length ≤ 400000 := by
          have h1 : pk.length ≤ 22680 := by
            rw [hpkj.out]
            refine Nat.le_trans (List.length_filter_le _ _) ?_
            rw [List.length_take]
            omega
          rw [List.length_append]
          omega
        have hfd2 : Hid (true = decide (pk ++ [a] ≠ [])) := by
          show true = _
          rw [decide_eq_true (by simp)]
        have hpp0 : ats ++ pk ++ [a] = ats ++ (pk ++ [a]) := List.append_assoc _ _ _
        clear htk heqH hfd
        generalize hEL : ats ++ pk = EL at *
        obtain ⟨EN, hEN⟩ : ∃ EN, EL ++ [a] = EN := ⟨_, rfl⟩
        have hENH := Lib.hid hEN
        have hpp : Hid (EN = ats ++ (pk ++ [a])) := hEN.symm.trans hpp0
        clear hEN hpp0 hEL
        have hSa : Hid (∀ W, Chg [BF] v W → W.cell? ⟨g7, j * 6, none⟩ = some (.int .i64 a.kind) ∧ W.cell? ⟨g7, j * 6 + 1, none⟩ = some (.int .i64 a.short) ∧ W.cell? ⟨g7, j * 6 + 2, none⟩ = some (.int .i64 a.long) ∧ W.cell? ⟨g7, j * 6 + 3, none⟩ = some (.int .i64 a.most) ∧ W.cell? ⟨g7, j * 6 + 4, none⟩ = some (.int .i64 a.mode) ∧ W.cell? ⟨g7, j * 6 + 5, none⟩ = some (.int .i64 a.way)) := fun W hc => by
          have h6 := hca.out W hc
          exact ⟨h6.e0, h6.e1, h6.e2, h6.e3, h6.e4, h6.e5⟩
        have hPSr : Hid (PS v w9.drew BF nm A c EL) := hPS9.out.next ((Below.refl _ _).drew)
        have hPSd : Hid (PS v (w9.alloc (.cells #[.int .i64 a.kind, .int .i64 a.short, .int .i64 a.long, .int .i64 a.most, .int .i64 a.mode, .int .i64 a.way] 40)).drew BF nm A c EL) := hPS9.out.next (((Below.refl _ _).alloc (Nat.le_refl _) _).drew)
        go_upto_region 14 with fail
        refine wp_region_held_drew (S := fun W => W.cell? ⟨g7, j * 6, none⟩ = some (.int .i64 a.kind) ∧ W.cell? ⟨g7, j * 6 + 1, none⟩ = some (.int .i64 a.short) ∧ W.cell? ⟨g7, j * 6 + 2, none⟩ = some (.int .i64 a.long) ∧ W.cell? ⟨g7, j * 6 + 3, none⟩ = some (.int .i64 a.most) ∧ W.cell? ⟨g7, j * 6 + 4, none⟩ = some (.int .i64 a.mode) ∧ W.cell? ⟨g7, j * 6 + 5, none⟩ = some (.int .i64 a.way)) (by kernel_rfl) (hSa.out _ hPSr.out.chg) (fun hHeld => ?_)
        refine wpAnyH_take (i := 2) (v := ?_) rfl (by kernel_rfl) (by kernel_rfl) (by kernel_rfl) (fun _ _ _ h => h) (Or.inl ⟨by rfl, ?_⟩) hHeld ?_
        rotate_left
        · intro W9 hSw; (try dsimp only at hSw); go_simp; (try with_reducible rfl)
        simp only [Act.put, List.getElem_toArray, List.getElem_cons_zero, List.getElem_cons_succ, List.setIfInBounds_toArray, List.set_cons_zero, List.set_cons_succ]
        refine wpAnyH_take (i := 3) (v := ?_) rfl (by kernel_rfl) (by kernel_rfl) (by kernel_rfl) (fun _ _ _ h => h) (Or.inl ⟨by rfl, ?_⟩) hHeld ?_
        rotate_left
        · intro W9 hSw; (try dsimp only at hSw); go_simp; (try with_reducible rfl)
        simp only [Act.put, List.getElem_toArray, List.getElem_cons_zero, List.getElem_cons_succ, List.setIfInBounds_toArray, List.set_cons_zero, List.set_cons_succ]
        refine wpAnyH_take (i := 4) (v := ?_) rfl (by kernel_rfl) (by kernel_rfl) (by kernel_rfl) (fun _ _ _ h => h) (Or.inl ⟨by rfl, ?_⟩) hHeld ?_
        rotate_left
        · intro W9 hSw; (try dsimp only at hSw); go_simp; (try with_reducible rfl)
        simp only [Act.put, List.getElem_toArray, List.getElem_cons_zero, List.getElem_cons_succ, List.setIfInBounds_toArray, List.set_cons_zero, List.set_cons_succ]
        refine wpAnyH_take (i := 5) (v := ?_) rfl (by kernel_rfl) (by kernel_rfl) (by kernel_rfl) (fun _ _ _ h => h) (Or.inl ⟨by rfl, ?_⟩) hHeld ?_
        rotate_left
        · intro W9 hSw; (try dsimp only at hSw); go_simp; (try with_reducible rfl)
        simp only [Act.put, List.getElem_toArray, List.getElem_cons_zero, List.getElem_cons_succ, List.setIfInBounds_toArray, List.set_cons_zero, List.set_cons_succ]
        refine wpAnyH_take (i := 0) (v := ?_) rfl (by kernel_rfl) (by kernel_rfl) (by kernel_rfl) (fun _ _ _ h => h) (Or.inl ⟨by rfl, ?_⟩) hHeld ?_
        rotate_left
        · intro W9 hSw; (try dsimp only at hSw); go_simp; (try with_reducible rfl)
        simp only [Act.put, List.getElem_toArray, List.getElem_cons_zero, List.getElem_cons_succ, List.setIfInBounds_toArray, List.set_cons_zero, List.set_cons_succ]
        refine wpAnyH_ready (rs := [1, 6]) (by kernel_rfl) (by simp) ?_
        have pr1 := hPSr.out.box.c1
        refine AllReadyH.cons rfl (fun K hK => ?_) (AllReadyH.cons rfl (fun K hK => ?_) AllReadyH.nil)
        · go_simp
          refine hK.out _ _ (hSa.out _ hPSr.out.chg) (fun hHeld2 => ?_)
          clear hK K hHeld
          have hHeld := hHeld2
          clear hHeld2
          refine wpAnyH_ready (rs := [6]) (by kernel_rfl) (by simp) ?_
          refine AllReadyH.cons rfl (fun K hK => ?_) AllReadyH.nil
          go_simp
          refine hK.out _ _ (hSa.out _ hPSd.out.chg) (fun hHeld2 => ?_)
          clear hK K hHeld
          have hHeld := hHeld2
          clear hHeld2
          clear pr1
          have pd1 := hPSd.out.box.c1
          refine wpAnyH_ready (rs := [7]) (by kernel_rfl) (by simp) ?_
          refine AllReadyH.cons rfl (fun K hK => ?_) AllReadyH.nil
          refine step_append_recs atomRow aEnc_len aEnc_one (by rfl) _ _ (by rfl) v.heap.size A c EL (by rfl) hPSd.out.own _ 1 [a] (by rfl) (recs_at w9.drew a _) (by simp; omega) hPSd.out.chg.size ?_
          intro A5 c5 w6 hown hg _
          rw [hENH.out] at hown ⊢
          obtain ⟨hbx6, hch6, hps6⟩ := hPSd.out.done hown hg
          replace hps6 := Lib.hid hps6
          obtain ⟨z0, z1, zf0, zf1, _⟩ := hbx6
          refine hK.out _ _ (hSa.out _ hch6) (fun hHeld2 => ?_)
          clear hK K hHeld hown hg
          have hHeld := hHeld2
          clear hHeld2
          refine wpAnyH_take (i := 8) (v := ?_) rfl (by kernel_rfl) (by kernel_rfl) (by kernel_rfl) (fun _ _ _ h => h) (Or.inl ⟨by rfl, ?_⟩) hHeld ?_
          rotate_left
          · intro W9 hSw; (try dsimp only at hSw); go_simp; (try with_reducible rfl)
          simp only [Act.put, List.getElem_toArray, List.getElem_cons_zero, List.getElem_cons_succ, List.setIfInBounds_toArray, List.set_cons_zero, List.set_cons_succ]
          refine wpAnyH_ready (rs := [9]) (by kernel_rfl) (by simp) ?_
          refine AllReadyH.cons rfl (fun K hK => ?_) AllReadyH.nil
          go_simp
          refine hK.out _ _ (hSa.out _ hps6.out.chg) (fun hHeld2 => ?_)
          clear hK K hHeld
          have hHeld := hHeld2
          clear hHeld2
          refine wpAnyH_done (by kernel_rfl) ?_ _
          clear hHeld hPSd z0 z1 zf0 zf1 hch6 pd1
          generalize w6.setCell ⟨BF, 1, none⟩ (.slice A5 EN.length c5) = wq at *
          rw [hpp.out] at hps6
          go_wp2_with fail
          go_roundw
          case rel => exact ⟨j + 1, pk ++ [a], true, A5, c5, by omega, by go_num, rfl, hfd2, htk2, hps6⟩
          case measure => simp [intOf]; omega
        · go_simp
          refine hK.out _ _ (hSa.out _ hPSd.out.chg) (fun hHeld2 => ?_)
          clear hK K hHeld pr1
          have hHeld := hHeld2
          clear hHeld2
          have pe1 := hPSd.out.box.c1
          refine wpAnyH_ready (rs := [1]) (by kernel_rfl) (by simp) ?_
          refine AllReadyH.cons rfl (fun K hK => ?_) AllReadyH.nil
          go_simp
          refine hK.out _ _ (hSa.out _ hPSd.out.chg) (fun hHeld2 => ?_)
          clear hK K hHeld
          have hHeld := hHeld2
          clear hHeld2
          clear pe1
          have pd1 := hPSd.out.box.c1
          refine wpAnyH_ready (rs := [7]) (by kernel_rfl) (by simp) ?_
          refine AllReadyH.cons rfl (fun K hK => ?_) AllReadyH.nil
          refine step_append_recs atomRow aEnc_len aEnc_one (by rfl) _ _ (by rfl) v.heap.size A c EL (by rfl) hPSd.out.own _ 1 [a] (by rfl) (recs_at w9.drew a _) (by simp; omega) hPSd.out.chg.size ?_
          intro A5 c5 w6 hown hg _
          rw [hENH.out] at hown ⊢
          obtain ⟨hbx6, hch6, hps6⟩ := hPSd.out.done hown hg
          replace hps6 := Lib.hid hps6
          obtain ⟨z0, z1, zf0, zf1, _⟩ := hbx6
          refine hK.out _ _ (hSa.out _ hch6) (fun hHeld2 => ?_)
          clear hK K hHeld hown hg
          have hHeld := hHeld2
          clear hHeld2
          refine wpAnyH_take (i := 8) (v := ?_) rfl (by kernel_rfl) (by kernel_rfl) (by kernel_rfl) (fun _ _ _ h => h) (Or.inl ⟨by rfl, ?_⟩) hHeld ?_
          rotate_left
          · intro W9 hSw; (try dsimp only at hSw); go_simp; (try with_reducible rfl)
          simp only [Act.put, List.getElem_toArray, List.getElem_cons_zero, List.getElem_cons_succ, List.setIfInBounds_toArray, List.set_cons_zero, List.set_cons_succ]
          refine wpAnyH_ready (rs := [9]) (by kernel_rfl) (by simp) ?_
          refine AllReadyH.cons rfl (fun K hK => ?_) AllReadyH.nil
          go_simp
          refine hK.out _ _ (hSa.out _ hps6.out.chg) (fun hHeld2 => ?_)
          clear hK K hHeld
          have hHeld := hHeld2
          clear hHeld2
          refine wpAnyH_done (by kernel_rfl) ?_ _
          clear hHeld hPSd z0 z1 zf0 zf1 hch6 pd1
          generalize w6.setCell ⟨BF, 1, none⟩ (.slice A5 EN.length c5) = wq at *
          rw [hpp.out] at hps6
          go_wp2_with fail
          go_roundw
          case rel => exact ⟨j + 1, pk ++ [a], true, A5, c5, by omega, by go_num, rfl, hfd2, htk2, hps6⟩
          case measure => simp [intOf]; omega
end Go.Proofs.YtbcdimklblpdnaaDoor
