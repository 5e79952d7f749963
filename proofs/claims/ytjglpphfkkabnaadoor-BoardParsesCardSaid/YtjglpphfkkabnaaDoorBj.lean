/- Layer 3: the text of a board: the program's. -/
import Derived.Test.YtjglpphfkkabnaaDoorBi
import Derived.Stop.RegionWithIn
namespace Go.Proofs.YtjglpphfkkabnaaDoor
open Go.RowKit
set_option linter.unusedSimpArgs false
set_option linter.unusedVariables false
attribute [local go_sem] Oper.semAt_some

/-- what the body of the range keeps -/
structure Kx (n₀ B1 B2 : Nat) (W W' : World) : Prop where
  below : Below n₀ W W'
  k1 : W'.heap[B1]? = W.heap[B1]?
  k2 : W'.heap[B2]? = W.heap[B2]?
theorem Kx.trans {n₀ B1 B2 : Nat} {A B C : World} (h : Kx n₀ B1 B2 A B) (k : Kx n₀ B1 B2 B C) : Kx n₀ B1 B2 A C := ⟨h.below.trans k.below, k.k1.trans h.k1, k.k2.trans h.k2⟩
theorem Kx.cells {n₀ B1 B2 : Nat} {A B : World} (h : Kx n₀ B1 B2 A B) : (∀ i : Nat, B.cell? ⟨B1, i, none⟩ = A.cell? ⟨B1, i, none⟩) ∧ (∀ i : Nat, B.cell? ⟨B2, i, none⟩ = A.cell? ⟨B2, i, none⟩) :=
  ⟨fun i => World.cell?_of_block h.k1, fun i => World.cell?_of_block h.k2⟩
theorem keeps_below {W W' : World} (h : Below W.heap.size W W') : KeepsOthers W W' := ⟨h.size, fun k o hk _ => (h.block k (Array.getElem?_eq_some_iff.1 hk).1).trans hk⟩
theorem keeps_grown {base : Nat} {e : TypeId} {size : Nat} {v : Value} {n : Nat} {xs : List Value} {W W' : World} (h : W.ownsRow base e size v n xs) (hg : W.grownBy W' v.ownBlock) : KeepsOthers W W' := by
  refine ⟨hg.size, fun k o hk ho => ?_⟩
  have hlt : k < W.heap.size := (Array.getElem?_eq_some_iff.1 hk).1
  rw [hg.block k hlt ?_]
  · exact hk
  · intro e1
    rcases h.2 with ⟨rfl, _⟩ | ⟨g, cap, cur, rfl, _, hgg, _⟩
    · simp [Value.ownBlock] at e1
    · simp [Value.ownBlock] at e1
      subst e1
      rw [hgg] at hk
      obtain rfl := Option.some.inj hk
      simp [Obj.isCells] at ho
/-- a row of a board -/
def rowOf (f x : Nat) (l : List Int) : List Int := (l.drop (x * f)).take f
def rsT (f : Nat) (l : List Int) (pre : List Nat) : List ByteArray := pre.map fun x => rkT (rowOf f x l)
theorem rowOf_get {f x : Nat} {l : List Int} {k : Nat} (hk : k < f) : (rowOf f x l)[k]? = l[x * f + k]? := by
  unfold rowOf
  rw [List.getElem?_take_of_lt hk, List.getElem?_drop]
theorem rowOf_len {f x r : Nat} {l : List Int} (hl : l.length = r * f) (hx : x < r) : (rowOf f x l).length = f := by
  have h : (x + 1) * f ≤ r * f := Nat.mul_le_mul_right _ hx
  rw [Nat.succ_mul] at h
  unfold rowOf
  rw [List.length_take, List.length_drop]
  omega
theorem rowOf_mem {f x : Nat} {l : List Int} {p : Int} (h : p ∈ rowOf f x l) : p ∈ l := List.mem_of_mem_drop (List.mem_of_mem_take h)
theorem rowOf_at {f x r : Nat} {l : List Int} (hl : l.length = r * f) (hx : x < r) {b off B : Nat} {W : World} (hA : PcsAt W B (some ⟨b, off, none⟩) l) : PcsAt W B (some ⟨b, off + x * f, none⟩) (rowOf f x l) := by
  intro h0
  rw [rowOf_len hl hx] at h0
  have hr : 0 < l.length := by rw [hl]; exact Nat.mul_pos (by omega) h0
  obtain ⟨b', off', e, hb, hc⟩ := hA hr
  simp only [Option.some.injEq, Addr.mk.injEq, and_true] at e
  obtain ⟨rfl, rfl⟩ := e
  refine ⟨b, off + x * f, rfl, hb, fun k y hk j u hu => ?_⟩
  have hkf : k < f := by have := (List.getElem?_eq_some_iff.1 hk).1; rw [rowOf_len hl hx] at this; exact this
  rw [rowOf_get hkf] at hk
  have h1 := hc _ y hk j u hu
  rwa [show off + (x * f + k) * 1 + j = off + x * f + k * 1 + j by omega] at h1
/-- the strings joined by strokes -/
def joinS (xs : List ByteArray) : ByteArray := ⟨(Lib.join (xs.map (·.data.toList)) [47]).toArray⟩
/-- the text of a board -/
def boardT (f r : Nat) (l : List Int) : ByteArray := joinS (rsT f l (List.range r)).reverse
/-- the list of ranks, in its variable -/
structure RI (Br base : Nat) (w2 W : World) (xs : List ByteArray) : Prop where
  big : base ≤ W.heap.size
  cell : ∃ A c, W.cell? ⟨Br, 0, none⟩ = some (.slice A xs.length c) ∧ Own1 sEnc 1 base 9 W A c xs
  fr : W.frozen? ⟨Br, 0, none⟩ = false
  below : Below Br w2 W
theorem RI.cast {Br base : Nat} {w2 W : World} {xs ys : List ByteArray} (h : xs = ys) (hr : RI Br base w2 W ys) : RI Br base w2 W xs := h ▸ hr
theorem RI.own {Br base B : Nat} {w2 : World} {β : Type} (g : β → List ByteArray) (hB : Br ≤ B) (h2 : Br ≤ w2.heap.size) : OwnFrom B (fun (pre : β) W => RI Br base w2 W (g pre)) := by
  intro s W W' row h hg hr
  obtain ⟨hbig, ⟨A, c, hc, ho⟩, hf, hb⟩ := h
  refine ⟨Nat.le_trans hbig hg.size, ⟨A, c, cell_kept hc hg (fun r e => (hr r e).2), ?_⟩, (frozen_kept hc hg (fun r e => (hr r e).2)).trans hf, hb.grown hg (Nat.le_trans h2 hb.size) (fun k e => Nat.le_trans hB (hr k e).1)⟩
  refine World.ownsRow.kept ho hg ?_
  cases hob : (Value.slice A (g s).length c).ownBlock with
  | none => exact .inl rfl
  | some k =>
    right
    intro e
    obtain ⟨_, o, hk, hno⟩ := hr k e.symm
    rcases ho.2 with ⟨hv, _⟩ | ⟨g', cap, cur, hv, _, hgg, _⟩
    · rw [hv] at hob; simp [Value.ownBlock] at hob
    · rw [hv] at hob
      simp [Value.ownBlock] at hob
      subst hob
      rw [hgg] at hk
      obtain rfl := Option.some.inj hk
      simp [Obj.isCells] at hno
theorem Kx.put {n₀ B1 B2 : Nat} {w : World} (hn : n₀ ≤ w.heap.size) (h1 : B1 < w.heap.size) (h2 : B2 < w.heap.size) (W : World) (l : Nat) (o o' : Obj) (hl : w.heap.size ≤ l) (h : W.heap[l]? = some o) (ha : o.isCells = false) (hb : o.isWalk = false) : Kx n₀ B1 B2 W (W.putObj l o') := by
  have hlt : l < W.heap.size := (Array.getElem?_eq_some_iff.1 h).1
  have hg := grownBy_putObj' W l o'
  exact ⟨belowK_b hn W l o o' hl h ha hb, hg.block B1 (by omega) (by intro e; cases e; omega), hg.block B2 (by omega) (by intro e; cases e; omega)⟩
/-- the three new blocks ahead of the range -/
theorem three_new (w1 : World) (v1 v2 v3 : Value) (t1 t2 t3 : TypeId) : ∃ W, ((w1.alloc (.cells #[v1] t1)).alloc (.cells #[v2] t2)).alloc (.cells #[v3] t3) = W ∧ W.cell? ⟨w1.heap.size, 0, none⟩ = some v1 ∧ W.frozen? ⟨w1.heap.size, 0, none⟩ = false ∧ W.cell? ⟨w1.heap.size + 1, 0, none⟩ = some v2 ∧ W.cell? ⟨w1.heap.size + 1 + 1, 0, none⟩ = some v3 ∧ W.heap.size = w1.heap.size + 3 ∧ Below w1.heap.size w1 W := by
  have z1 : (w1.alloc (.cells #[v1] t1)).heap.size = w1.heap.size + 1 := World.size_alloc _ _
  have z2 : ((w1.alloc (.cells #[v1] t1)).alloc (.cells #[v2] t2)).heap.size = w1.heap.size + 2 := by rw [World.size_alloc, z1]
  have h1 := heap_alloc_new w1 (.cells #[v1] t1)
  have h2 := heap_alloc_new (w1.alloc (.cells #[v1] t1)) (.cells #[v2] t2)
  have h3 := heap_alloc_new ((w1.alloc (.cells #[v1] t1)).alloc (.cells #[v2] t2)) (.cells #[v3] t3)
  rw [z1] at h2
  rw [z2] at h3
  have hb1 : Below (w1.heap.size + 1) (w1.alloc (.cells #[v1] t1)) (((w1.alloc (.cells #[v1] t1)).alloc (.cells #[v2] t2)).alloc (.cells #[v3] t3)) := ((Below.refl _ _).alloc (by omega) _).alloc (by omega) _
  have hb2 : Below (w1.heap.size + 2) ((w1.alloc (.cells #[v1] t1)).alloc (.cells #[v2] t2)) (((w1.alloc (.cells #[v1] t1)).alloc (.cells #[v2] t2)).alloc (.cells #[v3] t3)) := (Below.refl _ _).alloc (by omega) _
  refine ⟨_, rfl, ?_, ?_, ?_, ?_, ?_, ((Below.refl _ _).alloc (Nat.le_refl _) _).trans (hb1.mono (by omega))⟩
  · rw [hb1.cell (p := ⟨w1.heap.size, 0, none⟩) (by show w1.heap.size < _; omega), cell_of_row _ _ _ _ _ _ h1]; rfl
  · rw [hb1.frozen (p := ⟨w1.heap.size, 0, none⟩) (by show w1.heap.size < _; omega)]; simp only [World.frozen?]; rw [h1]; rfl
  · rw [hb2.cell (p := ⟨w1.heap.size + 1, 0, none⟩) (by show w1.heap.size + 1 < _; omega), cell_of_row _ _ _ _ _ _ h2]; rfl
  · rw [cell_of_row _ _ _ _ _ _ h3]; rfl
  · rw [World.size_alloc, z2]
theorem step_appIn {n l0 : Nat} {P : Program} {ops : Array Oper} {o : Oper} {a : Act} {w w' : World} {K : Act → World → Prop} {Q : Exit → Act → World → Prop} {E : Prop} {t : TypeId} {v1 v2 v' : Value} (hgd : o.guard = none) (s x : Operand)
    (ho : o.op = .call { callee := .builtin .append, args := #[s, x], argTypes := #[t, t] }) (hs : a.eval s = v1) (hx : a.eval x = v2) (hr : (Builtin.append_ #[t, t] o.type #[v1, v2]).run P w = .ok v' w') (h : K (a.put o.dst v') w') :
    if Region.wanted o (yielded ops a.tmps) = true then Oper.wpIn (Fence.wide.inRound l0) n P o a w K Q else E := by
  have hw : Region.wanted o (yielded ops a.tmps) = true := by simp [Region.wanted, hgd]
  rw [if_pos hw]
  refine ⟨fun _ _ => trivial, ?_⟩
  show o.uponIn _ n P a K Q ((o.semAt (some l0) a.eval).run P w)
  rw [Oper.semAt_some l0 a.eval o (by intro c e; rw [ho] at e; cases e)]
  unfold execOp
  simp only [ho, resolve, invoke, builtin, Sem.run_bind, Sem.run_pure, Result.andThen_ok, List.map_toArray, List.map_cons, List.map_nil, hs, hx, hr]
  exact h
/-- one more string for the list of ranks -/
theorem step_app {base B0 : Nat} {A1 : Option Addr} {cA : Nat} {xs : List ByteArray} {W w5 : World} (hown : Own1 sEnc 1 base 9 W A1 cA xs) (hb : Below W.heap.size W w5) (hq : W.cell? ⟨B0, 0, none⟩ = some (.slice A1 xs.length cA)) (hf : W.frozen? ⟨B0, 0, none⟩ = false) (hB : B0 < base) (hbase : base ≤ W.heap.size ∧ xs.length ≤ 1000) (T : ByteArray) (ys : List ByteArray) (hys : xs ++ [T] = ys) :
    ∃ (A5 : Option Addr) (c5 : Nat) (w6 : World), (Builtin.append_ #[66, 66] 66 #[.slice A1 xs.length cA, .slice (some ⟨w5.heap.size, 0, none⟩) 1 1]).run Tryd.prog (w5.alloc (.cells #[.string T] 9)) = .ok (.slice A5 ys.length c5) w6 ∧
      Own1 sEnc 1 base 9 w6 A5 c5 ys ∧ (w5.alloc (.cells #[.string T] 9)).grownBy w6 (Value.slice A1 xs.length cA).ownBlock ∧ w6.cell? ⟨B0, 0, none⟩ = some (.slice A1 xs.length cA) ∧ w6.frozen? ⟨B0, 0, none⟩ = false := by
  subst hys
  have hs := hb.size
  have h5 : (w5.alloc (.cells #[.string T] 9)).ownsRow base 9 1 (.slice A1 xs.length cA) xs.length (flatR sEnc xs) :=
    World.ownsRow.alloc (World.ownsRow.kept hown (grown_of_below hb) (by cases hv : (Value.slice A1 xs.length cA).ownBlock <;> simp)) _
  obtain ⟨A5, c5, w6, h1, h2, h3, _⟩ := run_append_recs (P := Tryd.prog) strRow sEnc_len sEnc_one 66 base A1 cA xs h5 (some ⟨w5.heap.size, 0, none⟩) 1 [T] (recs_str w5 T _) (by simp; omega) (by rw [World.size_alloc]; omega)
  have hlt : B0 < W.heap.size := by omega
  have hbb : Below W.heap.size W (w5.alloc (.cells #[.string T] 9)) := hb.alloc hs _
  have hne : some B0 ≠ (Value.slice A1 xs.length cA).ownBlock := fun e => by have := (World.ownsRow.lt h5 B0 e.symm).1; omega
  have hblk := h3.block B0 (by rw [World.size_alloc]; omega) hne
  exact ⟨A5, c5, w6, h1, h2, h3, (World.cell?_of_block hblk).trans ((hbb.cell (p := ⟨B0, 0, none⟩) hlt).trans hq), (World.frozen?_of_block hblk).trans ((hbb.frozen (p := ⟨B0, 0, none⟩) hlt).trans hf)⟩
theorem step_fin {B0 : Nat} {A1 A5 : Option Addr} {cA c5 : Nat} {xs ys : List ByteArray} {W w5 w6 : World} {o : Obj} {v0 : Value} (hown : Own1 sEnc 1 (B0 + 3) 9 W A1 cA xs) (hb : Below W.heap.size W w5) (hWl : B0 + 3 ≤ W.heap.size)
    (hown6 : Own1 sEnc 1 (B0 + 3) 9 w6 A5 c5 ys) (hg6 : (w5.alloc o).grownBy w6 (Value.slice A1 xs.length cA).ownBlock) (hq6 : w6.cell? ⟨B0, 0, none⟩ = some v0) (hf6 : w6.frozen? ⟨B0, 0, none⟩ = false) :
    KeepsOthers W (w6.setCell ⟨B0, 0, none⟩ (.slice A5 ys.length c5)) ∧ Kx B0 (B0 + 1) (B0 + 1 + 1) W (w6.setCell ⟨B0, 0, none⟩ (.slice A5 ys.length c5)) ∧ ∀ w2, Below B0 w2 W → RI B0 (B0 + 3) w2 (w6.setCell ⟨B0, 0, none⟩ (.slice A5 ys.length c5)) ys := by
  have hs := hb.size
  have hown5 : (w5.alloc o).ownsRow (B0 + 3) 9 1 (.slice A1 xs.length cA) xs.length (flatR sEnc xs) :=
    World.ownsRow.alloc (World.ownsRow.kept hown (grown_of_below hb) (by cases hv : (Value.slice A1 xs.length cA).ownBlock <;> simp)) _
  have hbb : Below W.heap.size W (w5.alloc o) := hb.alloc hs _
  have hlow : ∀ k, k < B0 + 3 → some k ≠ (Value.slice A1 xs.length cA).ownBlock := fun k hk e => by have := (World.ownsRow.lt hown5 k e.symm).1; omega
  have hz6 : W.heap.size ≤ w6.heap.size := Nat.le_trans (Nat.le_trans hs (by simp)) hg6.size
  have hB6 : Below B0 W w6 := (hbb.mono (by omega)).grown hg6 (by rw [World.size_alloc]; omega) (fun k e => by have := (World.ownsRow.lt hown5 k e).1; omega)
  have hBs : Below B0 W (w6.setCell ⟨B0, 0, none⟩ (.slice A5 ys.length c5)) := hB6.setCell (p := ⟨B0, 0, none⟩) (Nat.le_refl _) _
  have hk : ∀ k, k < B0 + 3 → k ≠ B0 → (w6.setCell ⟨B0, 0, none⟩ (.slice A5 ys.length c5)).heap[k]? = W.heap[k]? := fun k h1 h2 => by
    rw [Below.heap_setCell _ _ _ k h2, hg6.block k (by rw [World.size_alloc]; omega) (hlow k h1), hbb.block k (by omega)]
  refine ⟨KeepsOthers.trans (keeps_below hbb) (KeepsOthers.trans (keeps_grown hown5 hg6) (KeepsOthers.setCell _ _ _)), ⟨hBs, hk _ (by omega) (by omega), hk _ (by omega) (by omega)⟩, fun w2 h2 => ⟨?_, ⟨A5, c5, ?_, ?_⟩, ?_, h2.trans hBs⟩⟩
  · rw [nblk_set]; omega
  · exact World.cell?_setCell_same' _ _ _ (by rw [hq6]; rfl)
  · refine ownsRow_setCell_other hown6 (fun e => ?_) _
    have := (World.ownsRow.lt hown6 B0 e).1
    omega
  · rw [World.frozen?_setCell]; exact hf6
theorem join_len8 : ∀ (xs : List (List UInt8)), (∀ x, x ∈ xs → x.length ≤ 8) → (Lib.join xs [47]).length ≤ 9 * xs.length
  | [], _ => by simp [Lib.join, List.intercalate]
  | [x], h => by
    have := h x (by simp)
    simp [Lib.join, List.intercalate]; omega
  | x :: y :: l, h => by
    have ih := join_len8 (y :: l) (fun z hz => h z (by simp [hz]))
    have e : Lib.join (x :: y :: l) [47] = x ++ 47 :: Lib.join (y :: l) [47] := by simp [Lib.join, List.intercalate]
    have hx := h x (by simp)
    rw [e, List.length_append, List.length_cons]
    simp only [List.length_cons] at ih ⊢
    omega
theorem rkT_len {f x r : Nat} {l : List Int} (hl : l.length = r * f) (hx : x < r) (hf : f ≤ 8) : (rkT (rowOf f x l)).data.toList.length ≤ 8 := by
  have := rkL_len (rowOf f x l)
  rw [rowOf_len hl hx] at this
  show (rkL (rowOf f x l)).toArray.toList.length ≤ 8
  simp
  omega
set_option maxRecDepth 100000 in
set_option maxHeartbeats 400000 in
theorem ptext_yes (f r : Nat) (A : Option Addr) (c : Nat) (l : List Int) (w : World) (hA : PcsAt w w.heap.size A l) (hE : EnvAt w) (hc : l.length ≤ c) (hv : bdB (f : Int) (r : Int) l = true) :
    Calls Tryd.prog 28 #[bV (f : Int) (r : Int) A l.length c] w fun e w' => e = .returned (.tuple #[.string (boardT f r l), .int .i64 0]) ∧ Below w.heap.size w w' := by
  obtain ⟨hs, hlen, hall⟩ := bdB_out hv
  obtain ⟨f0, f1, r0, r1⟩ := szB_out hs
  have hlr : l.length = r * f := by
    have h9 : ((l.length : Nat) : Int) = ((r * f : Nat) : Int) := by rw [hlen, Int.natCast_mul, Int.mul_comm]
    exact Int.ofNat_inj.1 h9
  have hl64 : l.length ≤ 64 := by have := (mul_bd f0 f1 r0 r1).2; omega
  have hl9 : 0 < l.length := by have := (mul_bd f0 f1 r0 r1).1; omega
  have hf1 : 1 ≤ f := by omega
  have hf8 : f ≤ 8 := by omega
  have hr8 : r ≤ 8 := by omega
  have hrc : r * f ≤ c := by omega
  have hr64 : r * f ≤ 100000 := by omega
  obtain ⟨b, off, rfl, hb, _⟩ := hA hl9
  have hK := Lib.hid (KB.first (f : Int) (r : Int) (some ⟨b, off, none⟩) l.length c w 26)
  have hAW : Hid (∀ W, Below w.heap.size w W → PcsAt W w.heap.size (some ⟨b, off, none⟩) l) := fun W hb => hA.below (Nat.le_refl _) hb
  have hEW : Hid (∀ W, Below w.heap.size w W → EnvAt W) := fun W hb => hE.next hb
  have hallH := Lib.hid hall
  have c0 := hK.out.c0
  have c1 := hK.out.c1
  have c2 := hK.out.c2
  have hbv : Hid (∀ W, Below w.heap.size w W → CallsIn Fence.wide 4 Tryd.prog 34 #[bV (f : Int) (r : Int) (some ⟨b, off, none⟩) l.length c] W fun e w' => e = .returned (.bool true) ∧ Below W.heap.size W w') := fun W hb => by
    have h5 := pbvalid (f : Int) (r : Int) (some ⟨b, off, none⟩) c l W ((hAW.out W hb).more hb.size) (by omega)
    rw [hv] at h5
    exact callsIn_wide.2 h5
  replace hlr := Lib.hid hlr
  replace hlen := Lib.hid hlen
  replace hs := Lib.hid hs
  clear hA hE hall
  refine (callsIn_wide (n := 5)).1 ?_
  refine callsIn_of_wp_marks Tryd.func28 rfl trivial ?_ rfl
  simp only [Tryd.ntmps28, List.size_toArray, List.length_cons, List.length_nil, Nat.reduceAdd, Nat.reduceSub, Array.replicate_succ, Array.replicate_zero, List.push_toArray, List.append_toArray, List.nil_append, List.cons_append]
  gi_wp2
  refine ⟨trivial, ?_⟩
  gi_at_call 34
  refine (hbv.out _ hK.out.below).mono ?_
  rintro e w1 ⟨rfl, hbw⟩
  replace hK := Lib.hid (hK.out.next hbw)
  clear hbw
  have hK2 := Lib.hid (hK.out.alloc (.cells #[.slice none 0 0] 66))
  replace c0 := hK2.out.c0
  replace c1 := hK2.out.c1
  replace c2 := hK2.out.c2
  gi_wp2
  refine ⟨trivial, ?_⟩
  gi_at_call 47
  refine (callsIn_wide.2 (pchunk _ _ _ f _ hf1)).mono ?_
  rintro e w' ⟨rfl, rfl⟩
  gi_wp2
  clear c0 c1 c2
  obtain ⟨W0, hW0, k0, kf, k1, k2, ksz, kb⟩ := three_new w1 (.slice none 0 0) (.slice (some ⟨b, off, none⟩) l.length c) (.int .i64 (f : Int)) 66 24 3
  rw [hW0]
  clear hW0
  have hB2 := Lib.hid kb
  refine wpIn_rangeFunc_ownF (n := 5) rfl (by omega) (gf := 62) (lb := #[.pointer (some ⟨w1.heap.size + 1, 0, none⟩), .pointer (some ⟨w1.heap.size + 1 + 1, 0, none⟩)]) rfl trivial (enters_of Tryd.func62 (by kernel_rfl) rfl)
    (chunk_stops 4 (by omega) (w1.heap.size + 1) (w1.heap.size + 1 + 1) b off c f r (Kx w1.heap.size (w1.heap.size + 1) (w1.heap.size + 1 + 1)) (fun _ _ h => h.cells) W0 (by omega) (by omega) hf1 hrc hr64 (by rw [k1, hlr.out]) k2)
    Kx.trans (Kx.put (by omega) (by omega) (by omega)) (Below.refl _ _) (fun _ => rfl)
    (fun (pre : List (RX r)) W => RI w1.heap.size (w1.heap.size + 3) w1 W (rsT f l (pre.map (·.1))))
    (fun _ _ _ => False)
    (RI.own (fun pre : List (RX r) => rsT f l (pre.map (·.1))) (by omega) (Nat.le_refl _))
    (fun _ _ _ _ _ hs _ _ => hs)
    ⟨by omega, ⟨none, 0, k0, owns_nil⟩, kf, kb⟩
    (fun x : RX r => { tmps := #[bV (f : Int) (r : Int) (some ⟨b, off, none⟩) l.length c, .pointer (some ⟨w.heap.size, 0, none⟩), .string ⟨#[]⟩, .int .i64 0, .pointer (some ⟨w1.heap.size, 0, none⟩), .slice (some ⟨b, off + x.1 * f, none⟩) f f, .agg #[.int .i64 (f : Int), .int .i64 (r : Int), .slice (some ⟨b, off, none⟩) l.length c], .bool true, .bool false, .pointer (some ⟨w.heap.size, 2, none⟩), .slice (some ⟨b, off, none⟩) l.length c, .pointer (some ⟨w.heap.size, 0, none⟩), .pointer (some ⟨w.heap.size, 0, none⟩), .int .i64 (f : Int), .func (.func 62) #[] #[.pointer (some ⟨w1.heap.size + 1, 0, none⟩), .pointer (some ⟨w1.heap.size + 1 + 1, 0, none⟩)], .slice (some ⟨b, off + x.1 * f, none⟩) f f, undef, undef, undef, undef, undef, undef, undef, undef, undef], defers := [] })
    ?assign ?body ?done ?stop
  case assign =>
    intro l0 x W K hK9
    gi_wp2
    exact hK9
  case body =>
    rintro l0 pre ⟨x, hx⟩ W ⟨hWl, ⟨A1, cA, q0, hown⟩, qf, hB⟩ hpl
    obtain ⟨xs, hxs⟩ : ∃ xs, rsT f l (pre.map (·.1)) = xs := ⟨_, rfl⟩
    obtain ⟨T, hT⟩ : ∃ T, rkT (rowOf f x l) = T := ⟨_, rfl⟩
    have hnew : Hid (rsT f l ((pre ++ [(⟨x, hx⟩ : RX r)]).map (·.1)) = xs ++ [T]) := by
      show _ = _
      rw [List.map_append, ← hxs, ← hT]
      unfold rsT
      rw [List.map_append]; rfl
    obtain ⟨ys, hys⟩ : ∃ ys, xs ++ [T] = ys := ⟨_, rfl⟩
    rw [hys] at hnew
    replace hys := Lib.hid hys
    have hxl : xs.length ≤ 8 := by rw [← hxs]; unfold rsT; rw [List.length_map, List.length_map]; omega
    rw [hxs] at q0 hown
    have hbW : Hid (Below w.heap.size w W) := hK.out.below.trans (hB.mono hK.out.below.size)
    have hrk : Hid (∀ m W', Below w.heap.size w W' → CallsIn (Fence.wide.inRound l0) m Tryd.prog 48 #[.slice (some ⟨b, off + x * f, none⟩) f f] W' fun e w' => e = .returned (.string T) ∧ Below W'.heap.size W' w') := fun m W' hb' => by
      have h5 := prank (some ⟨b, off + x * f, none⟩) f (rowOf f x l) W' (rowOf_at hlr.out hx ((hAW.out W' hb').more hb'.size)) (hEW.out W' hb') (by rw [rowOf_len hlr.out hx]; omega) (fun p hp => hallH.out p (rowOf_mem hp))
      rw [rowOf_len hlr.out hx, hT] at h5
      exact CallsIn.inRound l0 (callsIn_wide.2 h5)
    have hownH := Lib.hid hown
    have hBH := Lib.hid hB
    have hWs := hB.size
    replace hxs := Lib.hid hxs
    replace hT := Lib.hid hT
    clear hown hB k0 kf k1 k2 kb
    gi_wp2
    refine wpIn_region_any (by kernel_rfl) ?_
    try (change wpAnyIn _ _ _ _ _ _ _ _ _ (World.drew _))
    refine wpAnyIn_ready (rs := [0, 1]) (by kernel_rfl) (by simp) ?_
    refine AllReadyIn.cons rfl (fun K hK => ?_) ?_
    · go_simp
      refine hK _ _ ?_
      clear hK K
      refine wpAnyIn_ready (rs := [1]) (by kernel_rfl) (by simp) ?_
      refine AllReadyIn.cons rfl (fun K hK => ?_) AllReadyIn.nil
      go_simp
      refine hK _ _ ?_
      clear hK K
      refine wpAnyIn_ready (rs := [2]) (by kernel_rfl) (by simp) ?_
      refine AllReadyIn.cons rfl (fun K hK => ?_) AllReadyIn.nil
      go_simp
      gi_wp2_with (refine ⟨trivial, ?_⟩; gi_at_call 48; refine (hrk.out _ _ (by first | exact hbW.out | exact hbW.out.drew)).mono ?_; rintro e w5 ⟨rfl, hb5⟩; replace hb5 : Hid (Below W.heap.size W w5) := (by first | exact hb5 | exact undrew hb5); have e0 := (hb5.out.cell (p := ⟨w1.heap.size, 0, none⟩) (by show w1.heap.size < _; omega)).trans q0; have e1 := ((((Below.refl w5.heap.size w5).alloc (Nat.le_refl _) (.cells #[.string T] 9)).cell (p := ⟨w1.heap.size, 0, none⟩) (by have := hb5.out.size; show w1.heap.size < _; omega))).trans e0; obtain ⟨A5, c5, w6, hr6, hown6, hg6, hq6, hf6⟩ := step_app hownH.out hb5.out q0 qf (by omega) ⟨by omega, by omega⟩ T ys hys.out; replace hown6 := Lib.hid hown6; replace hg6 := Lib.hid hg6; replace hr6 := Lib.hid hr6)
      refine wpAnyIn_ready (rs := [3]) (by kernel_rfl) (by simp) ?_
      refine AllReadyIn.cons rfl (fun K hK => ?_) AllReadyIn.nil
      go_simp
      refine hK _ _ ?_
      clear hK K
      refine wpAnyIn_ready (rs := [4]) (by kernel_rfl) (by simp) ?_
      refine AllReadyIn.cons rfl (fun K hK => ?_) AllReadyIn.nil
      refine step_appIn (by rfl) _ _ (by rfl) (by rfl) (by rfl) hr6.out ?_
      refine hK _ _ ?_
      clear hK K
      refine wpAnyIn_ready (rs := [5]) (by kernel_rfl) (by simp) ?_
      refine AllReadyIn.cons rfl (fun K hK => ?_) AllReadyIn.nil
      go_simp
      refine hK _ _ ?_
      clear hK K
      refine wpAnyIn_done (by kernel_rfl) ?_ _
      clear q0 qf e0 e1
      obtain ⟨h1, h2, h3⟩ := step_fin hownH.out hb5.out hWl hown6.out hg6.out hq6 hf6
      clear hq6 hf6
      gi_wp2
      exact ⟨h1, h2, RI.cast hnew.out (h3 _ hBH.out)⟩
    refine AllReadyIn.cons rfl (fun K hK => ?_) AllReadyIn.nil
    go_simp
    refine hK _ _ ?_
    clear hK K
    refine wpAnyIn_ready (rs := [0, 2]) (by kernel_rfl) (by simp) ?_
    refine AllReadyIn.cons rfl (fun K hK => ?_) ?_
    · go_simp
      refine hK _ _ ?_
      clear hK K
      refine wpAnyIn_ready (rs := [2]) (by kernel_rfl) (by simp) ?_
      refine AllReadyIn.cons rfl (fun K hK => ?_) AllReadyIn.nil
      go_simp
      gi_wp2_with (refine ⟨trivial, ?_⟩; gi_at_call 48; refine (hrk.out _ _ (by first | exact hbW.out | exact hbW.out.drew)).mono ?_; rintro e w5 ⟨rfl, hb5⟩; replace hb5 : Hid (Below W.heap.size W w5) := (by first | exact hb5 | exact undrew hb5); have e0 := (hb5.out.cell (p := ⟨w1.heap.size, 0, none⟩) (by show w1.heap.size < _; omega)).trans q0; have e1 := ((((Below.refl w5.heap.size w5).alloc (Nat.le_refl _) (.cells #[.string T] 9)).cell (p := ⟨w1.heap.size, 0, none⟩) (by have := hb5.out.size; show w1.heap.size < _; omega))).trans e0; obtain ⟨A5, c5, w6, hr6, hown6, hg6, hq6, hf6⟩ := step_app hownH.out hb5.out q0 qf (by omega) ⟨by omega, by omega⟩ T ys hys.out; replace hown6 := Lib.hid hown6; replace hg6 := Lib.hid hg6; replace hr6 := Lib.hid hr6)
      refine wpAnyIn_ready (rs := [3]) (by kernel_rfl) (by simp) ?_
      refine AllReadyIn.cons rfl (fun K hK => ?_) AllReadyIn.nil
      go_simp
      refine hK _ _ ?_
      clear hK K
      refine wpAnyIn_ready (rs := [4]) (by kernel_rfl) (by simp) ?_
      refine AllReadyIn.cons rfl (fun K hK => ?_) AllReadyIn.nil
      refine step_appIn (by rfl) _ _ (by rfl) (by rfl) (by rfl) hr6.out ?_
      refine hK _ _ ?_
      clear hK K
      refine wpAnyIn_ready (rs := [5]) (by kernel_rfl) (by simp) ?_
      refine AllReadyIn.cons rfl (fun K hK => ?_) AllReadyIn.nil
      go_simp
      refine hK _ _ ?_
      clear hK K
      refine wpAnyIn_done (by kernel_rfl) ?_ _
      clear q0 qf e0 e1
      obtain ⟨h1, h2, h3⟩ := step_fin hownH.out hb5.out hWl hown6.out hg6.out hq6 hf6
      clear hq6 hf6
      gi_wp2
      exact ⟨h1, h2, RI.cast hnew.out (h3 _ hBH.out)⟩
    refine AllReadyIn.cons rfl (fun K hK => ?_) AllReadyIn.nil
    go_simp
    gi_wp2_with (refine ⟨trivial, ?_⟩; gi_at_call 48; refine (hrk.out _ _ (by first | exact hbW.out | exact hbW.out.drew)).mono ?_; rintro e w5 ⟨rfl, hb5⟩; replace hb5 : Hid (Below W.heap.size W w5) := (by first | exact hb5 | exact undrew hb5); have e0 := (hb5.out.cell (p := ⟨w1.heap.size, 0, none⟩) (by show w1.heap.size < _; omega)).trans q0; have e1 := ((((Below.refl w5.heap.size w5).alloc (Nat.le_refl _) (.cells #[.string T] 9)).cell (p := ⟨w1.heap.size, 0, none⟩) (by have := hb5.out.size; show w1.heap.size < _; omega))).trans e0; obtain ⟨A5, c5, w6, hr6, hown6, hg6, hq6, hf6⟩ := step_app hownH.out hb5.out q0 qf (by omega) ⟨by omega, by omega⟩ T ys hys.out; replace hown6 := Lib.hid hown6; replace hg6 := Lib.hid hg6; replace hr6 := Lib.hid hr6)
    refine wpAnyIn_ready (rs := [0, 3]) (by kernel_rfl) (by simp) ?_
    refine AllReadyIn.cons rfl (fun K hK => ?_) ?_
    · go_simp
      refine hK _ _ ?_
      clear hK K
      refine wpAnyIn_ready (rs := [3]) (by kernel_rfl) (by simp) ?_
      refine AllReadyIn.cons rfl (fun K hK => ?_) AllReadyIn.nil
      go_simp
      refine hK _ _ ?_
      clear hK K
      refine wpAnyIn_ready (rs := [4]) (by kernel_rfl) (by simp) ?_
      refine AllReadyIn.cons rfl (fun K hK => ?_) AllReadyIn.nil
      refine step_appIn (by rfl) _ _ (by rfl) (by rfl) (by rfl) hr6.out ?_
      refine hK _ _ ?_
      clear hK K
      refine wpAnyIn_ready (rs := [5]) (by kernel_rfl) (by simp) ?_
      refine AllReadyIn.cons rfl (fun K hK => ?_) AllReadyIn.nil
      go_simp
      refine hK _ _ ?_
      clear hK K
      refine wpAnyIn_done (by kernel_rfl) ?_ _
      clear q0 qf e0 e1
      obtain ⟨h1, h2, h3⟩ := step_fin hownH.out hb5.out hWl hown6.out hg6.out hq6 hf6
      clear hq6 hf6
      gi_wp2
      exact ⟨h1, h2, RI.cast hnew.out (h3 _ hBH.out)⟩
    refine AllReadyIn.cons rfl (fun K hK => ?_) AllReadyIn.nil
    go_simp
    refine hK _ _ ?_
    clear hK K
    refine wpAnyIn_ready (rs := [0]) (by kernel_rfl) (by simp) ?_
    refine AllReadyIn.cons rfl (fun K hK => ?_) AllReadyIn.nil
    go_simp
    refine hK _ _ ?_
    clear hK K
    refine wpAnyIn_ready (rs := [4]) (by kernel_rfl) (by simp) ?_
    refine AllReadyIn.cons rfl (fun K hK => ?_) AllReadyIn.nil
    refine step_appIn (by rfl) _ _ (by rfl) (by rfl) (by rfl) hr6.out ?_
    refine hK _ _ ?_
    clear hK K
    refine wpAnyIn_ready (rs := [5]) (by kernel_rfl) (by simp) ?_
    refine AllReadyIn.cons rfl (fun K hK => ?_) AllReadyIn.nil
    go_simp
    refine hK _ _ ?_
    clear hK K
    refine wpAnyIn_done (by kernel_rfl) ?_ _
    clear q0 qf e0 e1
    obtain ⟨h1, h2, h3⟩ := step_fin hownH.out hb5.out hWl hown6.out hg6.out hq6 hf6
    clear hq6 hf6
    gi_wp2
    exact ⟨h1, h2, RI.cast hnew.out (h3 _ hBH.out)⟩
  case done =>
    rintro D ps W hD hps ⟨hWl, ⟨A1, cA, q0, hown⟩, qf, hB⟩ hKd
    rw [hps] at q0 hown
    obtain ⟨xs, hxs⟩ : ∃ xs, rsT f l (List.range r) = xs := ⟨_, rfl⟩
    rw [hxs] at q0 hown
    have hxl : xs.length = r := by rw [← hxs]; unfold rsT; rw [List.length_map, List.length_range]
    have hx8 : xs.length ≤ 8 := by omega
    have hx0 : 0 < xs.length := by omega
    have hO : Hid (O1 sEnc 1 (w1.heap.size + 3) 9 W W A1 cA xs) := ⟨hown, Below.refl _ _, hWl⟩
    obtain ⟨g, rfl, hg⟩ := hO.out.form1 hx0
    have hj : Hid ((Lib.join (xs.reverse.map (·.data.toList)) ([47] : List UInt8)).length ≤ 140737488355328) := by
      have h9 := join_len8 (xs.reverse.map (·.data.toList)) (fun y hy => by
        obtain ⟨z, hz, rfl⟩ := List.mem_map.1 hy
        rw [List.mem_reverse, ← hxs] at hz
        unfold rsT at hz
        obtain ⟨k, hk, rfl⟩ := List.mem_map.1 hz
        exact rkT_len hlr.out (List.mem_range.1 hk) hf8)
      rw [List.length_map, List.length_reverse] at h9
      show _ ≤ _
      omega
    have hfin : Hid (boardT f r l = ⟨(Lib.join (xs.map (·.data.toList)).reverse [47]).toArray⟩) := by show _ = _; unfold boardT joinS; rw [hxs, List.map_reverse]
    have hownH := Lib.hid hown
    have hBH := Lib.hid hB
    replace hxs := Lib.hid hxs
    replace hxl := Lib.hid hxl
    have hrl : Hid (xs.reverse.length = xs.length) := List.length_reverse
    clear hown hB k0 kf k1 k2 kb
    gi_wp2
    refine ⟨trivial, ?_⟩
    gi_at_call 49
    refine (callsIn_wide.2 (preverse _ _ _ _ _ _ hO.out (by omega))).mono ?_
    rintro e w2 ⟨rfl, hO2, hg2⟩
    have q2 := (hO2.below.cell (p := ⟨w1.heap.size, 0, none⟩) (by show w1.heap.size < _; omega)).trans q0
    have hKd2 : Hid (w2.heap[D]? = some (.deferred (some []))) := (keeps_grown hownH.out hg2).same D _ hKd rfl
    replace hO2 := Lib.hid hO2
    clear hg2
    have hcc : Hid (∀ (j : Nat) x, xs.reverse[j]? = some x → w2.cell? ⟨g, 0 + j, none⟩ = some (.string x)) := fun j x hx => by
      rw [Nat.zero_add]; exact hO2.out.cell1 (g := Value.string) (fun _ => rfl) hx
    have hcap := Lib.hid (own_cap hO2.out.own (by rw [hrl.out]; omega))
    have hgl := (World.ownsRow.lt hO2.out.own g rfl).2
    have hjn := sh_strings_Join g 0 cA xs.reverse ⟨#[47]⟩ w2 hcc.out hgl (by rw [hrl.out]; omega) hcap.out hj.out
    rw [hrl.out] at hjn
    replace hjn := Lib.hid hjn
    gi_wp2
    refine ⟨trivial, ?_⟩
    gi_at_call 50
    refine (callsIn_wide.2 hjn.out).mono ?_
    rintro e w3 ⟨rfl, hb3⟩
    have hKd3 : w3.heap[D]? = some (.deferred (some [])) := (hb3.block D (Array.getElem?_eq_some_iff.1 hKd2.out).1).trans hKd2.out
    have hbf : Hid (Below w.heap.size w w3) := (hK.out.below.trans ((hBH.out.trans (hO2.out.below.mono (by omega))).mono hK.out.below.size)).trans (hb3.mono (by have := hK.out.below.size; have := hO2.out.size; omega))
    gi_wp2
    refine ⟨by simp, .inl ⟨_, _, rfl, run_takeDeferred hKd3, ?_⟩⟩
    exact ⟨_, results_tmp2 rfl _ _ _, by rw [hfin.out]; rfl, hbf.out.trans (belowK_b (w := w) (Nat.le_refl _) w3 D _ _ (by have := hK.out.below.size; omega) hKd3 rfl rfl)⟩
  case stop =>
    rintro D c9 pre W _ _ h _
    exact h.elim
end Go.Proofs.YtjglpphfkkabnaaDoor
