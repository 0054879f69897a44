/- shamir.evaluator: the values of polynomials whose coefficients lie in lists, at one x. -/
import Derived.Test.YtioiaiifkfopnaaIu
import Derived.Test.YtioiaiifkfopnaaScale
namespace Go.Kin
open Go.RowKit
theorem cell_lt {w : World} {b : Nat} {o : Nat} {v : Value} (h : w.cell? ⟨b, o, none⟩ = some v) : b < w.heap.size := by
  obtain ⟨x, hx, _⟩ := cells_of_cell h
  exact (Array.getElem?_eq_some_iff.1 hx).1
theorem keepsOthers_below {A B : World} (h : Below A.heap.size A B) : KeepsOthers A B := ⟨h.size, fun k _ hk _ => (h.block k (Array.getElem?_eq_some_iff.1 hk).1).trans hk⟩
end Go.Kin
namespace Go.Proofs.Ytioiaiifkfopnaa
open Go.RowKit Go.Kin Go.Shelf
set_option linter.unusedVariables false
attribute [local go_sem] Oper.semAt_some
/-- The lists' values at x, by Horner: acc := list + x * acc for each list in turn. -/
def hornL {β : Type} (x : Nat) (n : Nat) (f : β → List Nat) (ks : List β) : List Nat := ks.foldl (fun acc k => Gf.mulAdd (f k) acc x) (List.replicate n 0)
theorem hornL_snoc {β : Type} (x n : Nat) (f : β → List Nat) (ks : List β) (k : β) : hornL x n f (ks ++ [k]) = Gf.mulAdd (f k) (hornL x n f ks) x := by
  simp [hornL]
theorem hornL_len {β : Type} {x n : Nat} {f : β → List Nat} (hf : ∀ k, (f k).length = n) (ks : List β) : (hornL x n f ks).length = n := by
  suffices h : ∀ acc : List Nat, acc.length = n → (ks.foldl (fun acc k => Gf.mulAdd (f k) acc x) acc).length = n from h _ (List.length_replicate ..)
  induction ks with
  | nil => exact fun acc h => h
  | cons k ks ih => exact fun acc h => ih _ (by rw [Gf.mulAdd_length _ _ _ (by rw [hf, h]), hf])
theorem hornL_byt {β : Type} {x n : Nat} (hx : x < 256) {f : β → List Nat} (hb : ∀ k, Gf.Byt (f k)) (ks : List β) : Gf.Byt (hornL x n f ks) := by
  suffices h : ∀ acc : List Nat, Gf.Byt acc → Gf.Byt (ks.foldl (fun acc k => Gf.mulAdd (f k) acc x) acc) from h _ (fun y hy => by rw [List.eq_of_mem_replicate hy]; omega)
  induction ks with
  | nil => exact fun acc h => h
  | cons k ks ih => exact fun acc h => ih _ (Gf.mulAdd_byt _ _ _ (hb k) hx)
/-- What a round finds: the box of x, the box of the values, the values in a block of the call. -/
def EvI {β : Type} (w : World) (X V x n : Nat) (f : β → List Nat) (pre : List β) (W : World) : Prop :=
  ∃ g, W.cell? ⟨X, 0, none⟩ = some (.int .i64 (x : Int)) ∧ (W.cell? ⟨V, 0, none⟩ = some (.slice (some ⟨g, 0, none⟩) n n) ∧ W.frozen? ⟨V, 0, none⟩ = false) ∧
    w.heap.size ≤ g ∧ Blk vb 5 W g (hornL x n f pre) ∧ g ≠ V
theorem EvI.own {β : Type} {w : World} {X V x n : Nat} {f : β → List Nat} (B : Nat) : OwnFrom B (EvI w X V x n f) :=
  Own.from (fun s A C row ⟨g, h1, h2, h3, h4, h5⟩ hg hr => ⟨g, cell_kept h1 hg hr, ⟨cell_kept h2.1 hg hr, (frozen_kept h2.1 hg hr).trans h2.2⟩, h3, (grownBy_keeps_cells hg hr h4 rfl).trans h4, h5⟩) B
set_option maxRecDepth 100000 in
set_option maxHeartbeats 4000000 in
theorem ev1_any (b off m cap n x : Nat) (hm1 : 1 ≤ m) (hm : m ≤ 16) (hn : n ≤ 1024) (hx : x < 256) (A : Fin m → Option Addr) (C : Fin m → Nat) (f : Fin m → List Nat) (Bl : Nat) (w : World)
    (hBl : w.cell? ⟨Bl, 0, none⟩ = some (.slice (some ⟨b, off, none⟩) m cap)) (hc : ∀ k : Fin m, w.cell? ⟨b, off + k.1, none⟩ = some (.slice (A k) n (C k)))
    (hr : ∀ k, Rd vb w (A k) n (C k) (f k)) (hb : ∀ k, Gf.Byt (f k)) :
    Calls Try.prog 64 #[.int .i64 (x : Int), .pointer (some ⟨Bl, 0, none⟩)] w (RetBlk vb 5 w (hornL x n f (backL m m))) := by
  obtain ⟨i0, hi, hz0, hz1, hz2⟩ := info_parts info5
  have u1 := Try.underlying23
  have hfl : ∀ k, (f k).length = n := fun k => (hr k).len
  have hc0 : w.cell? ⟨b, off, none⟩ = some (.slice (A ⟨0, by omega⟩) n (C ⟨0, by omega⟩)) := hc ⟨0, by omega⟩
  have hBlt := cell_lt hBl
  have hblt := cell_lt hc0
  refine (callsIn_wide (n := 3)).1 ?_
  refine callsIn_of_wp_marks Try.func64 rfl trivial ?_ rfl
  simp only [Try.ntmps64, List.size_toArray, List.length_cons, List.length_nil, Nat.reduceAdd, Nat.reduceSub, Array.replicate_succ, Array.replicate_zero, List.push_toArray, List.append_toArray, List.nil_append, List.cons_append]
  have hmk : ∀ w' : World, Sem.run Try.prog (Instr.makeSlice 23 (.int .i64 (n : Int)) (.int .i64 (n : Int))) w' = .ok (.slice (some ⟨w'.heap.size, 0, none⟩) n n) (w'.alloc (.cells (row vb (List.replicate n 0)) 5 (0, 0))) := fun w' => by
    have hrun := run_make (P := Try.prog) w' 23 5 i0 (vb 0) u1 hi hz0 .i64 .i64 (n : Int) (n : Int) (by omega) (by omega) (by rw [hz2]; omega) (by omega)
    rw [hz1, Int.toNat_natCast, made_row vb 0 rfl n] at hrun
    exact hrun
  have hB3 : Below w.heap.size w (((w.alloc (.cells #[.int .i64 (x : Int)] 3)).alloc (.cells (row vb (List.replicate n 0)) 5)).alloc (.cells #[.slice (some ⟨w.heap.size + 1, 0, none⟩) n n] 23)) :=
    (((Below.refl _ w).alloc (Nat.le_refl _) _).alloc (by simp) _).alloc (by simp; omega) _
  have hBl3 := (hB3.cell (p := ⟨Bl, 0, none⟩) hBlt).trans hBl
  gi_wp2_with (refine ⟨trivial, ?_⟩; gi_at_call 65; refine (back_in Fence.wide _ trivial rfl _ _ _ _).mono ?_; rintro e w' ⟨rfl, rfl⟩)
  have hB4 := hB3.alloc (by simp; omega) (.cells #[.slice (some ⟨b, off, none⟩) m cap] 30)
  have bX := Boxed.new w 3 (.int .i64 (x : Int))
  have bG : Blk vb 5 ((w.alloc (.cells #[.int .i64 (x : Int)] 3)).alloc (.cells (row vb (List.replicate n 0)) 5)) (w.heap.size + 1) (List.replicate n 0) := by
    have := heap_alloc_new (w.alloc (.cells #[.int .i64 (x : Int)] 3)) (.cells (row vb (List.replicate n 0)) 5)
    rw [World.size_alloc] at this
    exact this
  have bV := Boxed.new ((w.alloc (.cells #[.int .i64 (x : Int)] 3)).alloc (.cells (row vb (List.replicate n 0)) 5)) 23 (.slice (some ⟨w.heap.size + 1, 0, none⟩) n n)
  rw [World.size_alloc, World.size_alloc] at bV
  have bL := Boxed.new (((w.alloc (.cells #[.int .i64 (x : Int)] 3)).alloc (.cells (row vb (List.replicate n 0)) 5)).alloc (.cells #[.slice (some ⟨w.heap.size + 1, 0, none⟩) n n] 23)) 30 (.slice (some ⟨b, off, none⟩) m cap)
  rw [World.size_alloc, World.size_alloc, World.size_alloc] at bL
  have bG4 := (bG.fw ((Below.refl _ _).alloc (Nat.le_refl _) (.cells #[.slice (some ⟨w.heap.size + 1, 0, none⟩) n n] 23))).fw ((Below.refl _ _).alloc (Nat.le_refl _) (.cells #[.slice (some ⟨b, off, none⟩) m cap] 30))
  refine wpIn_rangeFunc_ownG rfl (by omega) (gf := 71) (lb := #[.pointer (some ⟨w.heap.size + 1 + 1 + 1, 0, none⟩)]) rfl trivial (enters_of Try.func71 (by kernel_rfl) rfl)
    (back_stops Fence.wide _ trivial rfl (by omega) (w.heap.size + 1 + 1 + 1) b off m cap hm (fun k => .slice (A k) n (C k)) _ (by simp) (by simp; omega) bL.cell (fun k => (hB4.cell (p := ⟨b, off + k.1, none⟩) hblt).trans (hc k))) KeepS.trans (keepS_b (by rintro k (rfl | rfl) <;> simp <;> omega)) (Below.refl _ _) (fun _ => rfl)
    (fun pre W => EvI w w.heap.size (w.heap.size + 1 + 1) x n f pre W ∧ Below w.heap.size ((((w.alloc (.cells #[.int .i64 (x : Int)] 3)).alloc (.cells (row vb (List.replicate n 0)) 5)).alloc (.cells #[.slice (some ⟨w.heap.size + 1, 0, none⟩) n n] 23)).alloc (.cells #[.slice (some ⟨b, off, none⟩) m cap] 30)) W)
    (fun _ _ _ => False)
    (OwnFrom.and (EvI.own _) (ownFrom_below (by simp; omega) (by simp; omega)))
    (fun _ _ _ _ _ hs _ _ => hs)
    ⟨⟨w.heap.size + 1, (((bX.alloc _).alloc _).alloc _).cell, ⟨(bV.alloc _).cell, (bV.alloc _).frozen⟩, by omega, bG4, by omega⟩, Below.refl _ _⟩
    (fun y => { tmps := #[.int .i64 (x : Int), .pointer (some ⟨Bl, 0, none⟩), .pointer (some ⟨w.heap.size, 0, none⟩), .slice none 0 0, .pointer (some ⟨w.heap.size + 1 + 1, 0, none⟩), undef, .slice (A y) n (C y), .slice (some ⟨b, off, none⟩) m cap, .pointer (some ⟨b, off, none⟩), .slice (A ⟨0, by omega⟩) n (C ⟨0, by omega⟩), .int .i64 (n : Int), .slice (some ⟨w.heap.size + 1, 0, none⟩) n n, .slice (some ⟨b, off, none⟩) m cap, .func (.func 71) #[] #[.pointer (some ⟨w.heap.size + 1 + 1 + 1, 0, none⟩)], .int .i64 ((y.1 : Nat) : Int), .slice (A y) n (C y), undef, undef, undef, undef, undef, undef, undef, undef, undef], defers := [] }) ?assign ?body ?done ?stop
  case assign =>
    intro l y W K hK
    gi_wp2
    exact hK
  case body =>
    rintro l pre y W ⟨⟨g, hX, ⟨hV, hVf⟩, hg, hG, hgV⟩, hbe⟩ _
    have hsz := hbe.size
    simp only [World.size_alloc] at hsz
    have hbe0 := hB4.trans hbe
    have hL := hornL_len hfl (x := x) pre
    have hL2 := hornL_len hfl (x := x) (pre ++ [y])
    rw [hornL_snoc] at hL2
    have hR := (hr y).fw hbe0
    have hgl := hG.lt
    gi_wp2_with (refine ⟨trivial, ?_⟩; gi_at_call 59; refine (CallsIn.inRound l (callsIn_wide.2 (muladd_any _ _ n _ _ _ _ (x : Int) W hR (hG.rdn hL (Nat.le_refl n) (by omega)) (hb y) (hornL_byt hx hb pre) (by omega) (by omega) (by omega)))).mono ?_; rintro e w' ⟨g', rfl, hg', hG', hb'⟩; rw [Int.toNat_natCast] at hG'; rw [Int.toNat_natCast, hL2]; have hV' := (hb'.cell (p := ⟨w.heap.size + 1 + 1, 0, none⟩) (cell_lt hV)).trans hV; have hVf' := (hb'.frozen (p := ⟨w.heap.size + 1 + 1, 0, none⟩) (cell_lt hV)).trans hVf)
    refine ⟨((keepsOthers_below hb').trans (KeepsOthers.setCell _ _ _)).from _, ?_, ⟨g', ?_, ⟨World.cell?_setCell_same' _ _ _ (by rw [hV']; rfl), by rw [World.frozen?_setCell]; exact hVf'⟩, by omega, ?_, by omega⟩, ?_⟩
    · intro k hk
      have hkl : k < W.heap.size := by rcases hk with rfl | rfl <;> omega
      rw [heap_setCell_other _ _ _ _ (by show k ≠ w.heap.size + 1 + 1; rcases hk with rfl | rfl <;> omega)]
      exact hb'.block k hkl
    · refine (World.cell?_of_block (heap_setCell_other _ _ _ _ (by show w.heap.size ≠ w.heap.size + 1 + 1; omega))).trans ?_
      exact (hb'.cell (p := ⟨w.heap.size, 0, none⟩) (by show w.heap.size < _; omega)).trans hX
    · rw [hornL_snoc]
      exact hG'.other _ _ (by show g' ≠ w.heap.size + 1 + 1; omega)
    · exact (hbe.trans (hb'.mono (by omega))).setCell (p := ⟨w.heap.size + 1 + 1, 0, none⟩) (by show w.heap.size ≤ w.heap.size + 1 + 1; omega) _
  case done =>
    rintro D ys W hD rfl ⟨⟨g, hX, ⟨hV, hVf⟩, hg, hG, hgV⟩, hbe⟩ hK
    have hL := hornL_len hfl (x := x) (backL m m)
    gi_wp2
    refine ⟨by simp, .inl ⟨_, _, rfl, run_takeDeferred hK, ?_⟩⟩
    have hG' := grownBy_keeps_cells (grownBy_putObj' W D (.deferred none)) (fun r e => by cases e; exact ⟨_, hK, rfl⟩) hG rfl
    exact ⟨_, results_tmp rfl _ _ _, g, by rw [hL]; rfl, hg, hG'.trans hG, (hB4.trans hbe).trans (belowK_b (w := w) (Nat.le_refl _) W D _ _ (by simp at hD; omega) hK rfl rfl)⟩
  case stop =>
    rintro D c pre W _ _ h _
    exact h.elim
set_option maxHeartbeats 1000000 in
/-- shamir.evaluator boxes the lists. -/
theorem ev_any (a : Option Addr) (len cap : Nat) (w : World) :
    Calls Try.prog 46 #[.slice a len cap] w fun e w' => e = .returned (.func (.func 64) #[] #[.pointer (some ⟨w.heap.size, 0, none⟩)]) ∧ w' = w.alloc (.cells #[.slice a len cap] 30) := by
  go_enter Try.func46, Try.ntmps46
  go_wp2
  go_ret
  exact ⟨rfl, rfl⟩
end Go.Proofs.Ytioiaiifkfopnaa
