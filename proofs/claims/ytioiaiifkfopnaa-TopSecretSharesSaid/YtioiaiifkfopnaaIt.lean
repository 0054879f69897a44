/- slices.Chunk and slices.Backward: what their functions give a loop. -/
import Derived.RangeFuncNested
import Derived.RangeFuncBound
import Derived.RangeFuncCalls
import Derived.RangeFuncLeaves
import Derived.RangeFuncBox
import Derived.Shelf.Abstract
import Derived.Shelf.RegionOpen
import Derived.WalkKit
import Derived.OwnWalkIn
import Derived.TacticsInMore
import Derived.LoopNIn
import Derived.LoopIn
import Derived.Test.YtioiaiifkfopnaaKitR
import Derived.Test.YtioiaiifkfopnaaChecked
namespace Go.Kin
open Go.RowKit
/-- The blocks of S are as they were. -/
def KeepS (S : Nat → Prop) (A B : World) : Prop := ∀ b, S b → B.heap[b]? = A.heap[b]?
theorem KeepS.refl (S : Nat → Prop) (A : World) : KeepS S A A := fun _ _ => rfl
theorem KeepS.trans {S : Nat → Prop} {A B C : World} (h : KeepS S A B) (k : KeepS S B C) : KeepS S A C := fun b hb => (k b hb).trans (h b hb)
theorem KeepS.cell {S : Nat → Prop} {A B : World} (h : KeepS S A B) {b o : Nat} (hb : S b) : B.cell? ⟨b, o, none⟩ = A.cell? ⟨b, o, none⟩ := by
  simp only [World.cell?]
  rw [h b hb]
set_option linter.unusedVariables false in
theorem keepS_b {S : Nat → Prop} {w : World} (hS : ∀ b, S b → b < w.heap.size) (W : World) (l : Nat) (o o' : Obj) (hl : w.heap.size ≤ l) (h : W.heap[l]? = some o) (_ : o.isCells = false) (_ : o.isWalk = false) : KeepS S W (W.putObj l o') := fun b hb => by
  have := hS b hb
  have hne : l ≠ b := by omega
  simp [World.putObj, Array.getElem?_setIfInBounds_ne hne]
theorem run_min2i {P : Program} (ats : Array TypeId) (ty : TypeId) (x y : Int) (w : World) : (Builtin.min_ ats ty #[.int .i64 x, .int .i64 y]).run P w = .ok (.int .i64 (min x y)) w := by
  have e : (if y < x then y else x) = min x y := by split <;> omega
  rw [← e]
  simp [Builtin.min_, Builtin.min2]
theorem abides_drew {β : Type} {B : Nat} {J : β → World → Prop} (h : AbidesFrom B J) {s : β} {w : World} (hs : J s w) : J s w.drew :=
  h s w w.drew Option.none hs ⟨rfl, rfl, rfl, Nat.le_refl _, fun _ _ _ => rfl⟩ (fun r e => by cases e)
end Go.Kin
namespace Go.Proofs.Ytioiaiifkfopnaa
open Go.RowKit Go.Kin Go.Shelf
set_option linter.unusedVariables false
attribute [local go_sem] Oper.semAt_some
set_option maxRecDepth 100000 in
set_option maxHeartbeats 4000000 in
/-- slices.Chunk's function, for parts of 32 bytes. -/
theorem chunk1_in (F : Fence) (n : Nat) (hf : F.fn 43) (hro : F.round = none) (hn : 1 ≤ n) (l Bs Bn b off m cap : Nat) (hm : m ≤ 4) (hcap : 32 * m ≤ cap) (hcm : cap ≤ 9223372036854775807) (B0 : Nat) (J Jx : List Nat → World → Prop) (hJ : AbidesFrom B0 J)
    (hY : ∀ pre x W, J pre W → pre.length < m → YieldAt F (n - 1) Try.prog l #[.slice (some ⟨b, off + 32 * x, none⟩) 32 32] W fun e W' =>
      (e = .returned (.bool true) ∧ J (pre ++ [x]) W' ∧ KeepS (fun k => k = Bs ∨ k = Bn) W W') ∨ (e = .returned (.bool false) ∧ Jx (pre ++ [x]) W'))
    (W : World) (hBs : W.cell? ⟨Bs, 0, none⟩ = some (.slice (some ⟨b, off, none⟩) (32 * m) cap)) (hBn : W.cell? ⟨Bn, 0, none⟩ = some (.int .i64 32)) (h0 : J [] W) :
    CallsIn F n Try.prog 43 #[.func (.yield l) #[] #[], .pointer (some ⟨Bs, 0, none⟩), .pointer (some ⟨Bn, 0, none⟩)] W fun e W' => (∃ v, e = .returned v) ∧
      ((∃ ys, ys = List.range m ∧ J ys W') ∨ (∃ pre, (∃ k, k ≤ m ∧ pre = List.range k) ∧ Jx pre W')) := by
  refine callsIn_of_wp Try.func43 rfl hf ?_ hro
  simp only [Try.ntmps43, List.size_toArray, List.length_cons, List.length_nil, Nat.reduceAdd, Nat.reduceSub, Array.replicate_succ, Array.replicate_zero, List.push_toArray, List.append_toArray, List.nil_append, List.cons_append]
  gi_wp2
  gi_loopw [4, 5] (fun i _ wr => ∃ k : Nat, k ≤ m ∧ i = .int .i64 ((32 * k : Nat) : Int) ∧ J (List.range k) wr ∧ KeepS (fun k => k = Bs ∨ k = Bn) W wr)
    (fun i _ _ => 32 * m - (intOf i).toNat)
  case atStart => exact ⟨0, Nat.zero_le _, rfl, h0, KeepS.refl _ _⟩
  case round =>
    obtain ⟨k, hk, rfl, hJs, hnx⟩ := hrel
    have hc1 := (hnx.cell (o := 0) (.inl rfl)).trans hBs
    have hc2 := (hnx.cell (o := 0) (.inr rfl)).trans hBn
    by_cases hlt : k < m
    · have hlt2 : 32 * k < 32 * m := by omega
      have hJd : J (List.range k) wr.drew := abides_drew hJ hJs
      obtain ⟨fn, tmps, assign, body, hy, hR⟩ := hY _ k wr.drew hJd (by simpa using hlt)
      have x1 : 32 * (k : Int) < 32 * (m : Int) := by omega
      have x2 : 32 * (k : Int) ≤ (cap : Int) := by omega
      have x4 : 32 * (k : Int) + 32 ≤ (cap : Int) := by omega
      have x5 : 0 ≤ 32 * (k : Int) := by omega
      have hmn : ∀ ats ty w, (Builtin.min_ ats ty #[.int .i64 32, .int .i64 ((32 * m - 32 * k : Nat) : Int)]).run Try.prog w = .ok (.int .i64 32) w := fun ats ty w => by
        rw [Kin.run_min2i, Int.min_eq_left (by omega)]
      gi_wp2
      gi_region
      all_goals gi_wp2
      all_goals
        refine hR.mono ?_
        rintro e W3 (⟨rfl, hJ3, hk3⟩ | ⟨rfl, hJx3⟩)
        · have hc3 : W3.cell? ⟨Bn, 0, none⟩ = some (.int .i64 32) := (hk3.cell (o := 0) (.inr rfl)).trans hc2
          gi_wp2
          go_roundw
          case rel => exact ⟨k + 1, by omega, by first | rfl | (congr 1; done) | (congr 1; omega), by rw [List.range_succ]; exact hJ3, hnx.trans hk3⟩
          case measure => simp [intOf]; omega
        · gi_wp2
          refine bodyPost_ret (results_none rfl _ _ _) rfl ?_
          exact ⟨⟨_, rfl⟩, .inr ⟨_, ⟨k + 1, by omega, List.range_succ.symm⟩, hJx3⟩⟩
    · obtain rfl : k = m := by omega
      gi_wp2
      go_end0
      exact ⟨⟨_, rfl⟩, .inl ⟨_, rfl, hJs⟩⟩
set_option maxRecDepth 100000 in
set_option maxHeartbeats 1000000 in
/-- .. at no bytes: no round. -/
theorem chunk0_in (F : Fence) (n : Nat) (hf : F.fn 43) (hro : F.round = none) (l Bs Bn : Nat) (a : Option Addr) (cap : Nat) (J : List Nat → World → Prop)
    (W : World) (hBs : W.cell? ⟨Bs, 0, none⟩ = some (.slice a 0 cap)) (h0 : J [] W) :
    CallsIn F n Try.prog 43 #[.func (.yield l) #[] #[], .pointer (some ⟨Bs, 0, none⟩), .pointer (some ⟨Bn, 0, none⟩)] W fun e W' => (∃ v, e = .returned v) ∧ J [] W' := by
  refine callsIn_of_wp Try.func43 rfl hf ?_ hro
  simp only [Try.ntmps43, List.size_toArray, List.length_cons, List.length_nil, Nat.reduceAdd, Nat.reduceSub, Array.replicate_succ, Array.replicate_zero, List.push_toArray, List.append_toArray, List.nil_append, List.cons_append]
  gi_wp2
  gi_loopw [4, 5] (fun i _ wr => i = .int .i64 0 ∧ J [] wr ∧ wr = W) (fun _ _ _ => 0)
  case atStart => exact ⟨rfl, h0, rfl⟩
  case round =>
    obtain ⟨rfl, hJs, rfl⟩ := hrel
    gi_wp2
    go_end0
    exact ⟨⟨_, rfl⟩, hJs⟩
/-- slices.Chunk(s, 32) hands back a value that gives the parts of 32 bytes, one after the other. -/
theorem chunk_stops (F : Fence) (n : Nat) (hf : F.fn 43) (hro : F.round = none) (hn : 1 ≤ n) (Bs Bn b off m cap : Nat) (a : Option Addr) (hm : m ≤ 4) (ha : a = some ⟨b, off, none⟩ ∨ m = 0) (hcap : 32 * m ≤ cap) (hcm : cap ≤ 9223372036854775807) (w : World)
    (hs : Bs < w.heap.size) (hb : Bn < w.heap.size) (hBs : w.cell? ⟨Bs, 0, none⟩ = some (.slice a (32 * m) cap)) (hBn : w.cell? ⟨Bn, 0, none⟩ = some (.int .i64 32)) :
    SeqStopsK F n Try.prog 43 #[.pointer (some ⟨Bs, 0, none⟩), .pointer (some ⟨Bn, 0, none⟩)] (fun x : Nat => #[Value.slice (some ⟨b, off + 32 * x, none⟩) 32 32]) (KeepS (fun k => k = Bs ∨ k = Bn)) (fun ys => ys = List.range m) (fun pre => ∃ k, k ≤ m ∧ pre = List.range k) m w := fun l J Jx W hW hJ _ hY h0 => by
  have h1 := (hW.cell (p := ⟨Bs, 0, none⟩) hs).trans hBs
  have h2 := (hW.cell (p := ⟨Bn, 0, none⟩) hb).trans hBn
  by_cases h : m = 0
  · subst h
    exact (chunk0_in F n hf hro l Bs Bn a cap J W h1 h0).mono fun e W' ⟨he, hj⟩ => ⟨he, .inl ⟨_, rfl, hj⟩⟩
  · obtain rfl : a = some ⟨b, off, none⟩ := ha.resolve_right h
    exact chunk1_in F n hf hro hn l Bs Bn b off m cap hm hcap hcm _ J Jx hJ hY W h1 h2 h0
set_option maxHeartbeats 1000000 in
/-- slices.Chunk(s, 32). -/
theorem chunk_in (F : Fence) (n : Nat) (hf : F.fn 23) (hro : F.round = none) (a : Option Addr) (len cap : Nat) (w : World) :
    CallsIn F n Try.prog 23 #[.slice a len cap, .int .i64 32] w fun e w' => e = .returned (.func (.func 43) #[] #[.pointer (some ⟨w.heap.size, 0, none⟩), .pointer (some ⟨w.heap.size + 1, 0, none⟩)]) ∧ w' = (w.alloc (.cells #[.slice a len cap] 23)).alloc (.cells #[.int .i64 32] 3) := by
  refine callsIn_of_wp Try.func23 rfl hf ?_ hro
  simp only [Try.ntmps23, List.size_toArray, List.length_cons, List.length_nil, Nat.reduceAdd, Nat.reduceSub, Array.replicate_succ, Array.replicate_zero, List.push_toArray, List.append_toArray, List.nil_append, List.cons_append]
  gi_wp2
  go_ret
  exact ⟨rfl, rfl⟩
end Go.Proofs.Ytioiaiifkfopnaa
