/- slices.Backward: what its function gives a loop. -/
import Derived.Test.YtioiaiifkfopnaaIt
import Derived.Lib.Hide
namespace Go.Proofs.Ytioiaiifkfopnaa
open Go.RowKit Go.Kin Go.Shelf
set_option linter.unusedVariables false
attribute [local go_sem] Oper.semAt_some
/-- The indices of m elements, the last one first, as many as k. -/
def backL (m : Nat) : Nat → List (Fin m)
  | 0 => []
  | k + 1 => backL m k ++ (if h : m - 1 - k < m then [⟨m - 1 - k, h⟩] else [])
theorem backL_len (m : Nat) : ∀ k, k ≤ m → (backL m k).length = k
  | 0, _ => rfl
  | k + 1, h => by
    have := backL_len m k (by omega)
    unfold backL
    rw [dif_pos (by omega), List.length_append, this]; rfl
theorem backL_succ {m k : Nat} (h : k < m) : backL m (k + 1) = backL m k ++ [⟨m - 1 - k, by omega⟩] := by
  show backL m k ++ (if h : m - 1 - k < m then [⟨m - 1 - k, h⟩] else []) = _
  rw [dif_pos (by omega)]
set_option maxRecDepth 100000 in
set_option maxHeartbeats 4000000 in
theorem back1_in (F : Fence) (n : Nat) (hf : F.fn 71) (hro : F.round = none) (hn : 1 ≤ n) (l Bs b off m cap : Nat) (hm : m ≤ 16) (Hd : Fin m → Value) (J Jx : List (Fin m) → World → Prop)
    (hY : ∀ pre x W, J pre W → pre.length < m → YieldAt F (n - 1) Try.prog l #[.int .i64 ((x.1 : Nat) : Int), Hd x] W fun e W' =>
      (e = .returned (.bool true) ∧ J (pre ++ [x]) W' ∧ KeepS (fun k => k = Bs ∨ k = b) W W') ∨ (e = .returned (.bool false) ∧ Jx (pre ++ [x]) W'))
    (W : World) (hBs : W.cell? ⟨Bs, 0, none⟩ = some (.slice (some ⟨b, off, none⟩) m cap)) (hc : ∀ x : Fin m, W.cell? ⟨b, off + x.1, none⟩ = some (Hd x)) (h0 : J [] W) :
    CallsIn F n Try.prog 71 #[.func (.yield l) #[] #[], .pointer (some ⟨Bs, 0, none⟩)] W fun e W' => (∃ v, e = .returned v) ∧
      ((∃ ys, ys = backL m m ∧ J ys W') ∨ (∃ pre, (∃ k, k ≤ m ∧ pre = backL m k) ∧ Jx pre W')) := by
  refine callsIn_of_wp Try.func71 rfl hf ?_ hro
  simp only [Try.ntmps71, List.size_toArray, List.length_cons, List.length_nil, Nat.reduceAdd, Nat.reduceSub, Array.replicate_succ, Array.replicate_zero, List.push_toArray, List.append_toArray, List.nil_append, List.cons_append]
  gi_wp2
  gi_loopw [3] (fun i wr => ∃ (k : Nat) (z : Int), k ≤ m ∧ z = (m : Int) - 1 - (k : Int) ∧ i = .int .i64 z ∧ J (backL m k) wr ∧ KeepS (fun k => k = Bs ∨ k = b) W wr)
    (fun i _ => (intOf i + 1).toNat)
  case atStart => exact ⟨0, (m : Int) - 1, Nat.zero_le _, by omega, rfl, h0, KeepS.refl _ _⟩
  case round =>
    obtain ⟨k, z, hk, hz, rfl, hJs, hnx⟩ := hrel
    have hc1 := (hnx.cell (o := 0) (.inl rfl)).trans hBs
    by_cases hlt : k < m
    · obtain ⟨j, hj⟩ : ∃ j, j = m - 1 - k := ⟨_, rfl⟩
      have hjm : j < m := by omega
      obtain ⟨x, hxj⟩ : ∃ x : Fin m, x.1 = j := ⟨⟨j, hjm⟩, rfl⟩
      have hc2 := (hnx.cell (o := off + x.1) (.inr rfl)).trans (hc x)
      obtain ⟨fn, tmps, assign, body, hy, hR⟩ := hY _ x wr hJs (by rw [backL_len m k hk]; exact hlt)
      have hbk := backL_succ hlt
      have hx2 : (⟨m - 1 - k, by omega⟩ : Fin m) = x := Fin.ext (by show m - 1 - k = x.1; omega)
      rw [hx2] at hbk
      have HBK := Lib.hid hbk
      rw [hxj] at hy hc2
      obtain rfl : z = (j : Int) := by omega
      have HJ := Lib.hid hj
      have i1 : (j : Int) < (m : Int) := by omega
      clear hxj hx2 hbk hz hj hc
      gi_wp2
      refine hR.mono ?_
      rintro e W3 (⟨rfl, hJ3, hk3⟩ | ⟨rfl, hJx3⟩)
      · gi_wp2
        have hj2 := HJ.out
        go_roundw
        case rel => exact ⟨k + 1, (j : Int) - 1, by omega, by omega, rfl, by rw [HBK.out]; exact hJ3, hnx.trans hk3⟩
        case measure => simp [intOf] <;> omega
      · gi_wp2
        refine bodyPost_ret (results_none rfl _ _ _) rfl ?_
        exact ⟨⟨_, rfl⟩, .inr ⟨_, ⟨k + 1, by omega, HBK.out.symm⟩, hJx3⟩⟩
    · have hz1 : z = -1 := by omega
      subst hz1
      obtain rfl : k = m := by omega
      gi_wp2
      go_end0
      exact ⟨⟨_, rfl⟩, .inl ⟨_, rfl, hJs⟩⟩
/-- slices.Backward(s) hands back a value that gives the elements, the last one first. -/
theorem back_stops (F : Fence) (n : Nat) (hf : F.fn 71) (hro : F.round = none) (hn : 1 ≤ n) (Bs b off m cap : Nat) (hm : m ≤ 16) (Hd : Fin m → Value) (w : World) (hs : Bs < w.heap.size) (hb : b < w.heap.size)
    (hBs : w.cell? ⟨Bs, 0, none⟩ = some (.slice (some ⟨b, off, none⟩) m cap)) (hc : ∀ x : Fin m, w.cell? ⟨b, off + x.1, none⟩ = some (Hd x)) :
    SeqStopsK F n Try.prog 71 #[.pointer (some ⟨Bs, 0, none⟩)] (fun x : Fin m => #[Value.int .i64 ((x.1 : Nat) : Int), Hd x]) (KeepS (fun k => k = Bs ∨ k = b)) (fun ys => ys = backL m m) (fun pre => ∃ k, k ≤ m ∧ pre = backL m k) m w := fun l J Jx W hW _ _ hY h0 =>
  back1_in F n hf hro hn l Bs b off m cap hm Hd J Jx hY W ((hW.cell (p := ⟨Bs, 0, none⟩) hs).trans hBs) (fun x => (hW.cell (p := ⟨b, off + x.1, none⟩) hb).trans (hc x)) h0
set_option maxHeartbeats 1000000 in
/-- slices.Backward(s). -/
theorem back_in (F : Fence) (n : Nat) (hf : F.fn 65) (hro : F.round = none) (a : Option Addr) (len cap : Nat) (w : World) :
    CallsIn F n Try.prog 65 #[.slice a len cap] w fun e w' => e = .returned (.func (.func 71) #[] #[.pointer (some ⟨w.heap.size, 0, none⟩)]) ∧ w' = w.alloc (.cells #[.slice a len cap] 30) := by
  refine callsIn_of_wp Try.func65 rfl hf ?_ hro
  simp only [Try.ntmps65, List.size_toArray, List.length_cons, List.length_nil, Nat.reduceAdd, Nat.reduceSub, Array.replicate_succ, Array.replicate_zero, List.push_toArray, List.append_toArray, List.nil_append, List.cons_append]
  gi_wp2
  go_ret
  exact ⟨rfl, rfl⟩
end Go.Proofs.Ytioiaiifkfopnaa
