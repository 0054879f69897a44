/- gf256.fill returns the tables of the powers of 2 and of the logarithms. -/
import Derived.Test.YtchhfpaicdhjbaaMul
import Derived.Laws.Rows
import Derived.Laws.Tables
import Derived.RegionTactic
import Derived.Below
namespace Go.Proofs.Ytchhfpaicdhjbaa
open Go.RowKit Go.Kin

theorem cells_fill : True := trivial

/-- The tables as arrays of values. -/
def pwA (k : Nat) : Array Value := ((Gf.pwL k).map fun (n : Nat) => Value.int .u8 (n : Int)).toArray
def lgA (k : Nat) : Array Value := ((Gf.lgL k).map fun (n : Nat) => Value.int .i64 (n : Int)).toArray

theorem pwA_size (k : Nat) : (pwA k).size = 255 := by simp [pwA, Gf.pwL_length]
theorem lgA_size (k : Nat) : (lgA k).size = 256 := by simp [lgA, Gf.lgL_length]

theorem pwA_succ (k : Nat) : pwA (k + 1) = (pwA k).setIfInBounds k (.int .u8 ((Gf.pw k : Nat) : Int)) := by
  simp [pwA, Gf.pwL, List.map_set]
theorem lgA_succ (k : Nat) : lgA (k + 1) = (lgA k).setIfInBounds (Gf.pw k) (.int .i64 (k : Int)) := by
  simp [lgA, Gf.lgL, List.map_set]

theorem pwA_one (k : Nat) : (pwA k).all (·.oneCell') = true := by
  simp [pwA, Value.oneCell']
theorem lgA_one (k : Nat) : (lgA k).all (·.oneCell') = true := by
  simp [lgA, Value.oneCell']

theorem pwA_some (k i : Nat) (h : i < 255) : ∃ n : Nat, (pwA k)[i]? = some (.int .u8 (n : Int)) := by
  exact ⟨_, by simp [pwA, Gf.pwL_length, h]; rfl⟩
theorem lgA_some (k i : Nat) (h : i < 256) : ∃ n : Nat, (lgA k)[i]? = some (.int .i64 (n : Int)) := by
  exact ⟨_, by simp [lgA, Gf.lgL_length, h]; rfl⟩

theorem pwA_get (i : Nat) (h : i < 255) : (pwA 255)[i]? = some (.int .u8 ((Gf.pw i : Nat) : Int)) := by
  simp [pwA, Gf.pwL_get i h]
theorem lgA_get (a : Nat) (h : a < 256) : (lgA 255)[a]? = some (.int .i64 ((Gf.lg a : Nat) : Int)) := by
  have hl : a < (Gf.lgL 255).length := by rw [Gf.lgL_length]; exact h
  simp [lgA, Gf.lg, List.getElem?_eq_getElem hl]

theorem under50 : (Try.prog.info? 70).map (·.size) = some 255 := by kernel_rfl
theorem under51 : (Try.prog.info? 71).map (·.size) = some 256 := by kernel_rfl
theorem zero50 (w : World) : (zeroValue 70).run Try.prog w = .ok (.agg (pwA 0)) w := by kernel_rfl
theorem zero51 (w : World) : (zeroValue 71).run Try.prog w = .ok (.agg (lgA 0)) w := by kernel_rfl

/-- Both tables lie whole in their blocks. -/
def Tabs (w0 w : World) (b k : Nat) : Prop :=
  w.heap[b]? = some (.cells (pwA k) 70 (0, 0)) ∧ w.heap[b + 1]? = some (.cells (lgA k) 71 (0, 0)) ∧ Below b w0 w

theorem results_two_rows {P : Program} {fn : Func} {p q : Tmp} {ty uy : TypeId} (h : fn.results = #[.cell p ty, .cell q uy]) (tmps : Array Value) (w : World)
    (g : Nat) (t : TypeId) (cs : Array Value) (fr : Nat × Nat) (d : TypeDesc) (hp : tmps.getD p undef = .pointer (some ⟨g, 0, none⟩)) (hg : w.heap[g]? = some (.cells cs t fr))
    (hu : P.underlying ty = some d) (hd : (match d with | .struct _ | .array _ _ => true | _ => false) = true) (hi : (P.info? ty).map (·.size) = some cs.size)
    (g' : Nat) (t' : TypeId) (cs' : Array Value) (fr' : Nat × Nat) (d' : TypeDesc) (hp' : tmps.getD q undef = .pointer (some ⟨g', 0, none⟩)) (hg' : w.heap[g']? = some (.cells cs' t' fr'))
    (hu' : P.underlying uy = some d') (hd' : (match d' with | .struct _ | .array _ _ => true | _ => false) = true) (hi' : (P.info? uy).map (·.size) = some cs'.size) :
    (results fn tmps).run P w = .ok (.tuple #[.agg cs, .agg cs']) w := by
  have hq : tmps[p]?.getD undef = .pointer (some ⟨g, 0, none⟩) := by simpa using hp
  have hq' : tmps[q]?.getD undef = .pointer (some ⟨g', 0, none⟩) := by simpa using hp'
  simp [results, h, hq, hq', asAddr, run_loadVar_row w g t ty cs fr d hg hu hd hi, run_loadVar_row w g' t' uy cs' fr' d' hg' hu' hd' hi']

attribute [irreducible] pwA lgA

set_option maxRecDepth 100000 in
set_option maxHeartbeats 1000000 in
theorem fill_any (w : World) :
    Calls Try.prog 56 #[] w fun e w' => e = .returned (.tuple #[.agg (pwA 255), .agg (lgA 255)]) ∧ Below w.heap.size w w' := by
  have z0 := zero50
  have z1 := zero51
  go_enter Try.func56, Try.ntmps56
  go_wp2
  go_loopw [2, 3, 4] (fun a _ i wr => ∃ k : Nat, k ≤ 255 ∧ i = .int .i64 (k : Int) ∧ a = .int .u8 ((Gf.pw k : Nat) : Int) ∧ Tabs w wr w.heap.size k ∧ wr.heap.size = w.heap.size + 2) (fun _ _ i _ => 255 - (intOf i).toNat)
  case atStart =>
    refine ⟨0, by omega, rfl, rfl, ⟨heap_alloc2_old w _ _, heap_alloc2_new w _ _, ((Below.refl _ _).alloc (Nat.le_refl _) _).alloc (by simp) _⟩, by simp⟩
  case round =>
    obtain ⟨k, hk, rfl, rfl, ⟨h1, h2, h3⟩, hsz⟩ := hrel
    have hp := Gf.pw_lt k
    have H1 := Lib.hid h1; have H2 := Lib.hid h2; clear h1 h2
    by_cases hlt : k < 255
    · obtain ⟨n1, c1⟩ := pwA_some k k hlt
      obtain ⟨n2, c2⟩ := lgA_some k (Gf.pw k) hp
      have d1 : wr.cell? ⟨w.heap.size, k, none⟩ = some (.int .u8 (n1 : Int)) := (cell_of_row wr _ k _ _ _ H1.out).trans c1
      have d2 : wr.cell? ⟨w.heap.size + 1, Gf.pw k, none⟩ = some (.int .i64 (n2 : Int)) := (cell_of_row wr _ _ _ _ _ H2.out).trans c2
      have f1 : wr.frozen? ⟨w.heap.size, k, none⟩ = false := frozen_of_row wr _ _ _ _ H1.out
      have f2 : wr.frozen? ⟨w.heap.size + 1, Gf.pw k, none⟩ = false := frozen_of_row wr _ _ _ _ H2.out
      have HZ := Lib.hid hsz
      clear c1 c2 hsz z0 z1
      go_wp2_with (go_at_call 61; refine (double_any _ _ (by omega) (by omega)).mono ?_; rintro e w' ⟨rfl, rfl⟩)
      go_roundw
      case rel =>
        refine ⟨k + 1, by omega, by go_num, by simp [Gf.pw], ⟨?_, ?_, ?_⟩, ?_⟩
        · rw [heap_setCell_other _ _ _ _ (by simp), pwA_succ]
          exact heap_setCell_same _ _ _ _ _ _ H1.out
        · rw [lgA_succ]
          refine heap_setCell_same _ _ _ _ _ _ ?_
          rw [heap_setCell_other _ _ _ _ (by simp)]
          exact H2.out
        · exact (h3.setCell (by simp) _).setCell (by simp) _
        · simpa [World.setCell] using HZ.out
      case measure => simp [intOf]; omega
    · have hk2 : k = 255 := by omega
      subst hk2
      have G1 := H1.out
      have G2 := H2.out
      have HZ := Lib.hid hsz
      clear H1 H2 hsz z0 z1
      have HG := Lib.hid G1; have HG2 := Lib.hid G2
      clear G1 G2
      go_wp2
      have G1 : wr.drew.heap[w.heap.size]? = some (.cells (pwA 255) 70 (0, 0)) := HG.out
      have G2 : wr.drew.heap[w.heap.size + 1]? = some (.cells (lgA 255) 71 (0, 0)) := HG2.out
      have E1 : wr.drew.setRow w.heap.size (pwA 255) = wr.drew := setRow_self _ _ _ _ _ G1
      have E2 : wr.drew.setRow (w.heap.size + 1) (lgA 255) = wr.drew := setRow_self _ _ _ _ _ G2
      refine wp_region_any (by kernel_rfl) ?_
      change wpAny _ _ _ _ _ _ _ (World.drew _)
      refine wpAny_ready (rs := [0, 1]) (by kernel_rfl) (by simp) ?_
      have hu1 := Try.underlying70
      have hu2 := Try.underlying71
      have hi1 : (Try.prog.info? 70).map (·.size) = some (pwA 255).size := by rw [pwA_size]; exact under50
      have hi2 : (Try.prog.info? 71).map (·.size) = some (lgA 255).size := by rw [lgA_size]; exact under51
      have hb : Below w.heap.size w wr.drew := h3.drew
      refine AllReady.cons rfl (fun K hK => ?_) (AllReady.cons rfl (fun K hK => ?_) AllReady.nil)
      · (rw [if_pos (by rfl)]; refine wp_load_row 70 (.tmp 0) rfl w.heap.size rfl _ (pwA 255) (0, 0) _ G1 hu1 rfl hi1 ?_; refine hK _ _ ?_; clear hK K)
        refine wpAny_ready (rs := [1, 2]) (by kernel_rfl) (by simp) ?_
        refine AllReady.cons rfl (fun K hK => ?_) (AllReady.cons rfl (fun K hK => ?_) AllReady.nil)
        · (rw [if_pos (by rfl)]; refine wp_load_row 71 (.tmp 1) rfl (w.heap.size + 1) rfl _ (lgA 255) (0, 0) _ G2 hu2 rfl hi2 ?_; refine hK _ _ ?_; clear hK K)
          refine wpAny_ready (rs := [2]) (by kernel_rfl) (by simp) ?_; refine AllReady.cons rfl (fun K hK => ?_) AllReady.nil
          (rw [if_pos (by rfl)]; refine wp_store_row 70 (.tmp 0) (.tmp 16) rfl w.heap.size (pwA 255) rfl rfl _ (pwA 255) G1 hi1 rfl (pwA_one 255) ?_; rw [E1]; refine hK _ _ ?_; clear hK K)
          refine wpAny_ready (rs := [3]) (by kernel_rfl) (by simp) ?_; refine AllReady.cons rfl (fun K hK => ?_) AllReady.nil
          (rw [if_pos (by rfl)]; refine wp_store_row 71 (.tmp 1) (.tmp 17) rfl (w.heap.size + 1) (lgA 255) rfl rfl _ (lgA 255) G2 hi2 rfl (lgA_one 255) ?_; rw [E2]; refine hK _ _ ?_; clear hK K)
          refine wpAny_done (by kernel_rfl) ?_ _
          go_wp2
          exact bodyPost_ret (v := .tuple #[.agg (pwA 255), .agg (lgA 255)]) (results_two_rows Try.results56 _ wr.drew w.heap.size _ (pwA 255) (0, 0) _ rfl G1 hu1 rfl hi1 (w.heap.size + 1) _ (lgA 255) (0, 0) _ rfl G2 hu2 rfl hi2) rfl ⟨rfl, hb⟩
        · (rw [if_pos (by rfl)]; refine wp_store_row 70 (.tmp 0) (.tmp 16) rfl w.heap.size (pwA 255) rfl rfl _ (pwA 255) G1 hi1 rfl (pwA_one 255) ?_; rw [E1]; refine hK _ _ ?_; clear hK K)
          refine wpAny_ready (rs := [1]) (by kernel_rfl) (by simp) ?_; refine AllReady.cons rfl (fun K hK => ?_) AllReady.nil
          (rw [if_pos (by rfl)]; refine wp_load_row 71 (.tmp 1) rfl (w.heap.size + 1) rfl _ (lgA 255) (0, 0) _ G2 hu2 rfl hi2 ?_; refine hK _ _ ?_; clear hK K)
          refine wpAny_ready (rs := [3]) (by kernel_rfl) (by simp) ?_; refine AllReady.cons rfl (fun K hK => ?_) AllReady.nil
          (rw [if_pos (by rfl)]; refine wp_store_row 71 (.tmp 1) (.tmp 17) rfl (w.heap.size + 1) (lgA 255) rfl rfl _ (lgA 255) G2 hi2 rfl (lgA_one 255) ?_; rw [E2]; refine hK _ _ ?_; clear hK K)
          refine wpAny_done (by kernel_rfl) ?_ _
          go_wp2
          exact bodyPost_ret (v := .tuple #[.agg (pwA 255), .agg (lgA 255)]) (results_two_rows Try.results56 _ wr.drew w.heap.size _ (pwA 255) (0, 0) _ rfl G1 hu1 rfl hi1 (w.heap.size + 1) _ (lgA 255) (0, 0) _ rfl G2 hu2 rfl hi2) rfl ⟨rfl, hb⟩
      · (rw [if_pos (by rfl)]; refine wp_load_row 71 (.tmp 1) rfl (w.heap.size + 1) rfl _ (lgA 255) (0, 0) _ G2 hu2 rfl hi2 ?_; refine hK _ _ ?_; clear hK K)
        refine wpAny_ready (rs := [0]) (by kernel_rfl) (by simp) ?_; refine AllReady.cons rfl (fun K hK => ?_) AllReady.nil
        (rw [if_pos (by rfl)]; refine wp_load_row 70 (.tmp 0) rfl w.heap.size rfl _ (pwA 255) (0, 0) _ G1 hu1 rfl hi1 ?_; refine hK _ _ ?_; clear hK K)
        refine wpAny_ready (rs := [2]) (by kernel_rfl) (by simp) ?_; refine AllReady.cons rfl (fun K hK => ?_) AllReady.nil
        (rw [if_pos (by rfl)]; refine wp_store_row 70 (.tmp 0) (.tmp 16) rfl w.heap.size (pwA 255) rfl rfl _ (pwA 255) G1 hi1 rfl (pwA_one 255) ?_; rw [E1]; refine hK _ _ ?_; clear hK K)
        refine wpAny_ready (rs := [3]) (by kernel_rfl) (by simp) ?_; refine AllReady.cons rfl (fun K hK => ?_) AllReady.nil
        (rw [if_pos (by rfl)]; refine wp_store_row 71 (.tmp 1) (.tmp 17) rfl (w.heap.size + 1) (lgA 255) rfl rfl _ (lgA 255) G2 hi2 rfl (lgA_one 255) ?_; rw [E2]; refine hK _ _ ?_; clear hK K)
        refine wpAny_done (by kernel_rfl) ?_ _
        go_wp2
        exact bodyPost_ret (v := .tuple #[.agg (pwA 255), .agg (lgA 255)]) (results_two_rows Try.results56 _ wr.drew w.heap.size _ (pwA 255) (0, 0) _ rfl G1 hu1 rfl hi1 (w.heap.size + 1) _ (lgA 255) (0, 0) _ rfl G2 hu2 rfl hi2) rfl ⟨rfl, hb⟩
end Go.Proofs.Ytchhfpaicdhjbaa
