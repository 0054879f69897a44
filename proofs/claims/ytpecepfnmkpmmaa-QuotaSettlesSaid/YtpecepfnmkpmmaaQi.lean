/- quota: firstCycle. -/
import Derived.Test.YtpecepfnmkpmmaaQh
import Derived.Laws.EntriesVeiled
namespace Quo
/-- The first cycle of a length that begins with a device. -/
def cyc1 (T : Tab) (len f : Nat) : Option (List Nat) := ext T (len - 1) [f]
def cycL (T : Tab) (len : Nat) : Option (List Nat) := (List.range' 0 T.length).findSome? fun f => cyc1 T len f
/-- The first cycle. -/
def cycF (T : Tab) : Option (List Nat) := (List.range' 2 (T.length - 1)).findSome? fun len => cycL T len
end Quo
namespace Go.Proofs.Ytpecepfnmkpmmaa
open Go.RowKit Go.Kin Quo
set_option maxRecDepth 100000
set_option linter.unusedVariables false

/-- What firstCycle leaves: a slice of the call's own, or nil. -/
def GivesCyc (w : World) (R : Option (List Nat)) (e : Ending) (w' : World) : Prop :=
  Below w.heap.size w w' ∧ ((R = none ∧ e = .returned (.slice none 0 0)) ∨ ∃ q fa fc, R = some q ∧ e = .returned (.slice fa q.length fc) ∧ Own vi w.heap.size 3 w' fa q.length fc (q.map Int.ofNat))

theorem usedL_one (f : Nat) : usedL [f] = usedL [0] := by unfold usedL; rfl
/-- The four variables, laid. -/
def vars4 (w : World) (ta : Option Addr) (n tc : Nat) (v : Value) : World :=
  (((w.alloc (.cells #[.slice ta n tc] 22)).alloc (.cells #[.slice none 0 0] 26)).alloc (.cells #[.bool false, .bool false, .bool false, .bool false, .bool false, .bool false, .bool false, .bool false, .bool false, .bool false, .bool false, .bool false] 87)).alloc (.cells #[v] 88)
theorem vars4_free (w : World) (ta : Option Addr) (n tc : Nat) (v : Value) : (vars4 w ta n tc v).heap[w.heap.size + 1 + 1 + 1]? = some (.cells #[v] 88 (0, 0)) := by
  unfold vars4
  exact hp_new (by simp)
theorem vars4_fc (w : World) (T : Tab) (ta : Option Addr) (n tc : Nat) : Fc w T ta n tc (usedL [0]) (.slice none 0 0) (vars4 w ta n tc (.func (.func 56) #[] #[.pointer (some ⟨w.heap.size, 0, none⟩), .pointer (some ⟨w.heap.size + 1, 0, none⟩), .pointer (some ⟨w.heap.size + 1 + 1, 0, none⟩), .pointer (some ⟨w.heap.size + 1 + 1 + 1, 0, none⟩)])) := by
  have z1 : (w.alloc (.cells #[.slice ta n tc] 22)).heap.size = w.heap.size + 1 := by simp
  have z2 : ((w.alloc (.cells #[.slice ta n tc] 22)).alloc (.cells #[.slice none 0 0] 26)).heap.size = w.heap.size + 2 := by simp
  refine ⟨below_alloc _ (below_alloc _ (below_alloc _ (below_alloc _ (below_refl w)))), hp_old (hp_old (hp_old (hp_new rfl))), hp_old (hp_old (hp_new z1)), hp_old (hp_new z2), ?_⟩
  exact vars4_free w ta n tc _

set_option maxHeartbeats 1000000 in
theorem cyc_any (ta : Option Addr) (n tc : Nat) (T : Tab) (w : World) (h : RdT w ta n tc T) (hT : VT T) :
    Calls Try.prog 43 #[.slice ta n tc] w (GivesCyc w (cycF T)) := by
  have hmf : ∀ (fn : Fn) (first cap : Array Value) (w : World), (Instr.makeFunc fn first cap).run Try.prog w = .ok (.func fn first cap) w := fun _ _ _ _ => rfl
  have hn12 : n ≤ 12 := by have := hT.1; rw [h.len] at this; exact this
  have HH := Lib.hid h
  have hlen := Lib.hid h.len
  have HT := Lib.hid hT
  have hc : (vars4 w ta n tc .nilFunc).cell? ⟨w.heap.size + 1 + 1 + 1, 0, none⟩ = some .nilFunc := cell_one (vars4_free w ta n tc _)
  have hf : (vars4 w ta n tc .nilFunc).frozen? ⟨w.heap.size + 1 + 1 + 1, 0, none⟩ = false := free_one (vars4_free w ta n tc _) 0
  have h1 := vars4_fc w T ta n tc
  unfold vars4 at hc hf h1
  have H1 := Lib.hid h1
  clear h hT h1
  go_enter Try.func43, Try.ntmps43
  go_wp2_with fail
  generalize (((w.alloc (.cells #[.slice ta n tc] 22)).alloc (.cells #[.slice none 0 0] 26)).alloc (.cells #[.bool false, .bool false, .bool false, .bool false, .bool false, .bool false, .bool false, .bool false, .bool false, .bool false, .bool false, .bool false] 87)).alloc (.cells #[.func (.func 56) #[] #[.pointer (some ⟨w.heap.size, 0, none⟩), .pointer (some ⟨w.heap.size + 1, 0, none⟩), .pointer (some ⟨w.heap.size + 1 + 1, 0, none⟩), .pointer (some ⟨w.heap.size + 1 + 1 + 1, 0, none⟩)]] 88) = wq at H1 ⊢
  clear hc hf
  go_loopw [6] (fun z wr => ∃ len : Nat, 2 ≤ len ∧ (len ≤ n + 1 ∨ len = 2) ∧ z = .int .i64 (len : Int) ∧ Hid ((List.range' len (n + 1 - len)).findSome? (cycL T) = cycF T) ∧ Hid (Fc w T ta n tc (usedL [0]) (.slice none 0 0) wr)) (fun z _ => n + 2 - (intOf z).toNat)
  case atStart =>
    refine ⟨2, Nat.le_refl _, .inr rfl, rfl, ?_, H1.out⟩
    have : n + 1 - 2 = n - 1 := by omega
    rw [this, ← hlen.out]; exact rfl
  case round =>
    obtain ⟨len, hl2, hl3, rfl, hfs, hF⟩ := hrel
    have ct := cell_one hF.out.ct
    by_cases hlt : len ≤ n
    · have i2 : (len : Int) ≤ (n : Int) := by omega
      have hsp := findSome_range (cycL T) len (n - len)
      rw [show n - len + 1 = n + 1 - len by omega, hfs.out] at hsp
      have HSP := Lib.hid hsp
      clear hsp
      have hzero : Hid ((List.range' 0 (n - 0)).findSome? (cyc1 T len) = cycL T len) := by
        show _ = (List.range' 0 T.length).findSome? _
        rw [hlen.out]; rfl
      go_wp2_with fail
      rename World => wo
      go_loopw [17] (fun z wr => ∃ f : Nat, f ≤ n ∧ z = .int .i64 (f : Int) ∧ Hid ((List.range' f (n - f)).findSome? (cyc1 T len) = cycL T len) ∧ Hid (Fc w T ta n tc (usedL [0]) (.slice none 0 0) wr)) (fun z _ => n - (intOf z).toNat)
      case atStart => exact ⟨0, by omega, rfl, hzero.out, hF.out⟩
      case round =>
        obtain ⟨f, hfn, rfl, hff, hF2⟩ := hrel
        by_cases hlf : f < n
        · have j2 : (f : Int) < (n : Int) := by omega
          have hsp := findSome_range (cyc1 T len) f (n - (f + 1))
          rw [show n - (f + 1) + 1 = n - f by omega, hff.out] at hsp
          have HSF := Lib.hid hsp
          have ce := cell_one hF2.out.ce
          unfold caps at ce
          have hba := below_alloc (.cells #[.int .i64 (f : Int)] 3 (0, 0)) (below_refl wr)
          have ce2 := (cellBelow hba (lt_of_cell ce)).trans ce
          have hB := blk_new vi 3 wr [(f : Int)]
          have HFA := Lib.hid (hF2.out.fw hba)
          have hs4 := hF2.out.size
          have HAT : Hid (At vi (w.heap.size + 4) 3 (wr.alloc (.cells #[.int .i64 (f : Int)] 3 (0, 0))) (some ⟨wr.heap.size, 0, none⟩) 1 1 ([f].map Int.ofNat)) := hB.at (B := w.heap.size + 4) hs4 (by simp [maxLen])
          have HPA : Hid (Path n [f]) := ⟨by simp, by simpa using hlf, by simp⟩
          have HU : Hid (usedL [f] = usedL [0]) := usedL_one f
          clear hsp hba hB
          have HLI : Hid ((len : Int) = ((1 + (len - 1) : Nat) : Int)) := by show (len : Int) = _; omega
          cases hRk : ext T (len - 1) [f] with
          | none =>
            have hnx : Hid ((List.range' (f + 1) (n - (f + 1))).findSome? (cyc1 T len) = cycL T len) := by
              have := HSF.out
              unfold cyc1 at this ⊢
              rw [hRk] at this; exact this.symm
            go_wp2_with (go_at_call 56; refine (ext_any w T ta n tc HT.out HH.out (len - 1) [f] (some ⟨wr.heap.size, 0, none⟩) 1 1 _ HPA.out (by rw [HU.out]; exact HFA.out) HAT.out (by omega) (len : Int) HLI.out).mono ?_; rw [hRk]; intro e w6 hA; obtain ⟨rfl, ⟨fv, hF6, hn6, _⟩, _, _⟩ := hA; have hfv := hn6 rfl; subst hfv; rw [HU.out] at hF6; have HF6 := Lib.hid hF6; clear hF6 hn6)
            go_roundw
            case rel => exact ⟨f + 1, by omega, by go_num, hnx, HF6⟩
            case measure => simp [intOf]; omega
          | some q =>
            have hRq : Hid (cycF T = some q) := by
              have h1 := HSF.out
              have h2 : cyc1 T len f = some q := hRk
              rw [h2] at h1
              have h3 := HSP.out
              rw [h1] at h3
              exact h3
            go_wp2_with (go_at_call 56; refine (ext_any w T ta n tc HT.out HH.out (len - 1) [f] (some ⟨wr.heap.size, 0, none⟩) 1 1 _ HPA.out (by rw [HU.out]; exact HFA.out) HAT.out (by omega) (len : Int) HLI.out).mono ?_; rw [hRk]; intro e w6 hA; obtain ⟨rfl, ⟨fv, hF6, _, hs6⟩, _, _⟩ := hA; obtain ⟨fa, fc, rfl, hfo⟩ := hs6 q rfl; have cf6 := cell_one hF6.cf; have HF6 := Lib.hid hF6; have HFO := Lib.hid hfo; clear hF6 hs6 hfo)
            go_ret
            exact ⟨HF6.out.bl, .inr ⟨q, fa, fc, hRq.out, rfl, HFO.out.mono (by omega)⟩⟩
        · have hfn2 : f = n := by omega
          subst hfn2
          have hnone : cycL T len = none := by have := hff.out; rw [Nat.sub_self] at this; exact this.symm
          have hnx : Hid ((List.range' (len + 1) (f + 1 - (len + 1))).findSome? (cycL T) = cycF T) := by
            have := HSP.out
            rw [hnone] at this
            rw [show f + 1 - (len + 1) = f - len by omega]
            exact this.symm
          go_wp2_with fail
          go_roundw
          case rel => exact ⟨len + 1, by omega, by omega, by go_num, hnx, hF2⟩
          case measure => simp [intOf]; omega
    · have hnone : Hid (cycF T = none) := by
        have := hfs.out
        rw [show n + 1 - len = 0 by omega] at this
        exact this.symm
      go_wp2_with fail
      go_ret
      exact ⟨hF.out.bl, .inl ⟨hnone.out, rfl⟩⟩
end Go.Proofs.Ytpecepfnmkpmmaa
