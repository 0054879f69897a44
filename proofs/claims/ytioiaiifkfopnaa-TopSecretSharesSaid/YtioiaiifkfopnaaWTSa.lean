/- TopSecretShares: inputs that are not looked at. -/
import Derived.Test.YtioiaiifkfopnaaAw
import Derived.Test.YtioiaiifkfopnaaFt
import Derived.Test.YtioiaiifkfopnaaUsed
namespace Go.Proofs.Ytioiaiifkfopnaa
open Go.RowKit Go.Kin
set_option maxRecDepth 100000
set_option linter.unusedVariables false
set_option maxHeartbeats 4000000
theorem ts_no (ms os : ByteArray) (t : Int) (a : Option Addr) (n c : Nat) (b : Option Addr) (m d : Nat) (g : Option Addr) (k e : Nat) (w : World) (ht : -9223372036854775808 ≤ t ∧ t ≤ 9223372036854775807) (hm : m ≤ 9223372036854775807) (hk : k ≤ 9223372036854775807) (hn : n ≤ 9223372036854775807)
    (hv : ¬ (ms.size = 32 ∧ os.size = 32 ∧ 1 ≤ t ∧ t ≤ 5 ∧ (m : Int) = 32 * (t - 1) ∧ k = m ∧ n ≤ 30)) :
    Calls Try.prog 3 #[.string ms, .string os, .int .i64 t, .slice a n c, .slice b m d, .slice g k e] w fun e w' => e = .returned (.bool true) ∧ Below w.heap.size w w' := by
  obtain ⟨p, hp⟩ : ∃ p, p = ms.size := ⟨_, rfl⟩
  obtain ⟨q, hq⟩ : ∃ q, q = os.size := ⟨_, rfl⟩
  have hcase : (((p : Nat) : Int) != 32) = true ∨ ((((p : Nat) : Int) != 32) = false ∧ ((((q : Nat) : Int) != 32) = true ∨ ((((q : Nat) : Int) != 32) = false ∧ (t < 1 ∨ (¬ t < 1 ∧ (5 < t ∨ (¬ 5 < t ∧ ((((m : Nat) : Int) != 32 * (t - 1)) = true ∨ ((((m : Nat) : Int) != 32 * (t - 1)) = false ∧ ((((k : Nat) : Int) != ((m : Nat) : Int)) = true ∨ ((((k : Nat) : Int) != ((m : Nat) : Int)) = false ∧ 30 < ((n : Nat) : Int)))))))))))) := by
    rw [← hp, ← hq] at hv
    simp only [bne_iff_ne, ne_eq, bne_eq_false_iff_eq]
    omega
  rw [hp] at hcase
  rw [hq] at hcase
  clear hv hp hq
  rcases hcase with h1 | ⟨h1, h2 | ⟨h2, h3 | ⟨h3, h4 | ⟨h4, h5 | ⟨h5, h6 | ⟨h6, h7⟩⟩⟩⟩⟩⟩
  all_goals
    go_enter Try.func3, Try.ntmps3
    go_wp2_with (first
      | (go_at_call 5; refine (awake16 _).mono ?_; rintro e w2 ⟨rfl, hb2⟩; have HB2 := Lib.hid (bt HB1.out hb2); clear hb2)
      | (go_at_call 5; refine (awake16 _).mono ?_; rintro e w1 ⟨rfl, hb1⟩; have HB1 := Lib.hid hb1; clear hb1)
      | fail)
    go_ret
    exact ⟨rfl, HB2.out⟩
end Go.Proofs.Ytioiaiifkfopnaa
