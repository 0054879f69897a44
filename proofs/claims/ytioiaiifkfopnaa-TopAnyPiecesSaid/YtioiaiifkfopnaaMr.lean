/- kinkeepref04.Mul, Inv. -/
import Derived.Test.YtioiaiifkfopnaaMs
import Derived.Test.YtioiaiifkfopnaaGfC
namespace Go.Proofs.Ytioiaiifkfopnaa
open Go.RowKit Go.Kin Mat
open Fq (sum)
set_option maxRecDepth 100000

theorem i64_xor_nat (a b : Nat) (ha : a < 65536) (hb : b < 65536) : bits .xor .i64 (a : Int) (b : Int) = ((a ^^^ b : Nat) : Int) := by
  have hx : a ^^^ b < 2 ^ 16 := Nat.xor_lt_two_pow (by omega) (by omega)
  show IntKind.i64.wrap ((BitVec.ofInt 64 (a : Int) ^^^ BitVec.ofInt 64 (b : Int)).toNat : Int) = _
  rw [BitVec.toNat_xor, ofInt_u64 a (by omega), ofInt_u64 b (by omega), IntKind.wrap_i64]
  omega
theorem bit_at (b k : Nat) (hb : b < 256) : bits .and .u8 ((b : Int) / 2 ^ k) 1 = ((b / 2 ^ k % 2 : Nat) : Int) := by
  have e : (b : Int) / 2 ^ k = ((b / 2 ^ k : Nat) : Int) := by simp
  have hle : b / 2 ^ k ≤ b := Nat.div_le_self _ _
  rw [e]
  have h0 : b / 2 ^ k < 256 := by omega
  generalize b / 2 ^ k = c at h0
  rw [and1 _ (by omega) (by omega)]; simp
theorem dbl_big (x : Nat) (hx : x < 256) (h : 128 ≤ x) : bits .xor .i64 ((x : Int) * 2) 285 = ((Gf.dbl x : Nat) : Int) := by
  have e : ∀ x : Nat, x < 256 → 128 ≤ x → (x * 2) ^^^ 285 = Gf.dbl x := by decide +kernel
  rw [show (x : Int) * 2 = ((x * 2 : Nat) : Int) by simp, show (285 : Int) = ((285 : Nat) : Int) from rfl, i64_xor_nat _ _ (by omega) (by omega), e x hx h]
theorem dbl_small (x : Nat) (h : ¬ 128 ≤ x) : (x : Int) * 2 = ((Gf.dbl x : Nat) : Int) := by
  unfold Gf.dbl; rw [if_pos (by omega)]; omega

end Go.Proofs.Ytioiaiifkfopnaa
