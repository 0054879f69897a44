/- gf256.Pow and Order by the names of the field. -/
import Derived.Test.YtchhfpaicdhjbaaGfB
import Derived.Test.YtchhfpaicdhjbaaGfM
import Derived.Test.YtchhfpaicdhjbaaKitB
namespace Go.Proofs.Ytchhfpaicdhjbaa
open Go.RowKit Go.Kin

theorem pow_anyZ (a n : Int) (w : World) (ha0 : 0 < a) (ha1 : a < 256) :
    Calls Try.prog 52 #[.int .u8 a, .int .i64 n] w fun e w' => e = .returned (.tuple #[.int .u8 (Gf.powZ a.toNat n : Nat), .int .i64 0]) ∧ Below w.heap.size w w' := pow_any a n w ha0 ha1

theorem pow_zero_pos' (a n : Int) (w : World) (h : a = 0) (hn : 0 ≤ n) :
    Calls Try.prog 52 #[.int .u8 a, .int .i64 n] w fun e w' => e = .returned (.tuple #[.int .u8 (if n = 0 then 1 else 0), .int .i64 0]) ∧ Below w.heap.size w w' := by
  subst h
  exact pow_zero_pos n w hn

end Go.Proofs.Ytchhfpaicdhjbaa
