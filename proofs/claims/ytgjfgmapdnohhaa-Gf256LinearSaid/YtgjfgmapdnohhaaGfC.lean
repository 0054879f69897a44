/- gf256.Pow and Order by the names of the field. -/
import Derived.Test.YtgjfgmapdnohhaaAwake
import Derived.Test.YtgjfgmapdnohhaaGfM
import Derived.Test.YtgjfgmapdnohhaaKitB
namespace Go.Proofs.Ytgjfgmapdnohhaa
open Go.RowKit Go.Kin

theorem pow_anyZ (a n : Int) (w : World) (ha0 : 0 < a) (ha1 : a < 256) :
    Calls Try.prog 14 #[.int .u8 a, .int .i64 n] w fun e w' => e = .returned (.tuple #[.int .u8 (Gf.powZ a.toNat n : Nat), .int .i64 0]) ∧ Below w.heap.size w w' := pow_any a n w ha0 ha1

theorem order_anyO (a : Int) (w : World) (ha0 : 0 < a) (ha1 : a < 256) :
    Calls Try.prog 21 #[.int .u8 a] w fun e w' => e = .returned (.tuple #[.int .i64 (Gf.ord a.toNat : Nat), .int .i64 0]) ∧ Below w.heap.size w w' := order_any a w ha0 ha1

theorem pow_zero_pos' (a n : Int) (w : World) (h : a = 0) (hn : 0 ≤ n) :
    Calls Try.prog 14 #[.int .u8 a, .int .i64 n] w fun e w' => e = .returned (.tuple #[.int .u8 (if n = 0 then 1 else 0), .int .i64 0]) ∧ Below w.heap.size w w' := by
  subst h
  exact pow_zero_pos n w hn

end Go.Proofs.Ytgjfgmapdnohhaa
