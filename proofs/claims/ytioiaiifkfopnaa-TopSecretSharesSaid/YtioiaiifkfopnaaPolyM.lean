/- polynomial.Mul. -/
import Derived.Test.YtioiaiifkfopnaaPolyW
namespace Go.Proofs.Ytioiaiifkfopnaa
open Go.RowKit Go.Kin
set_option maxRecDepth 100000

end Go.Proofs.Ytioiaiifkfopnaa
