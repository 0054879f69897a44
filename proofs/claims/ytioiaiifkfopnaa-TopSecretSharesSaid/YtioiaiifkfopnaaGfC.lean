/- gf256.Pow and Order by the names of the field. -/
import Derived.Test.YtioiaiifkfopnaaGfB
import Derived.Test.YtioiaiifkfopnaaGfM
import Derived.Test.YtioiaiifkfopnaaKitB
namespace Go.Proofs.Ytioiaiifkfopnaa
open Go.RowKit Go.Kin

end Go.Proofs.Ytioiaiifkfopnaa
