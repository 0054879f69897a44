/- gf256.Pow and Order by the names of the field. -/
import Derived.Test.YtkbcingibgnnpaaGfB
import Derived.Test.YtkbcingibgnnpaaGfM
import Derived.Test.YtkbcingibgnnpaaKitB
namespace Go.Proofs.Ytkbcingibgnnpaa
open Go.RowKit Go.Kin

end Go.Proofs.Ytkbcingibgnnpaa
