/- Printed functions. -/
import Derived.Test.YtibaodefgncbmaaE1
import Derived.Test.YtibaodefgncbmaaDetT
import Derived.Test.YtibaodefgncbmaaDetX
import Derived.Test.YtibaodefgncbmaaProg
set_option autoImplicit false
set_option linter.unusedVariables false
set_option linter.unusedSimpArgs false
namespace Go.Det.E
open Go.Proofs Go.Det


end Go.Det.E
