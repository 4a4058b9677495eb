/- The contracts of library functions that lie proved in the kit, stated at this program (the kit's own command wrote the text). -/
import Derived.Shelf.Lay
import Derived.Shelf.LaySoft

import Derived.Test.YthgeghdegpgijaaProg
namespace Go.Proofs
open Go.Shelf
shelf_tried
end Go.Proofs
