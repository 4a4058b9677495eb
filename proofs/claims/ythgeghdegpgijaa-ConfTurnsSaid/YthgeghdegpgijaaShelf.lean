/- No contract of the library is laid here: this program reaches none that lies proved in the kit. -/
import Derived.Test.YthgeghdegpgijaaProg
namespace Go.Proofs
end Go.Proofs
