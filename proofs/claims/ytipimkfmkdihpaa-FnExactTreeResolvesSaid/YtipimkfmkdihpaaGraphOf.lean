/- GraphOf of the program. -/
import Derived.Test.YtipimkfmkdihpaaJoin
namespace Go.Proofs.Ytipimkfmkdihpaa
open Go.RowKit Go.Shelf

end Go.Proofs.Ytipimkfmkdihpaa
