/- GraphOf of the program. -/
import Derived.Test.YtpllijjocccaaaaJoin
namespace Go.Proofs.Ytpllijjocccaaaa
open Go.RowKit Go.Shelf

end Go.Proofs.Ytpllijjocccaaaa
