/- GraphOf of the program. -/
import Derived.Test.YtjjnjmemfeadnaaJoin
namespace Go.Proofs.Ytjjnjmemfeadnaa
open Go.RowKit Go.Shelf

end Go.Proofs.Ytjjnjmemfeadnaa
