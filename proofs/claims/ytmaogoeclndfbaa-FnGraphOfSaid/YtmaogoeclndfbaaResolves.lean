/- Resolving codes: resolves of the program. -/
import Derived.Test.YtmaogoeclndfbaaCodeM
namespace Go.Proofs.Ytmaogoeclndfbaa
open Go.RowKit Go.Shelf
attribute [local go_sem] Oper.semAt_some

end Go.Proofs.Ytmaogoeclndfbaa
