/- CodeHas. -/
import Derived.Test.YtmaogoeclndfbaaTwins
namespace Go.Proofs.Ytmaogoeclndfbaa
open Go.RowKit Go.Shelf

def codeHasB (zs : List Int) : Bool := graphB zs && decide ((GraphTwinsR zs).length = 0)
end Go.Proofs.Ytmaogoeclndfbaa
