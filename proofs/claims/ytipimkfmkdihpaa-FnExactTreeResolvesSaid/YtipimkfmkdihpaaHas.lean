/- CodeHas. -/
import Derived.Test.YtipimkfmkdihpaaTwins
namespace Go.Proofs.Ytipimkfmkdihpaa
open Go.RowKit Go.Shelf

def codeHasB (zs : List Int) : Bool := graphB zs && decide ((GraphTwinsR zs).length = 0)
end Go.Proofs.Ytipimkfmkdihpaa
