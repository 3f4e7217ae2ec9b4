/- CodeHas. -/
import Derived.Test.YtojfafmfnblocaaTwins
namespace Go.Proofs.Ytojfafmfnblocaa
open Go.RowKit Go.Shelf

def codeHasB (zs : List Int) : Bool := graphB zs && decide ((GraphTwinsR zs).length = 0)
end Go.Proofs.Ytojfafmfnblocaa
