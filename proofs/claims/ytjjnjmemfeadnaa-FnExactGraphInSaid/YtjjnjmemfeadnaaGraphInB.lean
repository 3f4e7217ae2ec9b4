import Derived.Test.YtjjnjmemfeadnaaSGraphIn
/- GraphIn of both packages: one contract each. -/
namespace Go.Proofs.Ytjjnjmemfeadnaa
open Go.RowKit Go.Shelf
theorem GraphInB_any (a : Option Addr) (n cap : Nat) (zs : List Int) (w : World) (hs : SlAt w a n zs) :
    Calls Try.prog 17 #[.slice a n cap] w fun e w' => e = .returned (.bool (graphB zs)) ∧ Below w.heap.size w w' :=
  GraphIn_is _ a n cap zs w hs rfl
theorem sGraphInB_any (a : Option Addr) (n cap : Nat) (zs : List Int) (w : World) (hs : SlAt w a n zs) :
    Calls Try.prog 15 #[.slice a n cap] w fun e w' => e = .returned (.bool (graphB zs)) ∧ Below w.heap.size w w' :=
  sGraphIn_is _ a n cap zs w hs rfl
end Go.Proofs.Ytjjnjmemfeadnaa
