/- The law FnExactRingIdentifies: its walk lies in FormS. -/
import Derived.Test.YtjjnjmemfeadnaaFormS
namespace Go.Proofs.Ytjjnjmemfeadnaa
end Go.Proofs.Ytjjnjmemfeadnaa
