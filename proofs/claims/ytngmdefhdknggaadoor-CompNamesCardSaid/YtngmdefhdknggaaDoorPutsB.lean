/- Package cursor's Put1 and Put4, walked. -/
import Derived.Test.YtngmdefhdknggaaDoorPuts
namespace Go.Proofs.YtngmdefhdknggaaDoor.Put
open Go.RowKit

def one (n : Nat) : List UInt8 := [UInt8.ofNat n]
def four (n : Nat) : List UInt8 := [UInt8.ofNat (n / 16777216), UInt8.ofNat (n / 65536), UInt8.ofNat (n / 256), UInt8.ofNat n]

end Go.Proofs.YtngmdefhdknggaaDoor.Put
