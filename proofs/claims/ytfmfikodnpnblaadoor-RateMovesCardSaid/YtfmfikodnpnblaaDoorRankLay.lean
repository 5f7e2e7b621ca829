/- slices.insertionSortCmpFunc at this dump: the kit's contract, laid. -/
import Derived.Test.YtfmfikodnpnblaaDoorFltNone
import Derived.Shelf.SlSortCmp.Insertion1
import Derived.Shelf.Lay
import Derived.Ground.SlsfProg
namespace Go.Proofs
open Go.Shelf
shelf_lay_g SlLaysF.n20 Slsf 20 at Tryd 105 as Tryd.insL
end Go.Proofs
