/- The shelf's sorts, laid at this program. -/
import Derived.Test.YtahbfifnpceoeaaDoorCave1
import Derived.Shelf.SlSortCmp.Insertion
import Derived.Shelf.Sort.Plain
import Derived.Shelf.Lay
import Derived.Ground.SlsfProg
import Derived.Ground.NamesProg
namespace Go.Proofs
open Go.Shelf Go.RowKit Go.Lib Go.Sort
shelf_lay_g SlLaysF.n20 Slsf 20 at Tryd 83 as Tryd.insL
shelf_lay Lays.n189 Nm 189 at Tryd as Tryd.sortL
end Go.Proofs
