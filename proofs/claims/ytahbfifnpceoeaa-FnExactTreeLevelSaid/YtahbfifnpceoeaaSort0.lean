/- The shelf's sorts, laid at this program. -/
import Derived.Test.YtahbfifnpceoeaaCave1
import Derived.Shelf.SlSortCmp.Insertion
import Derived.Shelf.Sort.Plain
import Derived.Shelf.Lay
import Derived.Ground.SlsfProg
import Derived.Ground.NamesProg
namespace Go.Proofs
open Go.Shelf Go.RowKit Go.Lib Go.Sort
shelf_lay_g SlLaysF.n20 Slsf 20 at Try 61 as Try.insL
shelf_lay Lays.n189 Nm 189 at Try as Try.sortL
end Go.Proofs
