/- Proved here: slices.Sort at []int, by the shelf's contract laid at this program. -/
import Derived.Test.YtmnkgcnhmkggkaaChecked
import Derived.Shelf.Sort.Plain
import Derived.Shelf.Slices.In.SortNone
import Derived.Shelf.Lay
import Derived.Ground.NamesProg
namespace Go.Proofs
open Go.Shelf Go.Sort Go.RowKit
shelf_lay Lays.n189 Nm 189 at Try as Try.sortI
end Go.Proofs
