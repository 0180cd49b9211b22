/- slices.Sort and slices.Compact at []int: the shelf's contracts, laid at this program. -/
import Derived.Test.YtokbjopmfcggdaaCore
import Derived.Ground.NamesProg
import Derived.Shelf.Lay
import Derived.Shelf.Sort.Plain
import Derived.Shelf.Slices.In.SortNone2
import Derived.Shelf.Slices.CompactI
namespace Go.Proofs
open Go.Shelf
shelf_lay Lays.n189 Nm 189 at Try as Try.laysSort
shelf_lay Lays2.n20 Nm2 20 at Try as Try.laysCompact
end Go.Proofs
