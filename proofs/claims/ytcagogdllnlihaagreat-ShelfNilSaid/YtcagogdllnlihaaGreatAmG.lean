/- The states of the program's things, in plain Lean. -/
import Derived.Orders
set_option linter.all false
namespace Go.Am

abbrev Blk := List Int
structure GeoS where
  members : Int
  stripes : Int
  ring : Int
  deriving DecidableEq
structure LineS where
  members : Int
  known : List Bool
  dirty : List Bool
  blocks : List Blk
  first : Int
structure LruS where
  room : Int
  items : List (Int × Bool)
structure DiskS where
  sure : List Blk
  loose : List (Int × Blk)
  dead : Bool
structure BenchS where
  disks : List DiskS
  steps : Int
  armed : Int
  dark : Bool
structure ShelfS where
  g : GeoS
  list : LruS
  lines : List (Int × LineS)
inductive Gh where
  | line (s : LineS)
  | lru (s : LruS)
  | disk (s : DiskS)
  | bench (s : BenchS)
  | shelf (s : ShelfS)
end Go.Am
