/- Races as data. -/
import Derived.Test.YtjfppcejcbfngaaDoorProg
import Derived.Test.YtjfppcejcbfngaaDoorBase
namespace Go.Proofs.YtjfppcejcbfngaaDoor
open Go.RowKit
set_option linter.unusedVariables false

structure Race where
  key : ByteArray
  metres : Int
  stroke : Int
  course : Int
  legs : Int
  sex : Int
  young : Int
  old : Int
def Race.cells (r : Race) : Array Value := #[.string r.key, .int .i64 r.metres, .int .i64 r.stroke, .int .i64 r.course, .int .i64 r.legs, .int .i64 r.sex, .int .i64 r.young, .int .i64 r.old]
abbrev Race.val (r : Race) : Value := .agg r.cells

end Go.Proofs.YtjfppcejcbfngaaDoor
