/- The examples of the chapter: run by evaluation, call by call. -/
import Derived.Test.YtgaijhpekajflaaSK
set_option maxRecDepth 1000000
namespace Go.Ab
open Go Go.Proofs

theorem call0 : runY 19 [(.agg [(.i .i64 5), (.ss [(.i .i64 0), (.i .i64 1), (.i .i64 30), (.i .i64 1), (.i .i64 2), (.i .i64 10), (.i .i64 2), (.i .i64 0), (.i .i64 10), (.i .i64 3), (.i .i64 4), (.i .i64 15)] 4 true)])] = some ((.tup [(.ss [(.i .i64 (-20)), (.i .i64 20), (.i .i64 0), (.i .i64 (-15)), (.i .i64 15)] 5 false), (.i .i64 0)]), []) := by kernel_rfl
theorem call1 : runY 24 [(.agg [(.i .i64 5), (.ss [(.i .i64 0), (.i .i64 1), (.i .i64 30), (.i .i64 1), (.i .i64 2), (.i .i64 10), (.i .i64 2), (.i .i64 0), (.i .i64 10), (.i .i64 3), (.i .i64 4), (.i .i64 15)] 4 true)]), (.ss [(.i .i64 0), (.i .i64 4), (.i .i64 15), (.i .i64 0), (.i .i64 1), (.i .i64 5), (.i .i64 3), (.i .i64 1), (.i .i64 15)] 3 true)] = some ((.i .i64 0), []) := by kernel_rfl
theorem call2 : runY 24 [(.agg [(.i .i64 5), (.ss [(.i .i64 0), (.i .i64 1), (.i .i64 30), (.i .i64 1), (.i .i64 2), (.i .i64 10), (.i .i64 2), (.i .i64 0), (.i .i64 10), (.i .i64 3), (.i .i64 4), (.i .i64 15)] 4 true)]), (.ss [(.i .i64 0), (.i .i64 1), (.i .i64 20)] 1 true)] = some ((.i .i64 14), []) := by kernel_rfl
theorem call3 : runY 28 [(.agg [(.i .i64 5), (.ss [(.i .i64 0), (.i .i64 1), (.i .i64 30), (.i .i64 1), (.i .i64 2), (.i .i64 10), (.i .i64 2), (.i .i64 0), (.i .i64 10), (.i .i64 3), (.i .i64 4), (.i .i64 15)] 4 true)])] = some ((.tup [(.ss [(.i .i64 0), (.i .i64 1), (.i .i64 20), (.i .i64 3), (.i .i64 4), (.i .i64 15)] 2 false), (.i .i64 0)]), []) := by kernel_rfl
theorem call4 : runY 26 [(.agg [(.i .i64 6), (.ss [(.i .i64 1), (.i .i64 0), (.i .i64 1), (.i .i64 3), (.i .i64 2), (.i .i64 2), (.i .i64 5), (.i .i64 4), (.i .i64 3)] 3 true)])] = some ((.tup [(.i .i64 3), (.i .i64 0)]), []) := by kernel_rfl
theorem call5 : runY 31 [(.agg [(.i .i64 5), (.ss [(.i .i64 0), (.i .i64 1), (.i .i64 30), (.i .i64 1), (.i .i64 2), (.i .i64 10), (.i .i64 2), (.i .i64 0), (.i .i64 10), (.i .i64 3), (.i .i64 4), (.i .i64 15)] 4 true)])] = some ((.tup [(.ss [(.i .i64 3), (.i .i64 4), (.i .i64 24)] 3 false), (.i .i64 0)]), []) := by kernel_rfl
theorem call6 : runY 29 [(.agg [(.i .i64 5), (.ss [(.i .i64 0), (.i .i64 1), (.i .i64 30), (.i .i64 1), (.i .i64 2), (.i .i64 10), (.i .i64 2), (.i .i64 0), (.i .i64 10), (.i .i64 3), (.i .i64 4), (.i .i64 15)] 4 true)]), (.ss [(.i .i64 7), (.i .i64 24)] 2 true)] = some ((.tup [(.i .i64 2), (.i .i64 0)]), []) := by kernel_rfl
theorem call7 : runY 29 [(.agg [(.i .i64 5), (.ss [(.i .i64 0), (.i .i64 1), (.i .i64 30), (.i .i64 1), (.i .i64 2), (.i .i64 10), (.i .i64 2), (.i .i64 0), (.i .i64 10), (.i .i64 3), (.i .i64 4), (.i .i64 15)] 4 true)]), (.ss [(.i .i64 1), (.i .i64 30)] 2 true)] = some ((.tup [(.i .i64 0), (.i .i64 14)]), []) := by kernel_rfl
theorem call8 : runY 36 [(.agg [(.i .i64 2), (.ss [(.i .i64 0), (.i .i64 1), (.i .i64 5)] 1 true)])] = some ((.tup [(.ss [(.i .i64 0), (.i .i64 0), (.i .i64 0), (.i .i64 1)] 4 false), (.i .i64 0)]), []) := by kernel_rfl
theorem call9 : runY 34 [(.agg [(.i .i64 2), (.ss [(.i .i64 0), (.i .i64 1), (.i .i64 5)] 1 true)]), (.ss [(.i .i64 0), (.i .i64 1), (.i .i64 0), (.i .i64 2)] 4 true)] = some ((.tup [(.i .i64 2), (.i .i64 0)]), []) := by kernel_rfl
theorem call10 : runY 34 [(.agg [(.i .i64 2), (.ss [(.i .i64 0), (.i .i64 1), (.i .i64 5)] 1 true)]), (.ss [(.i .i64 0), (.i .i64 1), (.i .i64 0), (.i .i64 1)] 4 true)] = some ((.tup [(.i .i64 0), (.i .i64 14)]), []) := by kernel_rfl
theorem call11 : runY 37 [(.agg [(.i .i64 6), (.ss [(.i .i64 1), (.i .i64 0), (.i .i64 1), (.i .i64 3), (.i .i64 2), (.i .i64 2), (.i .i64 5), (.i .i64 4), (.i .i64 3)] 3 true)]), (.i .i64 37)] = some ((.tup [(.i .i64 1), (.i .i64 0)]), []) := by kernel_rfl
theorem call12 : runY 37 [(.agg [(.i .i64 5), (.ss [(.i .i64 0), (.i .i64 1), (.i .i64 30), (.i .i64 1), (.i .i64 2), (.i .i64 10), (.i .i64 2), (.i .i64 0), (.i .i64 10), (.i .i64 3), (.i .i64 4), (.i .i64 15)] 4 true)]), (.i .i64 1)] = some ((.tup [(.i .i64 0), (.i .i64 14)]), []) := by kernel_rfl
theorem call13 : runY 39 [(.agg [(.i .i64 5), (.ss [(.i .i64 0), (.i .i64 1), (.i .i64 30), (.i .i64 1), (.i .i64 2), (.i .i64 10), (.i .i64 2), (.i .i64 0), (.i .i64 10), (.i .i64 3), (.i .i64 4), (.i .i64 15)] 4 true)])] = some ((.tup [(.ss [(.i .i64 0), (.i .i64 1), (.i .i64 2)] 3 false), (.i .i64 0)]), []) := by kernel_rfl
theorem call14 : runY 39 [(.agg [(.i .i64 6), (.ss [(.i .i64 1), (.i .i64 0), (.i .i64 1), (.i .i64 3), (.i .i64 2), (.i .i64 2), (.i .i64 5), (.i .i64 4), (.i .i64 3)] 3 true)])] = some ((.tup [(.ss [] 0 true), (.i .i64 5)]), []) := by kernel_rfl
theorem call15 : runY 41 [(.agg [(.i .i64 5), (.ss [(.i .i64 0), (.i .i64 1), (.i .i64 30), (.i .i64 1), (.i .i64 2), (.i .i64 10), (.i .i64 2), (.i .i64 0), (.i .i64 10), (.i .i64 3), (.i .i64 4), (.i .i64 15)] 4 true)])] = some ((.tup [(.agg [(.i .i64 5), (.ss [(.i .i64 0), (.i .i64 1), (.i .i64 20), (.i .i64 3), (.i .i64 4), (.i .i64 15)] 2 false)]), (.i .i64 0)]), []) := by kernel_rfl
theorem call16 : runY 35 [(.agg [(.i .i64 2), (.ss [(.i .i64 0), (.i .i64 1), (.i .i64 5)] 1 true)]), (.ss [(.i .i64 0), (.i .i64 0), (.i .i64 0), (.i .i64 1)] 4 false)] = some ((.tup [(.i .i64 1), (.i .i64 0)]), []) := by kernel_rfl
theorem call17 : runY 25 [(.agg [(.i .i64 5), (.ss [(.i .i64 0), (.i .i64 1), (.i .i64 30), (.i .i64 1), (.i .i64 2), (.i .i64 10), (.i .i64 2), (.i .i64 0), (.i .i64 10), (.i .i64 3), (.i .i64 4), (.i .i64 15)] 4 true)]), (.ss [(.i .i64 0), (.i .i64 1), (.i .i64 20), (.i .i64 3), (.i .i64 4), (.i .i64 15)] 2 false)] = some ((.i .i64 0), []) := by kernel_rfl
theorem call18 : runY 43 [(.agg [(.i .i64 5), (.ss [(.i .i64 0), (.i .i64 1), (.i .i64 30), (.i .i64 1), (.i .i64 2), (.i .i64 10), (.i .i64 2), (.i .i64 0), (.i .i64 10), (.i .i64 3), (.i .i64 4), (.i .i64 15)] 4 true)]), (.ss [(.i .i64 0), (.i .i64 1), (.i .i64 2)] 3 false)] = some ((.b true), []) := by kernel_rfl
theorem call19 : runY 44 [(.agg [(.i .i64 5), (.ss [(.i .i64 0), (.i .i64 1), (.i .i64 30), (.i .i64 1), (.i .i64 2), (.i .i64 10), (.i .i64 2), (.i .i64 0), (.i .i64 10), (.i .i64 3), (.i .i64 4), (.i .i64 15)] 4 true)]), (.agg [(.i .i64 5), (.ss [(.i .i64 0), (.i .i64 1), (.i .i64 20), (.i .i64 3), (.i .i64 4), (.i .i64 15)] 2 false)])] = some ((.b true), []) := by kernel_rfl
theorem call20 : runY 24 [(.agg [(.i .i64 5), (.ss [(.i .i64 0), (.i .i64 1), (.i .i64 30), (.i .i64 1), (.i .i64 2), (.i .i64 10), (.i .i64 2), (.i .i64 0), (.i .i64 10), (.i .i64 3), (.i .i64 4), (.i .i64 15)] 4 true)]), (.ss [(.i .i64 0), (.i .i64 1), (.i .i64 20), (.i .i64 3), (.i .i64 4), (.i .i64 15)] 2 true)] = some ((.i .i64 0), []) := by kernel_rfl
theorem call21 : runY 26 [(.agg [(.i .i64 5), (.ss [(.i .i64 0), (.i .i64 1), (.i .i64 30), (.i .i64 1), (.i .i64 2), (.i .i64 10), (.i .i64 2), (.i .i64 0), (.i .i64 10), (.i .i64 3), (.i .i64 4), (.i .i64 15)] 4 true)])] = some ((.tup [(.i .i64 2), (.i .i64 0)]), []) := by kernel_rfl
theorem call22 : runY 29 [(.agg [(.i .i64 5), (.ss [(.i .i64 0), (.i .i64 1), (.i .i64 30), (.i .i64 1), (.i .i64 2), (.i .i64 10), (.i .i64 2), (.i .i64 0), (.i .i64 10), (.i .i64 3), (.i .i64 4), (.i .i64 15)] 4 true)]), (.ss [(.i .i64 3), (.i .i64 4), (.i .i64 24)] 3 true)] = some ((.tup [(.i .i64 3), (.i .i64 0)]), []) := by kernel_rfl
theorem call23 : runY 29 [(.agg [(.i .i64 5), (.ss [(.i .i64 0), (.i .i64 1), (.i .i64 30), (.i .i64 1), (.i .i64 2), (.i .i64 10), (.i .i64 2), (.i .i64 0), (.i .i64 10), (.i .i64 3), (.i .i64 4), (.i .i64 15)] 4 true)]), (.ss [(.i .i64 3), (.i .i64 24)] 2 true)] = some ((.tup [(.i .i64 0), (.i .i64 16)]), []) := by kernel_rfl
theorem call24 : runY 34 [(.agg [(.i .i64 2), (.ss [(.i .i64 0), (.i .i64 1), (.i .i64 5)] 1 true)]), (.ss [(.i .i64 0), (.i .i64 0), (.i .i64 0), (.i .i64 1)] 4 true)] = some ((.tup [(.i .i64 1), (.i .i64 0)]), []) := by kernel_rfl
theorem call25 : runY 34 [(.agg [(.i .i64 2), (.ss [(.i .i64 0), (.i .i64 1), (.i .i64 5)] 1 true)]), (.ss [(.i .i64 0), (.i .i64 0), (.i .i64 0), (.i .i64 0)] 4 true)] = some ((.tup [(.i .i64 0), (.i .i64 14)]), []) := by kernel_rfl
theorem call26 : runY 37 [(.agg [(.i .i64 5), (.ss [(.i .i64 0), (.i .i64 1), (.i .i64 30), (.i .i64 1), (.i .i64 2), (.i .i64 10), (.i .i64 2), (.i .i64 0), (.i .i64 10), (.i .i64 3), (.i .i64 4), (.i .i64 15)] 4 true)]), (.i .i64 3)] = some ((.tup [(.i .i64 0), (.i .i64 0)]), []) := by kernel_rfl
theorem call27 : runY 31 [(.agg [(.i .i64 6), (.ss [(.i .i64 1), (.i .i64 0), (.i .i64 1), (.i .i64 3), (.i .i64 2), (.i .i64 2), (.i .i64 5), (.i .i64 4), (.i .i64 3)] 3 true)])] = some ((.tup [(.ss [(.i .i64 3), (.i .i64 12), (.i .i64 48)] 3 false), (.i .i64 0)]), []) := by kernel_rfl

/-- What has been run. -/
def memo : List (FuncId × List V × V) := [
  (19, [(.agg [(.i .i64 5), (.ss [(.i .i64 0), (.i .i64 1), (.i .i64 30), (.i .i64 1), (.i .i64 2), (.i .i64 10), (.i .i64 2), (.i .i64 0), (.i .i64 10), (.i .i64 3), (.i .i64 4), (.i .i64 15)] 4 true)])], (.tup [(.ss [(.i .i64 (-20)), (.i .i64 20), (.i .i64 0), (.i .i64 (-15)), (.i .i64 15)] 5 false), (.i .i64 0)])),
  (24, [(.agg [(.i .i64 5), (.ss [(.i .i64 0), (.i .i64 1), (.i .i64 30), (.i .i64 1), (.i .i64 2), (.i .i64 10), (.i .i64 2), (.i .i64 0), (.i .i64 10), (.i .i64 3), (.i .i64 4), (.i .i64 15)] 4 true)]), (.ss [(.i .i64 0), (.i .i64 4), (.i .i64 15), (.i .i64 0), (.i .i64 1), (.i .i64 5), (.i .i64 3), (.i .i64 1), (.i .i64 15)] 3 true)], (.i .i64 0)),
  (24, [(.agg [(.i .i64 5), (.ss [(.i .i64 0), (.i .i64 1), (.i .i64 30), (.i .i64 1), (.i .i64 2), (.i .i64 10), (.i .i64 2), (.i .i64 0), (.i .i64 10), (.i .i64 3), (.i .i64 4), (.i .i64 15)] 4 true)]), (.ss [(.i .i64 0), (.i .i64 1), (.i .i64 20)] 1 true)], (.i .i64 14)),
  (28, [(.agg [(.i .i64 5), (.ss [(.i .i64 0), (.i .i64 1), (.i .i64 30), (.i .i64 1), (.i .i64 2), (.i .i64 10), (.i .i64 2), (.i .i64 0), (.i .i64 10), (.i .i64 3), (.i .i64 4), (.i .i64 15)] 4 true)])], (.tup [(.ss [(.i .i64 0), (.i .i64 1), (.i .i64 20), (.i .i64 3), (.i .i64 4), (.i .i64 15)] 2 false), (.i .i64 0)])),
  (26, [(.agg [(.i .i64 6), (.ss [(.i .i64 1), (.i .i64 0), (.i .i64 1), (.i .i64 3), (.i .i64 2), (.i .i64 2), (.i .i64 5), (.i .i64 4), (.i .i64 3)] 3 true)])], (.tup [(.i .i64 3), (.i .i64 0)])),
  (31, [(.agg [(.i .i64 5), (.ss [(.i .i64 0), (.i .i64 1), (.i .i64 30), (.i .i64 1), (.i .i64 2), (.i .i64 10), (.i .i64 2), (.i .i64 0), (.i .i64 10), (.i .i64 3), (.i .i64 4), (.i .i64 15)] 4 true)])], (.tup [(.ss [(.i .i64 3), (.i .i64 4), (.i .i64 24)] 3 false), (.i .i64 0)])),
  (29, [(.agg [(.i .i64 5), (.ss [(.i .i64 0), (.i .i64 1), (.i .i64 30), (.i .i64 1), (.i .i64 2), (.i .i64 10), (.i .i64 2), (.i .i64 0), (.i .i64 10), (.i .i64 3), (.i .i64 4), (.i .i64 15)] 4 true)]), (.ss [(.i .i64 7), (.i .i64 24)] 2 true)], (.tup [(.i .i64 2), (.i .i64 0)])),
  (29, [(.agg [(.i .i64 5), (.ss [(.i .i64 0), (.i .i64 1), (.i .i64 30), (.i .i64 1), (.i .i64 2), (.i .i64 10), (.i .i64 2), (.i .i64 0), (.i .i64 10), (.i .i64 3), (.i .i64 4), (.i .i64 15)] 4 true)]), (.ss [(.i .i64 1), (.i .i64 30)] 2 true)], (.tup [(.i .i64 0), (.i .i64 14)])),
  (36, [(.agg [(.i .i64 2), (.ss [(.i .i64 0), (.i .i64 1), (.i .i64 5)] 1 true)])], (.tup [(.ss [(.i .i64 0), (.i .i64 0), (.i .i64 0), (.i .i64 1)] 4 false), (.i .i64 0)])),
  (34, [(.agg [(.i .i64 2), (.ss [(.i .i64 0), (.i .i64 1), (.i .i64 5)] 1 true)]), (.ss [(.i .i64 0), (.i .i64 1), (.i .i64 0), (.i .i64 2)] 4 true)], (.tup [(.i .i64 2), (.i .i64 0)])),
  (34, [(.agg [(.i .i64 2), (.ss [(.i .i64 0), (.i .i64 1), (.i .i64 5)] 1 true)]), (.ss [(.i .i64 0), (.i .i64 1), (.i .i64 0), (.i .i64 1)] 4 true)], (.tup [(.i .i64 0), (.i .i64 14)])),
  (37, [(.agg [(.i .i64 6), (.ss [(.i .i64 1), (.i .i64 0), (.i .i64 1), (.i .i64 3), (.i .i64 2), (.i .i64 2), (.i .i64 5), (.i .i64 4), (.i .i64 3)] 3 true)]), (.i .i64 37)], (.tup [(.i .i64 1), (.i .i64 0)])),
  (37, [(.agg [(.i .i64 5), (.ss [(.i .i64 0), (.i .i64 1), (.i .i64 30), (.i .i64 1), (.i .i64 2), (.i .i64 10), (.i .i64 2), (.i .i64 0), (.i .i64 10), (.i .i64 3), (.i .i64 4), (.i .i64 15)] 4 true)]), (.i .i64 1)], (.tup [(.i .i64 0), (.i .i64 14)])),
  (39, [(.agg [(.i .i64 5), (.ss [(.i .i64 0), (.i .i64 1), (.i .i64 30), (.i .i64 1), (.i .i64 2), (.i .i64 10), (.i .i64 2), (.i .i64 0), (.i .i64 10), (.i .i64 3), (.i .i64 4), (.i .i64 15)] 4 true)])], (.tup [(.ss [(.i .i64 0), (.i .i64 1), (.i .i64 2)] 3 false), (.i .i64 0)])),
  (39, [(.agg [(.i .i64 6), (.ss [(.i .i64 1), (.i .i64 0), (.i .i64 1), (.i .i64 3), (.i .i64 2), (.i .i64 2), (.i .i64 5), (.i .i64 4), (.i .i64 3)] 3 true)])], (.tup [(.ss [] 0 true), (.i .i64 5)])),
  (41, [(.agg [(.i .i64 5), (.ss [(.i .i64 0), (.i .i64 1), (.i .i64 30), (.i .i64 1), (.i .i64 2), (.i .i64 10), (.i .i64 2), (.i .i64 0), (.i .i64 10), (.i .i64 3), (.i .i64 4), (.i .i64 15)] 4 true)])], (.tup [(.agg [(.i .i64 5), (.ss [(.i .i64 0), (.i .i64 1), (.i .i64 20), (.i .i64 3), (.i .i64 4), (.i .i64 15)] 2 false)]), (.i .i64 0)])),
  (35, [(.agg [(.i .i64 2), (.ss [(.i .i64 0), (.i .i64 1), (.i .i64 5)] 1 true)]), (.ss [(.i .i64 0), (.i .i64 0), (.i .i64 0), (.i .i64 1)] 4 false)], (.tup [(.i .i64 1), (.i .i64 0)])),
  (25, [(.agg [(.i .i64 5), (.ss [(.i .i64 0), (.i .i64 1), (.i .i64 30), (.i .i64 1), (.i .i64 2), (.i .i64 10), (.i .i64 2), (.i .i64 0), (.i .i64 10), (.i .i64 3), (.i .i64 4), (.i .i64 15)] 4 true)]), (.ss [(.i .i64 0), (.i .i64 1), (.i .i64 20), (.i .i64 3), (.i .i64 4), (.i .i64 15)] 2 false)], (.i .i64 0)),
  (43, [(.agg [(.i .i64 5), (.ss [(.i .i64 0), (.i .i64 1), (.i .i64 30), (.i .i64 1), (.i .i64 2), (.i .i64 10), (.i .i64 2), (.i .i64 0), (.i .i64 10), (.i .i64 3), (.i .i64 4), (.i .i64 15)] 4 true)]), (.ss [(.i .i64 0), (.i .i64 1), (.i .i64 2)] 3 false)], (.b true)),
  (44, [(.agg [(.i .i64 5), (.ss [(.i .i64 0), (.i .i64 1), (.i .i64 30), (.i .i64 1), (.i .i64 2), (.i .i64 10), (.i .i64 2), (.i .i64 0), (.i .i64 10), (.i .i64 3), (.i .i64 4), (.i .i64 15)] 4 true)]), (.agg [(.i .i64 5), (.ss [(.i .i64 0), (.i .i64 1), (.i .i64 20), (.i .i64 3), (.i .i64 4), (.i .i64 15)] 2 false)])], (.b true)),
  (24, [(.agg [(.i .i64 5), (.ss [(.i .i64 0), (.i .i64 1), (.i .i64 30), (.i .i64 1), (.i .i64 2), (.i .i64 10), (.i .i64 2), (.i .i64 0), (.i .i64 10), (.i .i64 3), (.i .i64 4), (.i .i64 15)] 4 true)]), (.ss [(.i .i64 0), (.i .i64 1), (.i .i64 20), (.i .i64 3), (.i .i64 4), (.i .i64 15)] 2 true)], (.i .i64 0)),
  (26, [(.agg [(.i .i64 5), (.ss [(.i .i64 0), (.i .i64 1), (.i .i64 30), (.i .i64 1), (.i .i64 2), (.i .i64 10), (.i .i64 2), (.i .i64 0), (.i .i64 10), (.i .i64 3), (.i .i64 4), (.i .i64 15)] 4 true)])], (.tup [(.i .i64 2), (.i .i64 0)])),
  (29, [(.agg [(.i .i64 5), (.ss [(.i .i64 0), (.i .i64 1), (.i .i64 30), (.i .i64 1), (.i .i64 2), (.i .i64 10), (.i .i64 2), (.i .i64 0), (.i .i64 10), (.i .i64 3), (.i .i64 4), (.i .i64 15)] 4 true)]), (.ss [(.i .i64 3), (.i .i64 4), (.i .i64 24)] 3 true)], (.tup [(.i .i64 3), (.i .i64 0)])),
  (29, [(.agg [(.i .i64 5), (.ss [(.i .i64 0), (.i .i64 1), (.i .i64 30), (.i .i64 1), (.i .i64 2), (.i .i64 10), (.i .i64 2), (.i .i64 0), (.i .i64 10), (.i .i64 3), (.i .i64 4), (.i .i64 15)] 4 true)]), (.ss [(.i .i64 3), (.i .i64 24)] 2 true)], (.tup [(.i .i64 0), (.i .i64 16)])),
  (34, [(.agg [(.i .i64 2), (.ss [(.i .i64 0), (.i .i64 1), (.i .i64 5)] 1 true)]), (.ss [(.i .i64 0), (.i .i64 0), (.i .i64 0), (.i .i64 1)] 4 true)], (.tup [(.i .i64 1), (.i .i64 0)])),
  (34, [(.agg [(.i .i64 2), (.ss [(.i .i64 0), (.i .i64 1), (.i .i64 5)] 1 true)]), (.ss [(.i .i64 0), (.i .i64 0), (.i .i64 0), (.i .i64 0)] 4 true)], (.tup [(.i .i64 0), (.i .i64 14)])),
  (37, [(.agg [(.i .i64 5), (.ss [(.i .i64 0), (.i .i64 1), (.i .i64 30), (.i .i64 1), (.i .i64 2), (.i .i64 10), (.i .i64 2), (.i .i64 0), (.i .i64 10), (.i .i64 3), (.i .i64 4), (.i .i64 15)] 4 true)]), (.i .i64 3)], (.tup [(.i .i64 0), (.i .i64 0)])),
  (31, [(.agg [(.i .i64 6), (.ss [(.i .i64 1), (.i .i64 0), (.i .i64 1), (.i .i64 3), (.i .i64 2), (.i .i64 2), (.i .i64 5), (.i .i64 4), (.i .i64 3)] 3 true)])], (.tup [(.ss [(.i .i64 3), (.i .i64 12), (.i .i64 48)] 3 false), (.i .i64 0)]))]
theorem memo_ok : ∀ e ∈ memo, FSpec Try.prog e.1 e.2.1 [] e.2.2 [] := by
  intro e he
  simp only [memo, List.mem_cons, List.not_mem_nil, or_false] at he
  rcases he with rfl | rfl | rfl | rfl | rfl | rfl | rfl | rfl | rfl | rfl | rfl | rfl | rfl | rfl | rfl | rfl | rfl | rfl | rfl | rfl | rfl | rfl | rfl | rfl | rfl | rfl | rfl | rfl
  · exact runY_ok call0
  · exact runY_ok call1
  · exact runY_ok call2
  · exact runY_ok call3
  · exact runY_ok call4
  · exact runY_ok call5
  · exact runY_ok call6
  · exact runY_ok call7
  · exact runY_ok call8
  · exact runY_ok call9
  · exact runY_ok call10
  · exact runY_ok call11
  · exact runY_ok call12
  · exact runY_ok call13
  · exact runY_ok call14
  · exact runY_ok call15
  · exact runY_ok call16
  · exact runY_ok call17
  · exact runY_ok call18
  · exact runY_ok call19
  · exact runY_ok call20
  · exact runY_ok call21
  · exact runY_ok call22
  · exact runY_ok call23
  · exact runY_ok call24
  · exact runY_ok call25
  · exact runY_ok call26
  · exact runY_ok call27
def orcM : FuncId → List V → Option V := fun f args => (memo.find? fun e => Nat.beq e.1 f && eqL e.2.1 args).map (·.2.2)
theorem orcM_ok : OrcOK Try.prog orcM := by
  intro f args v h
  unfold orcM at h
  rw [Option.map_eq_some_iff] at h
  obtain ⟨e, he, rfl⟩ := h
  have h1 := List.mem_of_find?_eq_some he
  have h2 := List.find?_some he
  simp only [Bool.and_eq_true] at h2
  have h3 := Nat.eq_of_beq_eq_true h2.1
  have h4 := eqL_ok h2.2
  rw [← h3, ← h4]
  exact memo_ok e h1
def runM (f : FuncId) (args : List V) : Option (V × List O) := (callsX tr.get orcM oiS 3000 20).1 f args []
theorem runM_ok {f : FuncId} {args : List V} {v : V} (h : runM f args = some (v, [])) : FSpec Try.prog f args [] v [] := run_sound tr_ok orcM_ok mixed itT_ok oiS_ok h
theorem works_run : runM 18 [] = some (.b true, []) := by kernel_rfl
theorem works_ok : FSpec Try.prog 18 [] [] (.b true) [] := runM_ok works_run
theorem known_run : runM 16 [] = some (.b true, []) := by kernel_rfl
theorem known_ok : FSpec Try.prog 16 [] [] (.b true) [] := runM_ok known_run
theorem wk (σ : List O) : FSpec Try.prog 18 [] σ (.b true) σ := FSpec.frame works_ok (by simp) rfl
end Go.Ab
