/- BackNil, run: of no shelf, of no hull, it is refused, whatever the stripe. -/
import Derived.Test.YtcagogdllnlihaaGreatTb
set_option linter.all false
namespace Go.Am
open Go.Proofs
theorem backNil_runF (s : Int) (w : World) : okB isTrue (runS Tryz.prog ext1 ann tab 200 3 [.int .i64 s, .bool false] 0 (start w)) = true := by kernel_rfl
theorem backNil_runT (s : Int) (w : World) : okB isTrue (runS Tryz.prog ext1 ann tab 200 3 [.int .i64 s, .bool true] 0 (start w)) = true := by kernel_rfl
end Go.Am
