/- ShelfNil, run: of none, and of a zero one, all is refused, or nothing. -/
import Derived.Test.YtcagogdllnlihaaGreatTb
set_option linter.all false
namespace Go.Am
open Go.Proofs
theorem shelfNil_runF (a b n : Int) (w : World) : okB isTrue (runS Tryz.prog ext1 ann tab 200 6 [.agg ⟨[.int .i64 a, .int .i64 b]⟩, .int .i64 n, .bool false] 0 (start w)) = true := by kernel_rfl
theorem shelfNil_runT (a b n : Int) (w : World) : okB isTrue (runS Tryz.prog ext1 ann tab 200 6 [.agg ⟨[.int .i64 a, .int .i64 b]⟩, .int .i64 n, .bool true] 0 (start w)) = true := by kernel_rfl
end Go.Am
