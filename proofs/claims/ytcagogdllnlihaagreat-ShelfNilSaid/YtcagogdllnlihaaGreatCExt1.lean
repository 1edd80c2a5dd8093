/- What is known of lines and benches. -/
import Derived.Test.YtcagogdllnlihaaGreatCBench2
set_option linter.all false
namespace Go.Am
open Go.Proofs
def list1 : List (Nat × (List Value → M Value)) := [(44, mLineSet), (51, mLineGet), (61, mLineFirst), (59, mLineClean),
  (46, mLineForget), (56, mLineLearn), (47, mLineDirty), (103, mLineNew),
  (85, mBenchDevices), (87, mBenchSectors), (16, mBenchSure), (144, mBenchRead),
  (14, mBenchFail), (94, mBenchWrite), (98, mBenchFlush), (32, mBenchNew)]
theorem list1_ok : ∀ x ∈ list1, ExtOk Tryz.prog x.1 x.2 := fun x hx => by
  simp only [list1, List.mem_cons, List.not_mem_nil, or_false] at hx
  rcases hx with rfl | rfl | rfl | rfl | rfl | rfl | rfl | rfl | rfl | rfl | rfl | rfl | rfl | rfl | rfl | rfl
  · exact line_set_ok
  · exact line_get_ok
  · exact line_first_ok
  · exact line_clean_ok
  · exact line_forget_ok
  · exact line_learn_ok
  · exact line_dirty_ok
  · exact line_new_ok
  · exact bench_devices_ok
  · exact bench_sectors_ok
  · exact bench_sure_ok
  · exact bench_read_ok
  · exact bench_fail_ok
  · exact bench_write_ok
  · exact bench_flush_ok
  · exact bench_new_ok
def ext1 : Exts := extOf list1
theorem ext1_ok : ∀ f m, ext1 f = some m → ExtOk Tryz.prog f m := extOf_ok list1_ok
end Go.Am
