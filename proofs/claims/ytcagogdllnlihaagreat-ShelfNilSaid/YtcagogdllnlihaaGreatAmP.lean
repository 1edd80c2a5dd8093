/- The program, and the layer. -/
import Derived.Test.YtcagogdllnlihaaGreatAmK
import Derived.Test.YtcagogdllnlihaaGreatAmL
import Derived.Test.YtcagogdllnlihaaGreatRows
set_option linter.all false
namespace Go.Am
open Go.Proofs

theorem namesOk_of {P : Program} (h : (P.funcs.toList.all fun fn => !(fn.name == "runtime.NumGoroutine")) = true) : NamesOk P := by
  intro f fn hf
  have := List.all_eq_true.1 h fn (by
    have := Array.mem_of_getElem? hf
    exact Array.mem_toList_iff.2 this)
  simpa using this
theorem fol : Tryz.prog.follows .mixedOrders = true := by kernel_rfl
theorem namesP : NamesOk Tryz.prog := namesOk_of (by kernel_rfl)
end Go.Am
