/- The call of VacuumNone, run by the evaluator in the kernel: it returns true. -/
import Derived.Test.YtneeiakpoohneaaGreatDoorEvVC
import Derived.Test.YtneeiakpoohneaaGreatDoorEvL
import Derived.KernelRfl
set_option linter.all false
set_option maxRecDepth 1000000
namespace Go.Ev.V
def tab : List Int := [0, 274646895, 549293790, 820201905, 1098587580, 1361435347, 1640403810, 1905808397, 2197175160, 2460548119, 2722870694, 2987750089, 3280807620, 3553878443, 3811616794, 4084100981]
def fuel : Nat := 1000000
theorem run : isTrue (callT ftab fuel 4 [.undef] (st0 486 .u32 tab)) = true := by kernel_rfl
end Go.Ev.V
