/- Some of the closed facts of the row of VacuumNone, by the kernel. -/
import Derived.Test.YtneeiakpoohneaaGreatDoorCards
import Derived.Test.YtneeiakpoohneaaGreatDoorTie
import Derived.Test.YtneeiakpoohneaaGreatDoorEvVK0
set_option linter.all false
namespace Go.Proofs.YtneeiakpoohneaaGreatDoor.vacuumNone
open Go
theorem k11 : fct11 Tryz.pinned.checked.prog 4 Tryz.f4 Rows.vacuumNoneSpec Rows.vacuumNoneRow = true := by kernel_rfl
theorem k22 : fct22 Tryz.pinned.checked.prog 4 Tryz.f4 Rows.vacuumNoneSpec Rows.vacuumNoneRow = true := by kernel_rfl
end Go.Proofs.YtneeiakpoohneaaGreatDoor.vacuumNone
