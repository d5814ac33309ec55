/- Some of the closed facts of the row of VacuumNone, by the kernel. -/
import Derived.Test.YtneeiakpoohneaaGreatDoorCards
import Derived.Test.YtneeiakpoohneaaGreatDoorTie
import Derived.Test.YtneeiakpoohneaaGreatDoorEvVK0
set_option linter.all false
namespace Go.Proofs.YtneeiakpoohneaaGreatDoor.vacuumNone
open Go
theorem k0 : fct0 Tryz.pinned.checked.prog 4 Tryz.f4 Rows.vacuumNoneSpec Rows.vacuumNoneRow = true := by kernel_rfl
theorem k3 : fct3 Tryz.pinned.checked.prog 4 Tryz.f4 Rows.vacuumNoneSpec Rows.vacuumNoneRow = true := by kernel_rfl
theorem k4 : fct4 Tryz.pinned.checked.prog 4 Tryz.f4 Rows.vacuumNoneSpec Rows.vacuumNoneRow = true := by kernel_rfl
theorem k5 : fct5 Tryz.pinned.checked.prog 4 Tryz.f4 Rows.vacuumNoneSpec Rows.vacuumNoneRow = true := by kernel_rfl
theorem k6 : fct6 Tryz.pinned.checked.prog 4 Tryz.f4 Rows.vacuumNoneSpec Rows.vacuumNoneRow = true := by kernel_rfl
theorem k7 : fct7 Tryz.pinned.checked.prog 4 Tryz.f4 Rows.vacuumNoneSpec Rows.vacuumNoneRow = true := by kernel_rfl
theorem k8 : fct8 Tryz.pinned.checked.prog 4 Tryz.f4 Rows.vacuumNoneSpec Rows.vacuumNoneRow = true := by kernel_rfl
theorem k13 : fct13 Tryz.pinned.checked.prog 4 Tryz.f4 Rows.vacuumNoneSpec Rows.vacuumNoneRow = true := by kernel_rfl
theorem k14 : fct14 Tryz.pinned.checked.prog 4 Tryz.f4 Rows.vacuumNoneSpec Rows.vacuumNoneRow = true := by kernel_rfl
theorem k15 : fct15 Tryz.pinned.checked.prog 4 Tryz.f4 Rows.vacuumNoneSpec Rows.vacuumNoneRow = true := by kernel_rfl
theorem k16 : fct16 Tryz.pinned.checked.prog 4 Tryz.f4 Rows.vacuumNoneSpec Rows.vacuumNoneRow = true := by kernel_rfl
theorem k17 : fct17 Tryz.pinned.checked.prog 4 Tryz.f4 Rows.vacuumNoneSpec Rows.vacuumNoneRow = true := by kernel_rfl
theorem k18 : fct18 Tryz.pinned.checked.prog 4 Tryz.f4 Rows.vacuumNoneSpec Rows.vacuumNoneRow = true := by kernel_rfl
theorem k19 : fct19 Tryz.pinned.checked.prog 4 Tryz.f4 Rows.vacuumNoneSpec Rows.vacuumNoneRow = true := by kernel_rfl
theorem k20 : fct20 Tryz.pinned.checked.prog 4 Tryz.f4 Rows.vacuumNoneSpec Rows.vacuumNoneRow = true := by kernel_rfl
theorem k21 : fct21 Tryz.pinned.checked.prog 4 Tryz.f4 Rows.vacuumNoneSpec Rows.vacuumNoneRow = true := by kernel_rfl
theorem k23 : fct23 Tryz.pinned.checked.prog 4 Tryz.f4 Rows.vacuumNoneSpec Rows.vacuumNoneRow = true := by kernel_rfl
theorem k28 : fct28 Tryz.pinned.checked.prog 4 Tryz.f4 Rows.vacuumNoneSpec Rows.vacuumNoneRow = true := by kernel_rfl
theorem k29 : fct29 Tryz.pinned.checked.prog 4 Tryz.f4 Rows.vacuumNoneSpec Rows.vacuumNoneRow = true := by kernel_rfl
theorem k30 : fct30 Tryz.pinned.checked.prog 4 Tryz.f4 Rows.vacuumNoneSpec Rows.vacuumNoneRow = true := by kernel_rfl
theorem k31 : fct31 Tryz.pinned.checked.prog 4 Tryz.f4 Rows.vacuumNoneSpec Rows.vacuumNoneRow = true := by kernel_rfl
end Go.Proofs.YtneeiakpoohneaaGreatDoor.vacuumNone
