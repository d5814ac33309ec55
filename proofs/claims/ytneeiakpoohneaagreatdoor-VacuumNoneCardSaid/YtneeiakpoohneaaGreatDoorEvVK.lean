/- The closed facts of the row of VacuumNone, each by the kernel, one by one. -/
import Derived.Test.YtneeiakpoohneaaGreatDoorCards
import Derived.Test.YtneeiakpoohneaaGreatDoorTie
import Derived.JoinedOf
set_option linter.all false
namespace Go.Proofs.YtneeiakpoohneaaGreatDoor.vacuumNone
theorem and_mk {a b : Bool} (ha : a = true) (hb : b = true) : (a && b) = true := by rw [ha, hb]; rfl
set_option maxHeartbeats 0 in
theorem closed : Go.joinedFacts Tryz.pinned.checked.prog 4 Tryz.f4 Rows.vacuumNoneSpec Rows.vacuumNoneRow = true := by
  unfold Go.joinedFacts
  iterate 31 refine and_mk ?_ (by decide +kernel)
  decide +kernel
end Go.Proofs.YtneeiakpoohneaaGreatDoor.vacuumNone
