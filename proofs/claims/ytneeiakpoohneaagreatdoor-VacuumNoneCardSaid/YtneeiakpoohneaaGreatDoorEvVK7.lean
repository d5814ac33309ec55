/- The closed facts of the row of VacuumNone, joined. -/
import Derived.Test.YtneeiakpoohneaaGreatDoorCards
import Derived.Test.YtneeiakpoohneaaGreatDoorTie
import Derived.Test.YtneeiakpoohneaaGreatDoorEvVK1
import Derived.Test.YtneeiakpoohneaaGreatDoorEvVK2
import Derived.Test.YtneeiakpoohneaaGreatDoorEvVK3
import Derived.Test.YtneeiakpoohneaaGreatDoorEvVK4
import Derived.Test.YtneeiakpoohneaaGreatDoorEvVK5
import Derived.Test.YtneeiakpoohneaaGreatDoorEvVK6
set_option linter.all false
namespace Go.Proofs.YtneeiakpoohneaaGreatDoor.vacuumNone
open Go
theorem closed : joinedFacts Tryz.pinned.checked.prog 4 Tryz.f4 Rows.vacuumNoneSpec Rows.vacuumNoneRow = true :=
  joined _ _ _ _ _ k0 k1 k2 k3 k4 k5 k6 k7 k8 k9 k10 k11 k12 k13 k14 k15 k16 k17 k18 k19 k20 k21 k22 k23 k24 k25 k26 k27 k28 k29 k30 k31
end Go.Proofs.YtneeiakpoohneaaGreatDoor.vacuumNone
