/- Each piece is what the evaluator comes to on the code (by a program). -/
import Derived.Test.YtneeiakpoohneaaGreatDoorEvVA1
import Derived.KernelRfl
set_option linter.all false
set_option linter.unusedVariables false
set_option maxRecDepth 100000
namespace Go.Ev.V
theorem o45 (call : Call) (fu m : Nat) (ρ : Nat → IH) : (oblF Go.Proofs.Tryz.prog lv45 (Orc.mk (orc45c call fu) (orc45b call fu) (orc45p call fu) (orc45m call fu)) 45 Go.Proofs.Tryz.f45 (codeOf Go.Proofs.Tryz.f45) call fu m ρ).map Prod.fst = (oblF Go.Proofs.Tryz.prog lv45 (Orc.mk (orc45c call fu) (orc45b call fu) (orc45p call fu) (orc45m call fu)) 45 Go.Proofs.Tryz.f45 (codeOf Go.Proofs.Tryz.f45) call fu m ρ).map Prod.snd := by kernel_rfl
theorem x45 (call : Call) (fu : Nat) : ∀ (args : List AV) (s : St), F45 call fu args s = fnH Go.Proofs.Tryz.prog lv45 (Orc.mk (orc45c call fu) (orc45b call fu) (orc45p call fu) (orc45m call fu)) 45 Go.Proofs.Tryz.f45 (codeOf Go.Proofs.Tryz.f45) call fu args s
  | [], s => by kernel_rfl
  | [t0], s => by kernel_rfl
  | [t0, t1], s => by kernel_rfl
  | t0 :: t1 :: t2 :: l, s => by kernel_rfl
theorem o46 (call : Call) (fu m : Nat) (ρ : Nat → IH) : (oblF Go.Proofs.Tryz.prog lv46 (Orc.mk (orc46c call fu) (orc46b call fu) (orc46p call fu) (orc46m call fu)) 46 Go.Proofs.Tryz.f46 (codeOf Go.Proofs.Tryz.f46) call fu m ρ).map Prod.fst = (oblF Go.Proofs.Tryz.prog lv46 (Orc.mk (orc46c call fu) (orc46b call fu) (orc46p call fu) (orc46m call fu)) 46 Go.Proofs.Tryz.f46 (codeOf Go.Proofs.Tryz.f46) call fu m ρ).map Prod.snd := by kernel_rfl
theorem x46 (call : Call) (fu : Nat) : ∀ (args : List AV) (s : St), F46 call fu args s = fnH Go.Proofs.Tryz.prog lv46 (Orc.mk (orc46c call fu) (orc46b call fu) (orc46p call fu) (orc46m call fu)) 46 Go.Proofs.Tryz.f46 (codeOf Go.Proofs.Tryz.f46) call fu args s
  | [], s => by kernel_rfl
  | [t0], s => by kernel_rfl
  | t0 :: t1 :: l, s => by kernel_rfl
theorem o48 (call : Call) (fu m : Nat) (ρ : Nat → IH) : (oblF Go.Proofs.Tryz.prog lv48 (Orc.mk (orc48c call fu) (orc48b call fu) (orc48p call fu) (orc48m call fu)) 48 Go.Proofs.Tryz.f48 (codeOf Go.Proofs.Tryz.f48) call fu m ρ).map Prod.fst = (oblF Go.Proofs.Tryz.prog lv48 (Orc.mk (orc48c call fu) (orc48b call fu) (orc48p call fu) (orc48m call fu)) 48 Go.Proofs.Tryz.f48 (codeOf Go.Proofs.Tryz.f48) call fu m ρ).map Prod.snd := by kernel_rfl
theorem x48 (call : Call) (fu : Nat) : ∀ (args : List AV) (s : St), F48 call fu args s = fnH Go.Proofs.Tryz.prog lv48 (Orc.mk (orc48c call fu) (orc48b call fu) (orc48p call fu) (orc48m call fu)) 48 Go.Proofs.Tryz.f48 (codeOf Go.Proofs.Tryz.f48) call fu args s
  | [], s => by kernel_rfl
  | [t0], s => by kernel_rfl
  | t0 :: t1 :: l, s => by kernel_rfl
theorem o49 (call : Call) (fu m : Nat) (ρ : Nat → IH) : (oblF Go.Proofs.Tryz.prog lv49 (Orc.mk (orc49c call fu) (orc49b call fu) (orc49p call fu) (orc49m call fu)) 49 Go.Proofs.Tryz.f49 (codeOf Go.Proofs.Tryz.f49) call fu m ρ).map Prod.fst = (oblF Go.Proofs.Tryz.prog lv49 (Orc.mk (orc49c call fu) (orc49b call fu) (orc49p call fu) (orc49m call fu)) 49 Go.Proofs.Tryz.f49 (codeOf Go.Proofs.Tryz.f49) call fu m ρ).map Prod.snd := by kernel_rfl
theorem x49 (call : Call) (fu : Nat) : ∀ (args : List AV) (s : St), F49 call fu args s = fnH Go.Proofs.Tryz.prog lv49 (Orc.mk (orc49c call fu) (orc49b call fu) (orc49p call fu) (orc49m call fu)) 49 Go.Proofs.Tryz.f49 (codeOf Go.Proofs.Tryz.f49) call fu args s
  | [], s => by kernel_rfl
  | [t0], s => by kernel_rfl
  | t0 :: t1 :: l, s => by kernel_rfl
theorem o53 (call : Call) (fu m : Nat) (ρ : Nat → IH) : (oblF Go.Proofs.Tryz.prog lv53 (Orc.mk (orc53c call fu) (orc53b call fu) (orc53p call fu) (orc53m call fu)) 53 Go.Proofs.Tryz.f53 (codeOf Go.Proofs.Tryz.f53) call fu m ρ).map Prod.fst = (oblF Go.Proofs.Tryz.prog lv53 (Orc.mk (orc53c call fu) (orc53b call fu) (orc53p call fu) (orc53m call fu)) 53 Go.Proofs.Tryz.f53 (codeOf Go.Proofs.Tryz.f53) call fu m ρ).map Prod.snd := by kernel_rfl
theorem x53 (call : Call) (fu : Nat) : ∀ (args : List AV) (s : St), F53 call fu args s = fnH Go.Proofs.Tryz.prog lv53 (Orc.mk (orc53c call fu) (orc53b call fu) (orc53p call fu) (orc53m call fu)) 53 Go.Proofs.Tryz.f53 (codeOf Go.Proofs.Tryz.f53) call fu args s
  | [], s => by kernel_rfl
  | [t0], s => by kernel_rfl
  | [t0, t1], s => by kernel_rfl
  | [t0, t1, t2], s => by kernel_rfl
  | t0 :: t1 :: t2 :: t3 :: l, s => by kernel_rfl
theorem o55 (call : Call) (fu m : Nat) (ρ : Nat → IH) : (oblF Go.Proofs.Tryz.prog lv55 (Orc.mk (orc55c call fu) (orc55b call fu) (orc55p call fu) (orc55m call fu)) 55 Go.Proofs.Tryz.f55 (codeOf Go.Proofs.Tryz.f55) call fu m ρ).map Prod.fst = (oblF Go.Proofs.Tryz.prog lv55 (Orc.mk (orc55c call fu) (orc55b call fu) (orc55p call fu) (orc55m call fu)) 55 Go.Proofs.Tryz.f55 (codeOf Go.Proofs.Tryz.f55) call fu m ρ).map Prod.snd := by kernel_rfl
theorem x55 (call : Call) (fu : Nat) : ∀ (args : List AV) (s : St), F55 call fu args s = fnH Go.Proofs.Tryz.prog lv55 (Orc.mk (orc55c call fu) (orc55b call fu) (orc55p call fu) (orc55m call fu)) 55 Go.Proofs.Tryz.f55 (codeOf Go.Proofs.Tryz.f55) call fu args s
  | [], s => by kernel_rfl
  | [t0], s => by kernel_rfl
  | [t0, t1], s => by kernel_rfl
  | t0 :: t1 :: t2 :: l, s => by kernel_rfl
theorem o60 (call : Call) (fu m : Nat) (ρ : Nat → IH) : (oblF Go.Proofs.Tryz.prog lv60 (Orc.mk (orc60c call fu) (orc60b call fu) (orc60p call fu) (orc60m call fu)) 60 Go.Proofs.Tryz.f60 (codeOf Go.Proofs.Tryz.f60) call fu m ρ).map Prod.fst = (oblF Go.Proofs.Tryz.prog lv60 (Orc.mk (orc60c call fu) (orc60b call fu) (orc60p call fu) (orc60m call fu)) 60 Go.Proofs.Tryz.f60 (codeOf Go.Proofs.Tryz.f60) call fu m ρ).map Prod.snd := by kernel_rfl
theorem x60 (call : Call) (fu : Nat) : ∀ (args : List AV) (s : St), F60 call fu args s = fnH Go.Proofs.Tryz.prog lv60 (Orc.mk (orc60c call fu) (orc60b call fu) (orc60p call fu) (orc60m call fu)) 60 Go.Proofs.Tryz.f60 (codeOf Go.Proofs.Tryz.f60) call fu args s
  | [], s => by kernel_rfl
  | [t0], s => by kernel_rfl
  | t0 :: t1 :: l, s => by kernel_rfl
theorem o63 (call : Call) (fu m : Nat) (ρ : Nat → IH) : (oblF Go.Proofs.Tryz.prog lv63 (Orc.mk (orc63c call fu) (orc63b call fu) (orc63p call fu) (orc63m call fu)) 63 Go.Proofs.Tryz.f63 (codeOf Go.Proofs.Tryz.f63) call fu m ρ).map Prod.fst = (oblF Go.Proofs.Tryz.prog lv63 (Orc.mk (orc63c call fu) (orc63b call fu) (orc63p call fu) (orc63m call fu)) 63 Go.Proofs.Tryz.f63 (codeOf Go.Proofs.Tryz.f63) call fu m ρ).map Prod.snd := by kernel_rfl
theorem x63 (call : Call) (fu : Nat) : ∀ (args : List AV) (s : St), F63 call fu args s = fnH Go.Proofs.Tryz.prog lv63 (Orc.mk (orc63c call fu) (orc63b call fu) (orc63p call fu) (orc63m call fu)) 63 Go.Proofs.Tryz.f63 (codeOf Go.Proofs.Tryz.f63) call fu args s
  | [], s => by kernel_rfl
  | [t0], s => by kernel_rfl
  | t0 :: t1 :: l, s => by kernel_rfl
theorem o64 (call : Call) (fu m : Nat) (ρ : Nat → IH) : (oblF Go.Proofs.Tryz.prog lv64 (Orc.mk (orc64c call fu) (orc64b call fu) (orc64p call fu) (orc64m call fu)) 64 Go.Proofs.Tryz.f64 (codeOf Go.Proofs.Tryz.f64) call fu m ρ).map Prod.fst = (oblF Go.Proofs.Tryz.prog lv64 (Orc.mk (orc64c call fu) (orc64b call fu) (orc64p call fu) (orc64m call fu)) 64 Go.Proofs.Tryz.f64 (codeOf Go.Proofs.Tryz.f64) call fu m ρ).map Prod.snd := by kernel_rfl
theorem x64 (call : Call) (fu : Nat) : ∀ (args : List AV) (s : St), F64 call fu args s = fnH Go.Proofs.Tryz.prog lv64 (Orc.mk (orc64c call fu) (orc64b call fu) (orc64p call fu) (orc64m call fu)) 64 Go.Proofs.Tryz.f64 (codeOf Go.Proofs.Tryz.f64) call fu args s
  | [], s => by kernel_rfl
  | [t0], s => by kernel_rfl
  | [t0, t1], s => by kernel_rfl
  | t0 :: t1 :: t2 :: l, s => by kernel_rfl
theorem o66 (call : Call) (fu m : Nat) (ρ : Nat → IH) : (oblF Go.Proofs.Tryz.prog lv66 (Orc.mk (orc66c call fu) (orc66b call fu) (orc66p call fu) (orc66m call fu)) 66 Go.Proofs.Tryz.f66 (codeOf Go.Proofs.Tryz.f66) call fu m ρ).map Prod.fst = (oblF Go.Proofs.Tryz.prog lv66 (Orc.mk (orc66c call fu) (orc66b call fu) (orc66p call fu) (orc66m call fu)) 66 Go.Proofs.Tryz.f66 (codeOf Go.Proofs.Tryz.f66) call fu m ρ).map Prod.snd := by kernel_rfl
theorem x66 (call : Call) (fu : Nat) : ∀ (args : List AV) (s : St), F66 call fu args s = fnH Go.Proofs.Tryz.prog lv66 (Orc.mk (orc66c call fu) (orc66b call fu) (orc66p call fu) (orc66m call fu)) 66 Go.Proofs.Tryz.f66 (codeOf Go.Proofs.Tryz.f66) call fu args s
  | [], s => by kernel_rfl
  | [t0], s => by kernel_rfl
  | t0 :: t1 :: l, s => by kernel_rfl
theorem o67 (call : Call) (fu m : Nat) (ρ : Nat → IH) : (oblF Go.Proofs.Tryz.prog lv67 (Orc.mk (orc67c call fu) (orc67b call fu) (orc67p call fu) (orc67m call fu)) 67 Go.Proofs.Tryz.f67 (codeOf Go.Proofs.Tryz.f67) call fu m ρ).map Prod.fst = (oblF Go.Proofs.Tryz.prog lv67 (Orc.mk (orc67c call fu) (orc67b call fu) (orc67p call fu) (orc67m call fu)) 67 Go.Proofs.Tryz.f67 (codeOf Go.Proofs.Tryz.f67) call fu m ρ).map Prod.snd := by kernel_rfl
theorem x67 (call : Call) (fu : Nat) : ∀ (args : List AV) (s : St), F67 call fu args s = fnH Go.Proofs.Tryz.prog lv67 (Orc.mk (orc67c call fu) (orc67b call fu) (orc67p call fu) (orc67m call fu)) 67 Go.Proofs.Tryz.f67 (codeOf Go.Proofs.Tryz.f67) call fu args s
  | [], s => by kernel_rfl
  | [t0], s => by kernel_rfl
  | t0 :: t1 :: l, s => by kernel_rfl
theorem o68 (call : Call) (fu m : Nat) (ρ : Nat → IH) : (oblF Go.Proofs.Tryz.prog lv68 (Orc.mk (orc68c call fu) (orc68b call fu) (orc68p call fu) (orc68m call fu)) 68 Go.Proofs.Tryz.f68 (codeOf Go.Proofs.Tryz.f68) call fu m ρ).map Prod.fst = (oblF Go.Proofs.Tryz.prog lv68 (Orc.mk (orc68c call fu) (orc68b call fu) (orc68p call fu) (orc68m call fu)) 68 Go.Proofs.Tryz.f68 (codeOf Go.Proofs.Tryz.f68) call fu m ρ).map Prod.snd := by kernel_rfl
theorem x68 (call : Call) (fu : Nat) : ∀ (args : List AV) (s : St), F68 call fu args s = fnH Go.Proofs.Tryz.prog lv68 (Orc.mk (orc68c call fu) (orc68b call fu) (orc68p call fu) (orc68m call fu)) 68 Go.Proofs.Tryz.f68 (codeOf Go.Proofs.Tryz.f68) call fu args s
  | [], s => by kernel_rfl
  | [t0], s => by kernel_rfl
  | t0 :: t1 :: l, s => by kernel_rfl
theorem o69 (call : Call) (fu m : Nat) (ρ : Nat → IH) : (oblF Go.Proofs.Tryz.prog lv69 (Orc.mk (orc69c call fu) (orc69b call fu) (orc69p call fu) (orc69m call fu)) 69 Go.Proofs.Tryz.f69 (codeOf Go.Proofs.Tryz.f69) call fu m ρ).map Prod.fst = (oblF Go.Proofs.Tryz.prog lv69 (Orc.mk (orc69c call fu) (orc69b call fu) (orc69p call fu) (orc69m call fu)) 69 Go.Proofs.Tryz.f69 (codeOf Go.Proofs.Tryz.f69) call fu m ρ).map Prod.snd := by kernel_rfl
theorem x69 (call : Call) (fu : Nat) : ∀ (args : List AV) (s : St), F69 call fu args s = fnH Go.Proofs.Tryz.prog lv69 (Orc.mk (orc69c call fu) (orc69b call fu) (orc69p call fu) (orc69m call fu)) 69 Go.Proofs.Tryz.f69 (codeOf Go.Proofs.Tryz.f69) call fu args s
  | [], s => by kernel_rfl
  | [t0], s => by kernel_rfl
  | t0 :: t1 :: l, s => by kernel_rfl
theorem o70 (call : Call) (fu m : Nat) (ρ : Nat → IH) : (oblF Go.Proofs.Tryz.prog lv70 (Orc.mk (orc70c call fu) (orc70b call fu) (orc70p call fu) (orc70m call fu)) 70 Go.Proofs.Tryz.f70 (codeOf Go.Proofs.Tryz.f70) call fu m ρ).map Prod.fst = (oblF Go.Proofs.Tryz.prog lv70 (Orc.mk (orc70c call fu) (orc70b call fu) (orc70p call fu) (orc70m call fu)) 70 Go.Proofs.Tryz.f70 (codeOf Go.Proofs.Tryz.f70) call fu m ρ).map Prod.snd := by kernel_rfl
theorem x70 (call : Call) (fu : Nat) : ∀ (args : List AV) (s : St), F70 call fu args s = fnH Go.Proofs.Tryz.prog lv70 (Orc.mk (orc70c call fu) (orc70b call fu) (orc70p call fu) (orc70m call fu)) 70 Go.Proofs.Tryz.f70 (codeOf Go.Proofs.Tryz.f70) call fu args s
  | [], s => by kernel_rfl
  | [t0], s => by kernel_rfl
  | t0 :: t1 :: l, s => by kernel_rfl
theorem o71 (call : Call) (fu m : Nat) (ρ : Nat → IH) : (oblF Go.Proofs.Tryz.prog lv71 (Orc.mk (orc71c call fu) (orc71b call fu) (orc71p call fu) (orc71m call fu)) 71 Go.Proofs.Tryz.f71 (codeOf Go.Proofs.Tryz.f71) call fu m ρ).map Prod.fst = (oblF Go.Proofs.Tryz.prog lv71 (Orc.mk (orc71c call fu) (orc71b call fu) (orc71p call fu) (orc71m call fu)) 71 Go.Proofs.Tryz.f71 (codeOf Go.Proofs.Tryz.f71) call fu m ρ).map Prod.snd := by kernel_rfl
theorem x71 (call : Call) (fu : Nat) : ∀ (args : List AV) (s : St), F71 call fu args s = fnH Go.Proofs.Tryz.prog lv71 (Orc.mk (orc71c call fu) (orc71b call fu) (orc71p call fu) (orc71m call fu)) 71 Go.Proofs.Tryz.f71 (codeOf Go.Proofs.Tryz.f71) call fu args s
  | [], s => by kernel_rfl
  | [t0], s => by kernel_rfl
  | t0 :: t1 :: l, s => by kernel_rfl
theorem o72 (call : Call) (fu m : Nat) (ρ : Nat → IH) : (oblF Go.Proofs.Tryz.prog lv72 (Orc.mk (orc72c call fu) (orc72b call fu) (orc72p call fu) (orc72m call fu)) 72 Go.Proofs.Tryz.f72 (codeOf Go.Proofs.Tryz.f72) call fu m ρ).map Prod.fst = (oblF Go.Proofs.Tryz.prog lv72 (Orc.mk (orc72c call fu) (orc72b call fu) (orc72p call fu) (orc72m call fu)) 72 Go.Proofs.Tryz.f72 (codeOf Go.Proofs.Tryz.f72) call fu m ρ).map Prod.snd := by kernel_rfl
theorem x72 (call : Call) (fu : Nat) : ∀ (args : List AV) (s : St), F72 call fu args s = fnH Go.Proofs.Tryz.prog lv72 (Orc.mk (orc72c call fu) (orc72b call fu) (orc72p call fu) (orc72m call fu)) 72 Go.Proofs.Tryz.f72 (codeOf Go.Proofs.Tryz.f72) call fu args s
  | [], s => by kernel_rfl
  | [t0], s => by kernel_rfl
  | t0 :: t1 :: l, s => by kernel_rfl
theorem o73 (call : Call) (fu m : Nat) (ρ : Nat → IH) : (oblF Go.Proofs.Tryz.prog lv73 (Orc.mk (orc73c call fu) (orc73b call fu) (orc73p call fu) (orc73m call fu)) 73 Go.Proofs.Tryz.f73 (codeOf Go.Proofs.Tryz.f73) call fu m ρ).map Prod.fst = (oblF Go.Proofs.Tryz.prog lv73 (Orc.mk (orc73c call fu) (orc73b call fu) (orc73p call fu) (orc73m call fu)) 73 Go.Proofs.Tryz.f73 (codeOf Go.Proofs.Tryz.f73) call fu m ρ).map Prod.snd := by kernel_rfl
theorem x73 (call : Call) (fu : Nat) : ∀ (args : List AV) (s : St), F73 call fu args s = fnH Go.Proofs.Tryz.prog lv73 (Orc.mk (orc73c call fu) (orc73b call fu) (orc73p call fu) (orc73m call fu)) 73 Go.Proofs.Tryz.f73 (codeOf Go.Proofs.Tryz.f73) call fu args s
  | [], s => by kernel_rfl
  | [t0], s => by kernel_rfl
  | t0 :: t1 :: l, s => by kernel_rfl
theorem o74 (call : Call) (fu m : Nat) (ρ : Nat → IH) : (oblF Go.Proofs.Tryz.prog lv74 (Orc.mk (orc74c call fu) (orc74b call fu) (orc74p call fu) (orc74m call fu)) 74 Go.Proofs.Tryz.f74 (codeOf Go.Proofs.Tryz.f74) call fu m ρ).map Prod.fst = (oblF Go.Proofs.Tryz.prog lv74 (Orc.mk (orc74c call fu) (orc74b call fu) (orc74p call fu) (orc74m call fu)) 74 Go.Proofs.Tryz.f74 (codeOf Go.Proofs.Tryz.f74) call fu m ρ).map Prod.snd := by kernel_rfl
theorem x74 (call : Call) (fu : Nat) : ∀ (args : List AV) (s : St), F74 call fu args s = fnH Go.Proofs.Tryz.prog lv74 (Orc.mk (orc74c call fu) (orc74b call fu) (orc74p call fu) (orc74m call fu)) 74 Go.Proofs.Tryz.f74 (codeOf Go.Proofs.Tryz.f74) call fu args s
  | [], s => by kernel_rfl
  | [t0], s => by kernel_rfl
  | [t0, t1], s => by kernel_rfl
  | t0 :: t1 :: t2 :: l, s => by kernel_rfl
theorem o76 (call : Call) (fu m : Nat) (ρ : Nat → IH) : (oblF Go.Proofs.Tryz.prog lv76 (Orc.mk (orc76c call fu) (orc76b call fu) (orc76p call fu) (orc76m call fu)) 76 Go.Proofs.Tryz.f76 (codeOf Go.Proofs.Tryz.f76) call fu m ρ).map Prod.fst = (oblF Go.Proofs.Tryz.prog lv76 (Orc.mk (orc76c call fu) (orc76b call fu) (orc76p call fu) (orc76m call fu)) 76 Go.Proofs.Tryz.f76 (codeOf Go.Proofs.Tryz.f76) call fu m ρ).map Prod.snd := by kernel_rfl
theorem x76 (call : Call) (fu : Nat) : ∀ (args : List AV) (s : St), F76 call fu args s = fnH Go.Proofs.Tryz.prog lv76 (Orc.mk (orc76c call fu) (orc76b call fu) (orc76p call fu) (orc76m call fu)) 76 Go.Proofs.Tryz.f76 (codeOf Go.Proofs.Tryz.f76) call fu args s
  | [], s => by kernel_rfl
  | [t0], s => by kernel_rfl
  | [t0, t1], s => by kernel_rfl
  | t0 :: t1 :: t2 :: l, s => by kernel_rfl
theorem o77 (call : Call) (fu m : Nat) (ρ : Nat → IH) : (oblF Go.Proofs.Tryz.prog lv77 (Orc.mk (orc77c call fu) (orc77b call fu) (orc77p call fu) (orc77m call fu)) 77 Go.Proofs.Tryz.f77 (codeOf Go.Proofs.Tryz.f77) call fu m ρ).map Prod.fst = (oblF Go.Proofs.Tryz.prog lv77 (Orc.mk (orc77c call fu) (orc77b call fu) (orc77p call fu) (orc77m call fu)) 77 Go.Proofs.Tryz.f77 (codeOf Go.Proofs.Tryz.f77) call fu m ρ).map Prod.snd := by kernel_rfl
theorem x77 (call : Call) (fu : Nat) : ∀ (args : List AV) (s : St), F77 call fu args s = fnH Go.Proofs.Tryz.prog lv77 (Orc.mk (orc77c call fu) (orc77b call fu) (orc77p call fu) (orc77m call fu)) 77 Go.Proofs.Tryz.f77 (codeOf Go.Proofs.Tryz.f77) call fu args s
  | [], s => by kernel_rfl
  | [t0], s => by kernel_rfl
  | [t0, t1], s => by kernel_rfl
  | t0 :: t1 :: t2 :: l, s => by kernel_rfl
theorem o78 (call : Call) (fu m : Nat) (ρ : Nat → IH) : (oblF Go.Proofs.Tryz.prog lv78 (Orc.mk (orc78c call fu) (orc78b call fu) (orc78p call fu) (orc78m call fu)) 78 Go.Proofs.Tryz.f78 (codeOf Go.Proofs.Tryz.f78) call fu m ρ).map Prod.fst = (oblF Go.Proofs.Tryz.prog lv78 (Orc.mk (orc78c call fu) (orc78b call fu) (orc78p call fu) (orc78m call fu)) 78 Go.Proofs.Tryz.f78 (codeOf Go.Proofs.Tryz.f78) call fu m ρ).map Prod.snd := by kernel_rfl
theorem x78 (call : Call) (fu : Nat) : ∀ (args : List AV) (s : St), F78 call fu args s = fnH Go.Proofs.Tryz.prog lv78 (Orc.mk (orc78c call fu) (orc78b call fu) (orc78p call fu) (orc78m call fu)) 78 Go.Proofs.Tryz.f78 (codeOf Go.Proofs.Tryz.f78) call fu args s
  | [], s => by kernel_rfl
  | [t0], s => by kernel_rfl
  | t0 :: t1 :: l, s => by kernel_rfl
theorem o79 (call : Call) (fu m : Nat) (ρ : Nat → IH) : (oblF Go.Proofs.Tryz.prog lv79 (Orc.mk (orc79c call fu) (orc79b call fu) (orc79p call fu) (orc79m call fu)) 79 Go.Proofs.Tryz.f79 (codeOf Go.Proofs.Tryz.f79) call fu m ρ).map Prod.fst = (oblF Go.Proofs.Tryz.prog lv79 (Orc.mk (orc79c call fu) (orc79b call fu) (orc79p call fu) (orc79m call fu)) 79 Go.Proofs.Tryz.f79 (codeOf Go.Proofs.Tryz.f79) call fu m ρ).map Prod.snd := by kernel_rfl
theorem x79 (call : Call) (fu : Nat) : ∀ (args : List AV) (s : St), F79 call fu args s = fnH Go.Proofs.Tryz.prog lv79 (Orc.mk (orc79c call fu) (orc79b call fu) (orc79p call fu) (orc79m call fu)) 79 Go.Proofs.Tryz.f79 (codeOf Go.Proofs.Tryz.f79) call fu args s
  | [], s => by kernel_rfl
  | [t0], s => by kernel_rfl
  | [t0, t1], s => by kernel_rfl
  | t0 :: t1 :: t2 :: l, s => by kernel_rfl
theorem o80 (call : Call) (fu m : Nat) (ρ : Nat → IH) : (oblF Go.Proofs.Tryz.prog lv80 (Orc.mk (orc80c call fu) (orc80b call fu) (orc80p call fu) (orc80m call fu)) 80 Go.Proofs.Tryz.f80 (codeOf Go.Proofs.Tryz.f80) call fu m ρ).map Prod.fst = (oblF Go.Proofs.Tryz.prog lv80 (Orc.mk (orc80c call fu) (orc80b call fu) (orc80p call fu) (orc80m call fu)) 80 Go.Proofs.Tryz.f80 (codeOf Go.Proofs.Tryz.f80) call fu m ρ).map Prod.snd := by kernel_rfl
theorem x80 (call : Call) (fu : Nat) : ∀ (args : List AV) (s : St), F80 call fu args s = fnH Go.Proofs.Tryz.prog lv80 (Orc.mk (orc80c call fu) (orc80b call fu) (orc80p call fu) (orc80m call fu)) 80 Go.Proofs.Tryz.f80 (codeOf Go.Proofs.Tryz.f80) call fu args s
  | [], s => by kernel_rfl
  | [t0], s => by kernel_rfl
  | [t0, t1], s => by kernel_rfl
  | [t0, t1, t2], s => by kernel_rfl
  | t0 :: t1 :: t2 :: t3 :: l, s => by kernel_rfl
end Go.Ev.V
