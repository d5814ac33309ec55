/- Each piece is what the evaluator comes to on the code (by a program). -/
import Derived.Test.YtneeiakpoohneaaGreatDoorEvVA1
import Derived.KernelRfl
set_option linter.all false
set_option linter.unusedVariables false
set_option maxRecDepth 100000
namespace Go.Ev.V
theorem o4 (call : Call) (fu m : Nat) (ρ : Nat → IH) : (oblF Go.Proofs.Tryz.prog lv4 (Orc.mk (orc4c call fu) (orc4b call fu) (orc4p call fu) (orc4m call fu)) 4 Go.Proofs.Tryz.f4 (codeOf Go.Proofs.Tryz.f4) call fu m ρ).map Prod.fst = (oblF Go.Proofs.Tryz.prog lv4 (Orc.mk (orc4c call fu) (orc4b call fu) (orc4p call fu) (orc4m call fu)) 4 Go.Proofs.Tryz.f4 (codeOf Go.Proofs.Tryz.f4) call fu m ρ).map Prod.snd := by kernel_rfl
theorem x4 (call : Call) (fu : Nat) : ∀ (args : List AV) (s : St), F4 call fu args s = fnH Go.Proofs.Tryz.prog lv4 (Orc.mk (orc4c call fu) (orc4b call fu) (orc4p call fu) (orc4m call fu)) 4 Go.Proofs.Tryz.f4 (codeOf Go.Proofs.Tryz.f4) call fu args s
  | [], s => by kernel_rfl
  | [t0], s => by kernel_rfl
  | t0 :: t1 :: l, s => by kernel_rfl
theorem o7 (call : Call) (fu m : Nat) (ρ : Nat → IH) : (oblF Go.Proofs.Tryz.prog lv7 (Orc.mk (orc7c call fu) (orc7b call fu) (orc7p call fu) (orc7m call fu)) 7 Go.Proofs.Tryz.f7 (codeOf Go.Proofs.Tryz.f7) call fu m ρ).map Prod.fst = (oblF Go.Proofs.Tryz.prog lv7 (Orc.mk (orc7c call fu) (orc7b call fu) (orc7p call fu) (orc7m call fu)) 7 Go.Proofs.Tryz.f7 (codeOf Go.Proofs.Tryz.f7) call fu m ρ).map Prod.snd := by kernel_rfl
theorem x7 (call : Call) (fu : Nat) : ∀ (args : List AV) (s : St), F7 call fu args s = fnH Go.Proofs.Tryz.prog lv7 (Orc.mk (orc7c call fu) (orc7b call fu) (orc7p call fu) (orc7m call fu)) 7 Go.Proofs.Tryz.f7 (codeOf Go.Proofs.Tryz.f7) call fu args s
  | [], s => by kernel_rfl
  | [t0], s => by kernel_rfl
  | [t0, t1], s => by kernel_rfl
  | t0 :: t1 :: t2 :: l, s => by kernel_rfl
theorem o13 (call : Call) (fu m : Nat) (ρ : Nat → IH) : (oblF Go.Proofs.Tryz.prog lv13 (Orc.mk (orc13c call fu) (orc13b call fu) (orc13p call fu) (orc13m call fu)) 13 Go.Proofs.Tryz.f13 (codeOf Go.Proofs.Tryz.f13) call fu m ρ).map Prod.fst = (oblF Go.Proofs.Tryz.prog lv13 (Orc.mk (orc13c call fu) (orc13b call fu) (orc13p call fu) (orc13m call fu)) 13 Go.Proofs.Tryz.f13 (codeOf Go.Proofs.Tryz.f13) call fu m ρ).map Prod.snd := by kernel_rfl
theorem x13 (call : Call) (fu : Nat) : ∀ (args : List AV) (s : St), F13 call fu args s = fnH Go.Proofs.Tryz.prog lv13 (Orc.mk (orc13c call fu) (orc13b call fu) (orc13p call fu) (orc13m call fu)) 13 Go.Proofs.Tryz.f13 (codeOf Go.Proofs.Tryz.f13) call fu args s
  | [], s => by kernel_rfl
  | [t0], s => by kernel_rfl
  | t0 :: t1 :: l, s => by kernel_rfl
theorem o14 (call : Call) (fu m : Nat) (ρ : Nat → IH) : (oblF Go.Proofs.Tryz.prog lv14 (Orc.mk (orc14c call fu) (orc14b call fu) (orc14p call fu) (orc14m call fu)) 14 Go.Proofs.Tryz.f14 (codeOf Go.Proofs.Tryz.f14) call fu m ρ).map Prod.fst = (oblF Go.Proofs.Tryz.prog lv14 (Orc.mk (orc14c call fu) (orc14b call fu) (orc14p call fu) (orc14m call fu)) 14 Go.Proofs.Tryz.f14 (codeOf Go.Proofs.Tryz.f14) call fu m ρ).map Prod.snd := by kernel_rfl
theorem x14 (call : Call) (fu : Nat) : ∀ (args : List AV) (s : St), F14 call fu args s = fnH Go.Proofs.Tryz.prog lv14 (Orc.mk (orc14c call fu) (orc14b call fu) (orc14p call fu) (orc14m call fu)) 14 Go.Proofs.Tryz.f14 (codeOf Go.Proofs.Tryz.f14) call fu args s
  | [], s => by kernel_rfl
  | [t0], s => by kernel_rfl
  | t0 :: t1 :: l, s => by kernel_rfl
theorem o15 (call : Call) (fu m : Nat) (ρ : Nat → IH) : (oblF Go.Proofs.Tryz.prog lv15 (Orc.mk (orc15c call fu) (orc15b call fu) (orc15p call fu) (orc15m call fu)) 15 Go.Proofs.Tryz.f15 (codeOf Go.Proofs.Tryz.f15) call fu m ρ).map Prod.fst = (oblF Go.Proofs.Tryz.prog lv15 (Orc.mk (orc15c call fu) (orc15b call fu) (orc15p call fu) (orc15m call fu)) 15 Go.Proofs.Tryz.f15 (codeOf Go.Proofs.Tryz.f15) call fu m ρ).map Prod.snd := by kernel_rfl
theorem x15 (call : Call) (fu : Nat) : ∀ (args : List AV) (s : St), F15 call fu args s = fnH Go.Proofs.Tryz.prog lv15 (Orc.mk (orc15c call fu) (orc15b call fu) (orc15p call fu) (orc15m call fu)) 15 Go.Proofs.Tryz.f15 (codeOf Go.Proofs.Tryz.f15) call fu args s
  | [], s => by kernel_rfl
  | [t0], s => by kernel_rfl
  | [t0, t1], s => by kernel_rfl
  | t0 :: t1 :: t2 :: l, s => by kernel_rfl
theorem o16 (call : Call) (fu m : Nat) (ρ : Nat → IH) : (oblF Go.Proofs.Tryz.prog lv16 (Orc.mk (orc16c call fu) (orc16b call fu) (orc16p call fu) (orc16m call fu)) 16 Go.Proofs.Tryz.f16 (codeOf Go.Proofs.Tryz.f16) call fu m ρ).map Prod.fst = (oblF Go.Proofs.Tryz.prog lv16 (Orc.mk (orc16c call fu) (orc16b call fu) (orc16p call fu) (orc16m call fu)) 16 Go.Proofs.Tryz.f16 (codeOf Go.Proofs.Tryz.f16) call fu m ρ).map Prod.snd := by kernel_rfl
theorem x16 (call : Call) (fu : Nat) : ∀ (args : List AV) (s : St), F16 call fu args s = fnH Go.Proofs.Tryz.prog lv16 (Orc.mk (orc16c call fu) (orc16b call fu) (orc16p call fu) (orc16m call fu)) 16 Go.Proofs.Tryz.f16 (codeOf Go.Proofs.Tryz.f16) call fu args s
  | [], s => by kernel_rfl
  | [t0], s => by kernel_rfl
  | t0 :: t1 :: l, s => by kernel_rfl
theorem o17 (call : Call) (fu m : Nat) (ρ : Nat → IH) : (oblF Go.Proofs.Tryz.prog lv17 (Orc.mk (orc17c call fu) (orc17b call fu) (orc17p call fu) (orc17m call fu)) 17 Go.Proofs.Tryz.f17 (codeOf Go.Proofs.Tryz.f17) call fu m ρ).map Prod.fst = (oblF Go.Proofs.Tryz.prog lv17 (Orc.mk (orc17c call fu) (orc17b call fu) (orc17p call fu) (orc17m call fu)) 17 Go.Proofs.Tryz.f17 (codeOf Go.Proofs.Tryz.f17) call fu m ρ).map Prod.snd := by kernel_rfl
theorem x17 (call : Call) (fu : Nat) : ∀ (args : List AV) (s : St), F17 call fu args s = fnH Go.Proofs.Tryz.prog lv17 (Orc.mk (orc17c call fu) (orc17b call fu) (orc17p call fu) (orc17m call fu)) 17 Go.Proofs.Tryz.f17 (codeOf Go.Proofs.Tryz.f17) call fu args s
  | [], s => by kernel_rfl
  | [t0], s => by kernel_rfl
  | [t0, t1], s => by kernel_rfl
  | t0 :: t1 :: t2 :: l, s => by kernel_rfl
theorem o18 (call : Call) (fu m : Nat) (ρ : Nat → IH) : (oblF Go.Proofs.Tryz.prog lv18 (Orc.mk (orc18c call fu) (orc18b call fu) (orc18p call fu) (orc18m call fu)) 18 Go.Proofs.Tryz.f18 (codeOf Go.Proofs.Tryz.f18) call fu m ρ).map Prod.fst = (oblF Go.Proofs.Tryz.prog lv18 (Orc.mk (orc18c call fu) (orc18b call fu) (orc18p call fu) (orc18m call fu)) 18 Go.Proofs.Tryz.f18 (codeOf Go.Proofs.Tryz.f18) call fu m ρ).map Prod.snd := by kernel_rfl
theorem x18 (call : Call) (fu : Nat) : ∀ (args : List AV) (s : St), F18 call fu args s = fnH Go.Proofs.Tryz.prog lv18 (Orc.mk (orc18c call fu) (orc18b call fu) (orc18p call fu) (orc18m call fu)) 18 Go.Proofs.Tryz.f18 (codeOf Go.Proofs.Tryz.f18) call fu args s
  | [], s => by kernel_rfl
  | [t0], s => by kernel_rfl
  | [t0, t1], s => by kernel_rfl
  | t0 :: t1 :: t2 :: l, s => by kernel_rfl
theorem o19 (call : Call) (fu m : Nat) (ρ : Nat → IH) : (oblF Go.Proofs.Tryz.prog lv19 (Orc.mk (orc19c call fu) (orc19b call fu) (orc19p call fu) (orc19m call fu)) 19 Go.Proofs.Tryz.f19 (codeOf Go.Proofs.Tryz.f19) call fu m ρ).map Prod.fst = (oblF Go.Proofs.Tryz.prog lv19 (Orc.mk (orc19c call fu) (orc19b call fu) (orc19p call fu) (orc19m call fu)) 19 Go.Proofs.Tryz.f19 (codeOf Go.Proofs.Tryz.f19) call fu m ρ).map Prod.snd := by kernel_rfl
theorem x19 (call : Call) (fu : Nat) : ∀ (args : List AV) (s : St), F19 call fu args s = fnH Go.Proofs.Tryz.prog lv19 (Orc.mk (orc19c call fu) (orc19b call fu) (orc19p call fu) (orc19m call fu)) 19 Go.Proofs.Tryz.f19 (codeOf Go.Proofs.Tryz.f19) call fu args s
  | [], s => by kernel_rfl
  | t0 :: l, s => by kernel_rfl
theorem o35 (call : Call) (fu m : Nat) (ρ : Nat → IH) : (oblF Go.Proofs.Tryz.prog lv35 (Orc.mk (orc35c call fu) (orc35b call fu) (orc35p call fu) (orc35m call fu)) 35 Go.Proofs.Tryz.f35 (codeOf Go.Proofs.Tryz.f35) call fu m ρ).map Prod.fst = (oblF Go.Proofs.Tryz.prog lv35 (Orc.mk (orc35c call fu) (orc35b call fu) (orc35p call fu) (orc35m call fu)) 35 Go.Proofs.Tryz.f35 (codeOf Go.Proofs.Tryz.f35) call fu m ρ).map Prod.snd := by kernel_rfl
theorem x35 (call : Call) (fu : Nat) : ∀ (args : List AV) (s : St), F35 call fu args s = fnH Go.Proofs.Tryz.prog lv35 (Orc.mk (orc35c call fu) (orc35b call fu) (orc35p call fu) (orc35m call fu)) 35 Go.Proofs.Tryz.f35 (codeOf Go.Proofs.Tryz.f35) call fu args s
  | [], s => by kernel_rfl
  | [t0], s => by kernel_rfl
  | t0 :: t1 :: l, s => by kernel_rfl
theorem o36 (call : Call) (fu m : Nat) (ρ : Nat → IH) : (oblF Go.Proofs.Tryz.prog lv36 (Orc.mk (orc36c call fu) (orc36b call fu) (orc36p call fu) (orc36m call fu)) 36 Go.Proofs.Tryz.f36 (codeOf Go.Proofs.Tryz.f36) call fu m ρ).map Prod.fst = (oblF Go.Proofs.Tryz.prog lv36 (Orc.mk (orc36c call fu) (orc36b call fu) (orc36p call fu) (orc36m call fu)) 36 Go.Proofs.Tryz.f36 (codeOf Go.Proofs.Tryz.f36) call fu m ρ).map Prod.snd := by kernel_rfl
theorem x36 (call : Call) (fu : Nat) : ∀ (args : List AV) (s : St), F36 call fu args s = fnH Go.Proofs.Tryz.prog lv36 (Orc.mk (orc36c call fu) (orc36b call fu) (orc36p call fu) (orc36m call fu)) 36 Go.Proofs.Tryz.f36 (codeOf Go.Proofs.Tryz.f36) call fu args s
  | [], s => by kernel_rfl
  | [t0], s => by kernel_rfl
  | t0 :: t1 :: l, s => by kernel_rfl
theorem o37 (call : Call) (fu m : Nat) (ρ : Nat → IH) : (oblF Go.Proofs.Tryz.prog lv37 (Orc.mk (orc37c call fu) (orc37b call fu) (orc37p call fu) (orc37m call fu)) 37 Go.Proofs.Tryz.f37 (codeOf Go.Proofs.Tryz.f37) call fu m ρ).map Prod.fst = (oblF Go.Proofs.Tryz.prog lv37 (Orc.mk (orc37c call fu) (orc37b call fu) (orc37p call fu) (orc37m call fu)) 37 Go.Proofs.Tryz.f37 (codeOf Go.Proofs.Tryz.f37) call fu m ρ).map Prod.snd := by kernel_rfl
theorem x37 (call : Call) (fu : Nat) : ∀ (args : List AV) (s : St), F37 call fu args s = fnH Go.Proofs.Tryz.prog lv37 (Orc.mk (orc37c call fu) (orc37b call fu) (orc37p call fu) (orc37m call fu)) 37 Go.Proofs.Tryz.f37 (codeOf Go.Proofs.Tryz.f37) call fu args s
  | [], s => by kernel_rfl
  | [t0], s => by kernel_rfl
  | t0 :: t1 :: l, s => by kernel_rfl
theorem o38 (call : Call) (fu m : Nat) (ρ : Nat → IH) : (oblF Go.Proofs.Tryz.prog lv38 (Orc.mk (orc38c call fu) (orc38b call fu) (orc38p call fu) (orc38m call fu)) 38 Go.Proofs.Tryz.f38 (codeOf Go.Proofs.Tryz.f38) call fu m ρ).map Prod.fst = (oblF Go.Proofs.Tryz.prog lv38 (Orc.mk (orc38c call fu) (orc38b call fu) (orc38p call fu) (orc38m call fu)) 38 Go.Proofs.Tryz.f38 (codeOf Go.Proofs.Tryz.f38) call fu m ρ).map Prod.snd := by kernel_rfl
theorem x38 (call : Call) (fu : Nat) : ∀ (args : List AV) (s : St), F38 call fu args s = fnH Go.Proofs.Tryz.prog lv38 (Orc.mk (orc38c call fu) (orc38b call fu) (orc38p call fu) (orc38m call fu)) 38 Go.Proofs.Tryz.f38 (codeOf Go.Proofs.Tryz.f38) call fu args s
  | [], s => by kernel_rfl
  | [t0], s => by kernel_rfl
  | t0 :: t1 :: l, s => by kernel_rfl
theorem o39 (call : Call) (fu m : Nat) (ρ : Nat → IH) : (oblF Go.Proofs.Tryz.prog lv39 (Orc.mk (orc39c call fu) (orc39b call fu) (orc39p call fu) (orc39m call fu)) 39 Go.Proofs.Tryz.f39 (codeOf Go.Proofs.Tryz.f39) call fu m ρ).map Prod.fst = (oblF Go.Proofs.Tryz.prog lv39 (Orc.mk (orc39c call fu) (orc39b call fu) (orc39p call fu) (orc39m call fu)) 39 Go.Proofs.Tryz.f39 (codeOf Go.Proofs.Tryz.f39) call fu m ρ).map Prod.snd := by kernel_rfl
theorem x39 (call : Call) (fu : Nat) : ∀ (args : List AV) (s : St), F39 call fu args s = fnH Go.Proofs.Tryz.prog lv39 (Orc.mk (orc39c call fu) (orc39b call fu) (orc39p call fu) (orc39m call fu)) 39 Go.Proofs.Tryz.f39 (codeOf Go.Proofs.Tryz.f39) call fu args s
  | [], s => by kernel_rfl
  | [t0], s => by kernel_rfl
  | t0 :: t1 :: l, s => by kernel_rfl
theorem o40 (call : Call) (fu m : Nat) (ρ : Nat → IH) : (oblF Go.Proofs.Tryz.prog lv40 (Orc.mk (orc40c call fu) (orc40b call fu) (orc40p call fu) (orc40m call fu)) 40 Go.Proofs.Tryz.f40 (codeOf Go.Proofs.Tryz.f40) call fu m ρ).map Prod.fst = (oblF Go.Proofs.Tryz.prog lv40 (Orc.mk (orc40c call fu) (orc40b call fu) (orc40p call fu) (orc40m call fu)) 40 Go.Proofs.Tryz.f40 (codeOf Go.Proofs.Tryz.f40) call fu m ρ).map Prod.snd := by kernel_rfl
theorem x40 (call : Call) (fu : Nat) : ∀ (args : List AV) (s : St), F40 call fu args s = fnH Go.Proofs.Tryz.prog lv40 (Orc.mk (orc40c call fu) (orc40b call fu) (orc40p call fu) (orc40m call fu)) 40 Go.Proofs.Tryz.f40 (codeOf Go.Proofs.Tryz.f40) call fu args s
  | [], s => by kernel_rfl
  | [t0], s => by kernel_rfl
  | t0 :: t1 :: l, s => by kernel_rfl
theorem o41 (call : Call) (fu m : Nat) (ρ : Nat → IH) : (oblF Go.Proofs.Tryz.prog lv41 (Orc.mk (orc41c call fu) (orc41b call fu) (orc41p call fu) (orc41m call fu)) 41 Go.Proofs.Tryz.f41 (codeOf Go.Proofs.Tryz.f41) call fu m ρ).map Prod.fst = (oblF Go.Proofs.Tryz.prog lv41 (Orc.mk (orc41c call fu) (orc41b call fu) (orc41p call fu) (orc41m call fu)) 41 Go.Proofs.Tryz.f41 (codeOf Go.Proofs.Tryz.f41) call fu m ρ).map Prod.snd := by kernel_rfl
theorem x41 (call : Call) (fu : Nat) : ∀ (args : List AV) (s : St), F41 call fu args s = fnH Go.Proofs.Tryz.prog lv41 (Orc.mk (orc41c call fu) (orc41b call fu) (orc41p call fu) (orc41m call fu)) 41 Go.Proofs.Tryz.f41 (codeOf Go.Proofs.Tryz.f41) call fu args s
  | [], s => by kernel_rfl
  | [t0], s => by kernel_rfl
  | [t0, t1], s => by kernel_rfl
  | t0 :: t1 :: t2 :: l, s => by kernel_rfl
theorem o43 (call : Call) (fu m : Nat) (ρ : Nat → IH) : (oblF Go.Proofs.Tryz.prog lv43 (Orc.mk (orc43c call fu) (orc43b call fu) (orc43p call fu) (orc43m call fu)) 43 Go.Proofs.Tryz.f43 (codeOf Go.Proofs.Tryz.f43) call fu m ρ).map Prod.fst = (oblF Go.Proofs.Tryz.prog lv43 (Orc.mk (orc43c call fu) (orc43b call fu) (orc43p call fu) (orc43m call fu)) 43 Go.Proofs.Tryz.f43 (codeOf Go.Proofs.Tryz.f43) call fu m ρ).map Prod.snd := by kernel_rfl
theorem x43 (call : Call) (fu : Nat) : ∀ (args : List AV) (s : St), F43 call fu args s = fnH Go.Proofs.Tryz.prog lv43 (Orc.mk (orc43c call fu) (orc43b call fu) (orc43p call fu) (orc43m call fu)) 43 Go.Proofs.Tryz.f43 (codeOf Go.Proofs.Tryz.f43) call fu args s
  | [], s => by kernel_rfl
  | [t0], s => by kernel_rfl
  | [t0, t1], s => by kernel_rfl
  | [t0, t1, t2], s => by kernel_rfl
  | t0 :: t1 :: t2 :: t3 :: l, s => by kernel_rfl
end Go.Ev.V
