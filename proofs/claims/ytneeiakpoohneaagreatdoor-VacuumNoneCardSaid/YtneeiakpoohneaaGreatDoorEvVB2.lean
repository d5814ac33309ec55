/- Each piece is what the evaluator comes to on the code (by a program). -/
import Derived.Test.YtneeiakpoohneaaGreatDoorEvVA1
import Derived.KernelRfl
set_option linter.all false
set_option linter.unusedVariables false
set_option maxRecDepth 100000
namespace Go.Ev.V
theorem o82 (call : Call) (fu m : Nat) (ρ : Nat → IH) : (oblF Go.Proofs.Tryz.prog lv82 (Orc.mk (orc82c call fu) (orc82b call fu) (orc82p call fu) (orc82m call fu)) 82 Go.Proofs.Tryz.f82 (codeOf Go.Proofs.Tryz.f82) call fu m ρ).map Prod.fst = (oblF Go.Proofs.Tryz.prog lv82 (Orc.mk (orc82c call fu) (orc82b call fu) (orc82p call fu) (orc82m call fu)) 82 Go.Proofs.Tryz.f82 (codeOf Go.Proofs.Tryz.f82) call fu m ρ).map Prod.snd := by kernel_rfl
theorem x82 (call : Call) (fu : Nat) : ∀ (args : List AV) (s : St), F82 call fu args s = fnH Go.Proofs.Tryz.prog lv82 (Orc.mk (orc82c call fu) (orc82b call fu) (orc82p call fu) (orc82m call fu)) 82 Go.Proofs.Tryz.f82 (codeOf Go.Proofs.Tryz.f82) call fu args s
  | [], s => by kernel_rfl
  | t0 :: l, s => by kernel_rfl
theorem o83 (call : Call) (fu m : Nat) (ρ : Nat → IH) : (oblF Go.Proofs.Tryz.prog lv83 (Orc.mk (orc83c call fu) (orc83b call fu) (orc83p call fu) (orc83m call fu)) 83 Go.Proofs.Tryz.f83 (codeOf Go.Proofs.Tryz.f83) call fu m ρ).map Prod.fst = (oblF Go.Proofs.Tryz.prog lv83 (Orc.mk (orc83c call fu) (orc83b call fu) (orc83p call fu) (orc83m call fu)) 83 Go.Proofs.Tryz.f83 (codeOf Go.Proofs.Tryz.f83) call fu m ρ).map Prod.snd := by kernel_rfl
theorem x83 (call : Call) (fu : Nat) : ∀ (args : List AV) (s : St), F83 call fu args s = fnH Go.Proofs.Tryz.prog lv83 (Orc.mk (orc83c call fu) (orc83b call fu) (orc83p call fu) (orc83m call fu)) 83 Go.Proofs.Tryz.f83 (codeOf Go.Proofs.Tryz.f83) call fu args s
  | [], s => by kernel_rfl
  | [t0], s => by kernel_rfl
  | t0 :: t1 :: l, s => by kernel_rfl
theorem o93 (call : Call) (fu m : Nat) (ρ : Nat → IH) : (oblF Go.Proofs.Tryz.prog lv93 (Orc.mk (orc93c call fu) (orc93b call fu) (orc93p call fu) (orc93m call fu)) 93 Go.Proofs.Tryz.f93 (codeOf Go.Proofs.Tryz.f93) call fu m ρ).map Prod.fst = (oblF Go.Proofs.Tryz.prog lv93 (Orc.mk (orc93c call fu) (orc93b call fu) (orc93p call fu) (orc93m call fu)) 93 Go.Proofs.Tryz.f93 (codeOf Go.Proofs.Tryz.f93) call fu m ρ).map Prod.snd := by kernel_rfl
theorem x93 (call : Call) (fu : Nat) : ∀ (args : List AV) (s : St), F93 call fu args s = fnH Go.Proofs.Tryz.prog lv93 (Orc.mk (orc93c call fu) (orc93b call fu) (orc93p call fu) (orc93m call fu)) 93 Go.Proofs.Tryz.f93 (codeOf Go.Proofs.Tryz.f93) call fu args s
  | [], s => by kernel_rfl
  | [t0], s => by kernel_rfl
  | t0 :: t1 :: l, s => by kernel_rfl
theorem o95 (call : Call) (fu m : Nat) (ρ : Nat → IH) : (oblF Go.Proofs.Tryz.prog lv95 (Orc.mk (orc95c call fu) (orc95b call fu) (orc95p call fu) (orc95m call fu)) 95 Go.Proofs.Tryz.f95 (codeOf Go.Proofs.Tryz.f95) call fu m ρ).map Prod.fst = (oblF Go.Proofs.Tryz.prog lv95 (Orc.mk (orc95c call fu) (orc95b call fu) (orc95p call fu) (orc95m call fu)) 95 Go.Proofs.Tryz.f95 (codeOf Go.Proofs.Tryz.f95) call fu m ρ).map Prod.snd := by kernel_rfl
theorem x95 (call : Call) (fu : Nat) : ∀ (args : List AV) (s : St), F95 call fu args s = fnH Go.Proofs.Tryz.prog lv95 (Orc.mk (orc95c call fu) (orc95b call fu) (orc95p call fu) (orc95m call fu)) 95 Go.Proofs.Tryz.f95 (codeOf Go.Proofs.Tryz.f95) call fu args s
  | [], s => by kernel_rfl
  | [t0], s => by kernel_rfl
  | t0 :: t1 :: l, s => by kernel_rfl
theorem o96 (call : Call) (fu m : Nat) (ρ : Nat → IH) : (oblF Go.Proofs.Tryz.prog lv96 (Orc.mk (orc96c call fu) (orc96b call fu) (orc96p call fu) (orc96m call fu)) 96 Go.Proofs.Tryz.f96 (codeOf Go.Proofs.Tryz.f96) call fu m ρ).map Prod.fst = (oblF Go.Proofs.Tryz.prog lv96 (Orc.mk (orc96c call fu) (orc96b call fu) (orc96p call fu) (orc96m call fu)) 96 Go.Proofs.Tryz.f96 (codeOf Go.Proofs.Tryz.f96) call fu m ρ).map Prod.snd := by kernel_rfl
theorem x96 (call : Call) (fu : Nat) : ∀ (args : List AV) (s : St), F96 call fu args s = fnH Go.Proofs.Tryz.prog lv96 (Orc.mk (orc96c call fu) (orc96b call fu) (orc96p call fu) (orc96m call fu)) 96 Go.Proofs.Tryz.f96 (codeOf Go.Proofs.Tryz.f96) call fu args s
  | [], s => by kernel_rfl
  | [t0], s => by kernel_rfl
  | t0 :: t1 :: l, s => by kernel_rfl
theorem o101 (call : Call) (fu m : Nat) (ρ : Nat → IH) : (oblF Go.Proofs.Tryz.prog lv101 (Orc.mk (orc101c call fu) (orc101b call fu) (orc101p call fu) (orc101m call fu)) 101 Go.Proofs.Tryz.f101 (codeOf Go.Proofs.Tryz.f101) call fu m ρ).map Prod.fst = (oblF Go.Proofs.Tryz.prog lv101 (Orc.mk (orc101c call fu) (orc101b call fu) (orc101p call fu) (orc101m call fu)) 101 Go.Proofs.Tryz.f101 (codeOf Go.Proofs.Tryz.f101) call fu m ρ).map Prod.snd := by kernel_rfl
theorem x101 (call : Call) (fu : Nat) : ∀ (args : List AV) (s : St), F101 call fu args s = fnH Go.Proofs.Tryz.prog lv101 (Orc.mk (orc101c call fu) (orc101b call fu) (orc101p call fu) (orc101m call fu)) 101 Go.Proofs.Tryz.f101 (codeOf Go.Proofs.Tryz.f101) call fu args s
  | [], s => by kernel_rfl
  | [t0], s => by kernel_rfl
  | [t0, t1], s => by kernel_rfl
  | t0 :: t1 :: t2 :: l, s => by kernel_rfl
theorem o103 (call : Call) (fu m : Nat) (ρ : Nat → IH) : (oblF Go.Proofs.Tryz.prog lv103 (Orc.mk (orc103c call fu) (orc103b call fu) (orc103p call fu) (orc103m call fu)) 103 Go.Proofs.Tryz.f103 (codeOf Go.Proofs.Tryz.f103) call fu m ρ).map Prod.fst = (oblF Go.Proofs.Tryz.prog lv103 (Orc.mk (orc103c call fu) (orc103b call fu) (orc103p call fu) (orc103m call fu)) 103 Go.Proofs.Tryz.f103 (codeOf Go.Proofs.Tryz.f103) call fu m ρ).map Prod.snd := by kernel_rfl
theorem x103 (call : Call) (fu : Nat) : ∀ (args : List AV) (s : St), F103 call fu args s = fnH Go.Proofs.Tryz.prog lv103 (Orc.mk (orc103c call fu) (orc103b call fu) (orc103p call fu) (orc103m call fu)) 103 Go.Proofs.Tryz.f103 (codeOf Go.Proofs.Tryz.f103) call fu args s
  | [], s => by kernel_rfl
  | [t0], s => by kernel_rfl
  | t0 :: t1 :: l, s => by kernel_rfl
theorem o104 (call : Call) (fu m : Nat) (ρ : Nat → IH) : (oblF Go.Proofs.Tryz.prog lv104 (Orc.mk (orc104c call fu) (orc104b call fu) (orc104p call fu) (orc104m call fu)) 104 Go.Proofs.Tryz.f104 (codeOf Go.Proofs.Tryz.f104) call fu m ρ).map Prod.fst = (oblF Go.Proofs.Tryz.prog lv104 (Orc.mk (orc104c call fu) (orc104b call fu) (orc104p call fu) (orc104m call fu)) 104 Go.Proofs.Tryz.f104 (codeOf Go.Proofs.Tryz.f104) call fu m ρ).map Prod.snd := by kernel_rfl
theorem x104 (call : Call) (fu : Nat) : ∀ (args : List AV) (s : St), F104 call fu args s = fnH Go.Proofs.Tryz.prog lv104 (Orc.mk (orc104c call fu) (orc104b call fu) (orc104p call fu) (orc104m call fu)) 104 Go.Proofs.Tryz.f104 (codeOf Go.Proofs.Tryz.f104) call fu args s
  | [], s => by kernel_rfl
  | [t0], s => by kernel_rfl
  | t0 :: t1 :: l, s => by kernel_rfl
theorem o105 (call : Call) (fu m : Nat) (ρ : Nat → IH) : (oblF Go.Proofs.Tryz.prog lv105 (Orc.mk (orc105c call fu) (orc105b call fu) (orc105p call fu) (orc105m call fu)) 105 Go.Proofs.Tryz.f105 (codeOf Go.Proofs.Tryz.f105) call fu m ρ).map Prod.fst = (oblF Go.Proofs.Tryz.prog lv105 (Orc.mk (orc105c call fu) (orc105b call fu) (orc105p call fu) (orc105m call fu)) 105 Go.Proofs.Tryz.f105 (codeOf Go.Proofs.Tryz.f105) call fu m ρ).map Prod.snd := by kernel_rfl
theorem x105 (call : Call) (fu : Nat) : ∀ (args : List AV) (s : St), F105 call fu args s = fnH Go.Proofs.Tryz.prog lv105 (Orc.mk (orc105c call fu) (orc105b call fu) (orc105p call fu) (orc105m call fu)) 105 Go.Proofs.Tryz.f105 (codeOf Go.Proofs.Tryz.f105) call fu args s
  | [], s => by kernel_rfl
  | [t0], s => by kernel_rfl
  | t0 :: t1 :: l, s => by kernel_rfl
theorem o106 (call : Call) (fu m : Nat) (ρ : Nat → IH) : (oblF Go.Proofs.Tryz.prog lv106 (Orc.mk (orc106c call fu) (orc106b call fu) (orc106p call fu) (orc106m call fu)) 106 Go.Proofs.Tryz.f106 (codeOf Go.Proofs.Tryz.f106) call fu m ρ).map Prod.fst = (oblF Go.Proofs.Tryz.prog lv106 (Orc.mk (orc106c call fu) (orc106b call fu) (orc106p call fu) (orc106m call fu)) 106 Go.Proofs.Tryz.f106 (codeOf Go.Proofs.Tryz.f106) call fu m ρ).map Prod.snd := by kernel_rfl
theorem x106 (call : Call) (fu : Nat) : ∀ (args : List AV) (s : St), F106 call fu args s = fnH Go.Proofs.Tryz.prog lv106 (Orc.mk (orc106c call fu) (orc106b call fu) (orc106p call fu) (orc106m call fu)) 106 Go.Proofs.Tryz.f106 (codeOf Go.Proofs.Tryz.f106) call fu args s
  | [], s => by kernel_rfl
  | [t0], s => by kernel_rfl
  | [t0, t1], s => by kernel_rfl
  | [t0, t1, t2], s => by kernel_rfl
  | t0 :: t1 :: t2 :: t3 :: l, s => by kernel_rfl
theorem o107 (call : Call) (fu m : Nat) (ρ : Nat → IH) : (oblF Go.Proofs.Tryz.prog lv107 (Orc.mk (orc107c call fu) (orc107b call fu) (orc107p call fu) (orc107m call fu)) 107 Go.Proofs.Tryz.f107 (codeOf Go.Proofs.Tryz.f107) call fu m ρ).map Prod.fst = (oblF Go.Proofs.Tryz.prog lv107 (Orc.mk (orc107c call fu) (orc107b call fu) (orc107p call fu) (orc107m call fu)) 107 Go.Proofs.Tryz.f107 (codeOf Go.Proofs.Tryz.f107) call fu m ρ).map Prod.snd := by kernel_rfl
theorem x107 (call : Call) (fu : Nat) : ∀ (args : List AV) (s : St), F107 call fu args s = fnH Go.Proofs.Tryz.prog lv107 (Orc.mk (orc107c call fu) (orc107b call fu) (orc107p call fu) (orc107m call fu)) 107 Go.Proofs.Tryz.f107 (codeOf Go.Proofs.Tryz.f107) call fu args s
  | [], s => by kernel_rfl
  | [t0], s => by kernel_rfl
  | [t0, t1], s => by kernel_rfl
  | [t0, t1, t2], s => by kernel_rfl
  | t0 :: t1 :: t2 :: t3 :: l, s => by kernel_rfl
theorem o108 (call : Call) (fu m : Nat) (ρ : Nat → IH) : (oblF Go.Proofs.Tryz.prog lv108 (Orc.mk (orc108c call fu) (orc108b call fu) (orc108p call fu) (orc108m call fu)) 108 Go.Proofs.Tryz.f108 (codeOf Go.Proofs.Tryz.f108) call fu m ρ).map Prod.fst = (oblF Go.Proofs.Tryz.prog lv108 (Orc.mk (orc108c call fu) (orc108b call fu) (orc108p call fu) (orc108m call fu)) 108 Go.Proofs.Tryz.f108 (codeOf Go.Proofs.Tryz.f108) call fu m ρ).map Prod.snd := by kernel_rfl
theorem x108 (call : Call) (fu : Nat) : ∀ (args : List AV) (s : St), F108 call fu args s = fnH Go.Proofs.Tryz.prog lv108 (Orc.mk (orc108c call fu) (orc108b call fu) (orc108p call fu) (orc108m call fu)) 108 Go.Proofs.Tryz.f108 (codeOf Go.Proofs.Tryz.f108) call fu args s
  | [], s => by kernel_rfl
  | [t0], s => by kernel_rfl
  | [t0, t1], s => by kernel_rfl
  | [t0, t1, t2], s => by kernel_rfl
  | t0 :: t1 :: t2 :: t3 :: l, s => by kernel_rfl
theorem o109 (call : Call) (fu m : Nat) (ρ : Nat → IH) : (oblF Go.Proofs.Tryz.prog lv109 (Orc.mk (orc109c call fu) (orc109b call fu) (orc109p call fu) (orc109m call fu)) 109 Go.Proofs.Tryz.f109 (codeOf Go.Proofs.Tryz.f109) call fu m ρ).map Prod.fst = (oblF Go.Proofs.Tryz.prog lv109 (Orc.mk (orc109c call fu) (orc109b call fu) (orc109p call fu) (orc109m call fu)) 109 Go.Proofs.Tryz.f109 (codeOf Go.Proofs.Tryz.f109) call fu m ρ).map Prod.snd := by kernel_rfl
theorem x109 (call : Call) (fu : Nat) : ∀ (args : List AV) (s : St), F109 call fu args s = fnH Go.Proofs.Tryz.prog lv109 (Orc.mk (orc109c call fu) (orc109b call fu) (orc109p call fu) (orc109m call fu)) 109 Go.Proofs.Tryz.f109 (codeOf Go.Proofs.Tryz.f109) call fu args s
  | [], s => by kernel_rfl
  | [t0], s => by kernel_rfl
  | t0 :: t1 :: l, s => by kernel_rfl
theorem o110 (call : Call) (fu m : Nat) (ρ : Nat → IH) : (oblF Go.Proofs.Tryz.prog lv110 (Orc.mk (orc110c call fu) (orc110b call fu) (orc110p call fu) (orc110m call fu)) 110 Go.Proofs.Tryz.f110 (codeOf Go.Proofs.Tryz.f110) call fu m ρ).map Prod.fst = (oblF Go.Proofs.Tryz.prog lv110 (Orc.mk (orc110c call fu) (orc110b call fu) (orc110p call fu) (orc110m call fu)) 110 Go.Proofs.Tryz.f110 (codeOf Go.Proofs.Tryz.f110) call fu m ρ).map Prod.snd := by kernel_rfl
theorem x110 (call : Call) (fu : Nat) : ∀ (args : List AV) (s : St), F110 call fu args s = fnH Go.Proofs.Tryz.prog lv110 (Orc.mk (orc110c call fu) (orc110b call fu) (orc110p call fu) (orc110m call fu)) 110 Go.Proofs.Tryz.f110 (codeOf Go.Proofs.Tryz.f110) call fu args s
  | [], s => by kernel_rfl
  | [t0], s => by kernel_rfl
  | t0 :: t1 :: l, s => by kernel_rfl
theorem o111 (call : Call) (fu m : Nat) (ρ : Nat → IH) : (oblF Go.Proofs.Tryz.prog lv111 (Orc.mk (orc111c call fu) (orc111b call fu) (orc111p call fu) (orc111m call fu)) 111 Go.Proofs.Tryz.f111 (codeOf Go.Proofs.Tryz.f111) call fu m ρ).map Prod.fst = (oblF Go.Proofs.Tryz.prog lv111 (Orc.mk (orc111c call fu) (orc111b call fu) (orc111p call fu) (orc111m call fu)) 111 Go.Proofs.Tryz.f111 (codeOf Go.Proofs.Tryz.f111) call fu m ρ).map Prod.snd := by kernel_rfl
theorem x111 (call : Call) (fu : Nat) : ∀ (args : List AV) (s : St), F111 call fu args s = fnH Go.Proofs.Tryz.prog lv111 (Orc.mk (orc111c call fu) (orc111b call fu) (orc111p call fu) (orc111m call fu)) 111 Go.Proofs.Tryz.f111 (codeOf Go.Proofs.Tryz.f111) call fu args s
  | [], s => by kernel_rfl
  | [t0], s => by kernel_rfl
  | [t0, t1], s => by kernel_rfl
  | t0 :: t1 :: t2 :: l, s => by kernel_rfl
theorem o112 (call : Call) (fu m : Nat) (ρ : Nat → IH) : (oblF Go.Proofs.Tryz.prog lv112 (Orc.mk (orc112c call fu) (orc112b call fu) (orc112p call fu) (orc112m call fu)) 112 Go.Proofs.Tryz.f112 (codeOf Go.Proofs.Tryz.f112) call fu m ρ).map Prod.fst = (oblF Go.Proofs.Tryz.prog lv112 (Orc.mk (orc112c call fu) (orc112b call fu) (orc112p call fu) (orc112m call fu)) 112 Go.Proofs.Tryz.f112 (codeOf Go.Proofs.Tryz.f112) call fu m ρ).map Prod.snd := by kernel_rfl
theorem x112 (call : Call) (fu : Nat) : ∀ (args : List AV) (s : St), F112 call fu args s = fnH Go.Proofs.Tryz.prog lv112 (Orc.mk (orc112c call fu) (orc112b call fu) (orc112p call fu) (orc112m call fu)) 112 Go.Proofs.Tryz.f112 (codeOf Go.Proofs.Tryz.f112) call fu args s
  | [], s => by kernel_rfl
  | [t0], s => by kernel_rfl
  | t0 :: t1 :: l, s => by kernel_rfl
theorem o113 (call : Call) (fu m : Nat) (ρ : Nat → IH) : (oblF Go.Proofs.Tryz.prog lv113 (Orc.mk (orc113c call fu) (orc113b call fu) (orc113p call fu) (orc113m call fu)) 113 Go.Proofs.Tryz.f113 (codeOf Go.Proofs.Tryz.f113) call fu m ρ).map Prod.fst = (oblF Go.Proofs.Tryz.prog lv113 (Orc.mk (orc113c call fu) (orc113b call fu) (orc113p call fu) (orc113m call fu)) 113 Go.Proofs.Tryz.f113 (codeOf Go.Proofs.Tryz.f113) call fu m ρ).map Prod.snd := by kernel_rfl
theorem x113 (call : Call) (fu : Nat) : ∀ (args : List AV) (s : St), F113 call fu args s = fnH Go.Proofs.Tryz.prog lv113 (Orc.mk (orc113c call fu) (orc113b call fu) (orc113p call fu) (orc113m call fu)) 113 Go.Proofs.Tryz.f113 (codeOf Go.Proofs.Tryz.f113) call fu args s
  | [], s => by kernel_rfl
  | [t0], s => by kernel_rfl
  | [t0, t1], s => by kernel_rfl
  | [t0, t1, t2], s => by kernel_rfl
  | t0 :: t1 :: t2 :: t3 :: l, s => by kernel_rfl
theorem o114 (call : Call) (fu m : Nat) (ρ : Nat → IH) : (oblF Go.Proofs.Tryz.prog lv114 (Orc.mk (orc114c call fu) (orc114b call fu) (orc114p call fu) (orc114m call fu)) 114 Go.Proofs.Tryz.f114 (codeOf Go.Proofs.Tryz.f114) call fu m ρ).map Prod.fst = (oblF Go.Proofs.Tryz.prog lv114 (Orc.mk (orc114c call fu) (orc114b call fu) (orc114p call fu) (orc114m call fu)) 114 Go.Proofs.Tryz.f114 (codeOf Go.Proofs.Tryz.f114) call fu m ρ).map Prod.snd := by kernel_rfl
theorem x114 (call : Call) (fu : Nat) : ∀ (args : List AV) (s : St), F114 call fu args s = fnH Go.Proofs.Tryz.prog lv114 (Orc.mk (orc114c call fu) (orc114b call fu) (orc114p call fu) (orc114m call fu)) 114 Go.Proofs.Tryz.f114 (codeOf Go.Proofs.Tryz.f114) call fu args s
  | [], s => by kernel_rfl
  | [t0], s => by kernel_rfl
  | [t0, t1], s => by kernel_rfl
  | [t0, t1, t2], s => by kernel_rfl
  | [t0, t1, t2, t3], s => by kernel_rfl
  | t0 :: t1 :: t2 :: t3 :: t4 :: l, s => by kernel_rfl
theorem o115 (call : Call) (fu m : Nat) (ρ : Nat → IH) : (oblF Go.Proofs.Tryz.prog lv115 (Orc.mk (orc115c call fu) (orc115b call fu) (orc115p call fu) (orc115m call fu)) 115 Go.Proofs.Tryz.f115 (codeOf Go.Proofs.Tryz.f115) call fu m ρ).map Prod.fst = (oblF Go.Proofs.Tryz.prog lv115 (Orc.mk (orc115c call fu) (orc115b call fu) (orc115p call fu) (orc115m call fu)) 115 Go.Proofs.Tryz.f115 (codeOf Go.Proofs.Tryz.f115) call fu m ρ).map Prod.snd := by kernel_rfl
theorem x115 (call : Call) (fu : Nat) : ∀ (args : List AV) (s : St), F115 call fu args s = fnH Go.Proofs.Tryz.prog lv115 (Orc.mk (orc115c call fu) (orc115b call fu) (orc115p call fu) (orc115m call fu)) 115 Go.Proofs.Tryz.f115 (codeOf Go.Proofs.Tryz.f115) call fu args s
  | [], s => by kernel_rfl
  | [t0], s => by kernel_rfl
  | [t0, t1], s => by kernel_rfl
  | t0 :: t1 :: t2 :: l, s => by kernel_rfl
theorem o117 (call : Call) (fu m : Nat) (ρ : Nat → IH) : (oblF Go.Proofs.Tryz.prog lv117 (Orc.mk (orc117c call fu) (orc117b call fu) (orc117p call fu) (orc117m call fu)) 117 Go.Proofs.Tryz.f117 (codeOf Go.Proofs.Tryz.f117) call fu m ρ).map Prod.fst = (oblF Go.Proofs.Tryz.prog lv117 (Orc.mk (orc117c call fu) (orc117b call fu) (orc117p call fu) (orc117m call fu)) 117 Go.Proofs.Tryz.f117 (codeOf Go.Proofs.Tryz.f117) call fu m ρ).map Prod.snd := by kernel_rfl
theorem x117 (call : Call) (fu : Nat) : ∀ (args : List AV) (s : St), F117 call fu args s = fnH Go.Proofs.Tryz.prog lv117 (Orc.mk (orc117c call fu) (orc117b call fu) (orc117p call fu) (orc117m call fu)) 117 Go.Proofs.Tryz.f117 (codeOf Go.Proofs.Tryz.f117) call fu args s
  | [], s => by kernel_rfl
  | [t0], s => by kernel_rfl
  | [t0, t1], s => by kernel_rfl
  | [t0, t1, t2], s => by kernel_rfl
  | t0 :: t1 :: t2 :: t3 :: l, s => by kernel_rfl
theorem o118 (call : Call) (fu m : Nat) (ρ : Nat → IH) : (oblF Go.Proofs.Tryz.prog lv118 (Orc.mk (orc118c call fu) (orc118b call fu) (orc118p call fu) (orc118m call fu)) 118 Go.Proofs.Tryz.f118 (codeOf Go.Proofs.Tryz.f118) call fu m ρ).map Prod.fst = (oblF Go.Proofs.Tryz.prog lv118 (Orc.mk (orc118c call fu) (orc118b call fu) (orc118p call fu) (orc118m call fu)) 118 Go.Proofs.Tryz.f118 (codeOf Go.Proofs.Tryz.f118) call fu m ρ).map Prod.snd := by kernel_rfl
theorem x118 (call : Call) (fu : Nat) : ∀ (args : List AV) (s : St), F118 call fu args s = fnH Go.Proofs.Tryz.prog lv118 (Orc.mk (orc118c call fu) (orc118b call fu) (orc118p call fu) (orc118m call fu)) 118 Go.Proofs.Tryz.f118 (codeOf Go.Proofs.Tryz.f118) call fu args s
  | [], s => by kernel_rfl
  | [t0], s => by kernel_rfl
  | t0 :: t1 :: l, s => by kernel_rfl
theorem o121 (call : Call) (fu m : Nat) (ρ : Nat → IH) : (oblF Go.Proofs.Tryz.prog lv121 (Orc.mk (orc121c call fu) (orc121b call fu) (orc121p call fu) (orc121m call fu)) 121 Go.Proofs.Tryz.f121 (codeOf Go.Proofs.Tryz.f121) call fu m ρ).map Prod.fst = (oblF Go.Proofs.Tryz.prog lv121 (Orc.mk (orc121c call fu) (orc121b call fu) (orc121p call fu) (orc121m call fu)) 121 Go.Proofs.Tryz.f121 (codeOf Go.Proofs.Tryz.f121) call fu m ρ).map Prod.snd := by kernel_rfl
theorem x121 (call : Call) (fu : Nat) : ∀ (args : List AV) (s : St), F121 call fu args s = fnH Go.Proofs.Tryz.prog lv121 (Orc.mk (orc121c call fu) (orc121b call fu) (orc121p call fu) (orc121m call fu)) 121 Go.Proofs.Tryz.f121 (codeOf Go.Proofs.Tryz.f121) call fu args s
  | [], s => by kernel_rfl
  | [t0], s => by kernel_rfl
  | t0 :: t1 :: l, s => by kernel_rfl
end Go.Ev.V
