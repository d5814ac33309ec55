/- Each piece is what the evaluator comes to on the code (by a program). -/
import Derived.Test.YtneeiakpoohneaaGreatDoorEvVA1
import Derived.KernelRfl
set_option linter.all false
set_option linter.unusedVariables false
set_option maxRecDepth 100000
namespace Go.Ev.V
theorem o122 (call : Call) (fu m : Nat) (ρ : Nat → IH) : (oblF Go.Proofs.Tryz.prog lv122 (Orc.mk (orc122c call fu) (orc122b call fu) (orc122p call fu) (orc122m call fu)) 122 Go.Proofs.Tryz.f122 (codeOf Go.Proofs.Tryz.f122) call fu m ρ).map Prod.fst = (oblF Go.Proofs.Tryz.prog lv122 (Orc.mk (orc122c call fu) (orc122b call fu) (orc122p call fu) (orc122m call fu)) 122 Go.Proofs.Tryz.f122 (codeOf Go.Proofs.Tryz.f122) call fu m ρ).map Prod.snd := by kernel_rfl
theorem x122 (call : Call) (fu : Nat) : ∀ (args : List AV) (s : St), F122 call fu args s = fnH Go.Proofs.Tryz.prog lv122 (Orc.mk (orc122c call fu) (orc122b call fu) (orc122p call fu) (orc122m call fu)) 122 Go.Proofs.Tryz.f122 (codeOf Go.Proofs.Tryz.f122) call fu args s
  | [], s => by kernel_rfl
  | [t0], s => by kernel_rfl
  | [t0, t1], s => by kernel_rfl
  | [t0, t1, t2], s => by kernel_rfl
  | t0 :: t1 :: t2 :: t3 :: l, s => by kernel_rfl
theorem o123 (call : Call) (fu m : Nat) (ρ : Nat → IH) : (oblF Go.Proofs.Tryz.prog lv123 (Orc.mk (orc123c call fu) (orc123b call fu) (orc123p call fu) (orc123m call fu)) 123 Go.Proofs.Tryz.f123 (codeOf Go.Proofs.Tryz.f123) call fu m ρ).map Prod.fst = (oblF Go.Proofs.Tryz.prog lv123 (Orc.mk (orc123c call fu) (orc123b call fu) (orc123p call fu) (orc123m call fu)) 123 Go.Proofs.Tryz.f123 (codeOf Go.Proofs.Tryz.f123) call fu m ρ).map Prod.snd := by kernel_rfl
theorem x123 (call : Call) (fu : Nat) : ∀ (args : List AV) (s : St), F123 call fu args s = fnH Go.Proofs.Tryz.prog lv123 (Orc.mk (orc123c call fu) (orc123b call fu) (orc123p call fu) (orc123m call fu)) 123 Go.Proofs.Tryz.f123 (codeOf Go.Proofs.Tryz.f123) call fu args s
  | [], s => by kernel_rfl
  | [t0], s => by kernel_rfl
  | t0 :: t1 :: l, s => by kernel_rfl
theorem o124 (call : Call) (fu m : Nat) (ρ : Nat → IH) : (oblF Go.Proofs.Tryz.prog lv124 (Orc.mk (orc124c call fu) (orc124b call fu) (orc124p call fu) (orc124m call fu)) 124 Go.Proofs.Tryz.f124 (codeOf Go.Proofs.Tryz.f124) call fu m ρ).map Prod.fst = (oblF Go.Proofs.Tryz.prog lv124 (Orc.mk (orc124c call fu) (orc124b call fu) (orc124p call fu) (orc124m call fu)) 124 Go.Proofs.Tryz.f124 (codeOf Go.Proofs.Tryz.f124) call fu m ρ).map Prod.snd := by kernel_rfl
theorem x124 (call : Call) (fu : Nat) : ∀ (args : List AV) (s : St), F124 call fu args s = fnH Go.Proofs.Tryz.prog lv124 (Orc.mk (orc124c call fu) (orc124b call fu) (orc124p call fu) (orc124m call fu)) 124 Go.Proofs.Tryz.f124 (codeOf Go.Proofs.Tryz.f124) call fu args s
  | [], s => by kernel_rfl
  | [t0], s => by kernel_rfl
  | [t0, t1], s => by kernel_rfl
  | [t0, t1, t2], s => by kernel_rfl
  | t0 :: t1 :: t2 :: t3 :: l, s => by kernel_rfl
theorem o130 (call : Call) (fu m : Nat) (ρ : Nat → IH) : (oblF Go.Proofs.Tryz.prog lv130 (Orc.mk (orc130c call fu) (orc130b call fu) (orc130p call fu) (orc130m call fu)) 130 Go.Proofs.Tryz.f130 (codeOf Go.Proofs.Tryz.f130) call fu m ρ).map Prod.fst = (oblF Go.Proofs.Tryz.prog lv130 (Orc.mk (orc130c call fu) (orc130b call fu) (orc130p call fu) (orc130m call fu)) 130 Go.Proofs.Tryz.f130 (codeOf Go.Proofs.Tryz.f130) call fu m ρ).map Prod.snd := by kernel_rfl
theorem x130 (call : Call) (fu : Nat) : ∀ (args : List AV) (s : St), F130 call fu args s = fnH Go.Proofs.Tryz.prog lv130 (Orc.mk (orc130c call fu) (orc130b call fu) (orc130p call fu) (orc130m call fu)) 130 Go.Proofs.Tryz.f130 (codeOf Go.Proofs.Tryz.f130) call fu args s
  | [], s => by kernel_rfl
  | [t0], s => by kernel_rfl
  | [t0, t1], s => by kernel_rfl
  | [t0, t1, t2], s => by kernel_rfl
  | [t0, t1, t2, t3], s => by kernel_rfl
  | t0 :: t1 :: t2 :: t3 :: t4 :: l, s => by kernel_rfl
theorem o131 (call : Call) (fu m : Nat) (ρ : Nat → IH) : (oblF Go.Proofs.Tryz.prog lv131 (Orc.mk (orc131c call fu) (orc131b call fu) (orc131p call fu) (orc131m call fu)) 131 Go.Proofs.Tryz.f131 (codeOf Go.Proofs.Tryz.f131) call fu m ρ).map Prod.fst = (oblF Go.Proofs.Tryz.prog lv131 (Orc.mk (orc131c call fu) (orc131b call fu) (orc131p call fu) (orc131m call fu)) 131 Go.Proofs.Tryz.f131 (codeOf Go.Proofs.Tryz.f131) call fu m ρ).map Prod.snd := by kernel_rfl
theorem x131 (call : Call) (fu : Nat) : ∀ (args : List AV) (s : St), F131 call fu args s = fnH Go.Proofs.Tryz.prog lv131 (Orc.mk (orc131c call fu) (orc131b call fu) (orc131p call fu) (orc131m call fu)) 131 Go.Proofs.Tryz.f131 (codeOf Go.Proofs.Tryz.f131) call fu args s
  | [], s => by kernel_rfl
  | [t0], s => by kernel_rfl
  | [t0, t1], s => by kernel_rfl
  | t0 :: t1 :: t2 :: l, s => by kernel_rfl
theorem o133 (call : Call) (fu m : Nat) (ρ : Nat → IH) : (oblF Go.Proofs.Tryz.prog lv133 (Orc.mk (orc133c call fu) (orc133b call fu) (orc133p call fu) (orc133m call fu)) 133 Go.Proofs.Tryz.f133 (codeOf Go.Proofs.Tryz.f133) call fu m ρ).map Prod.fst = (oblF Go.Proofs.Tryz.prog lv133 (Orc.mk (orc133c call fu) (orc133b call fu) (orc133p call fu) (orc133m call fu)) 133 Go.Proofs.Tryz.f133 (codeOf Go.Proofs.Tryz.f133) call fu m ρ).map Prod.snd := by kernel_rfl
theorem x133 (call : Call) (fu : Nat) : ∀ (args : List AV) (s : St), F133 call fu args s = fnH Go.Proofs.Tryz.prog lv133 (Orc.mk (orc133c call fu) (orc133b call fu) (orc133p call fu) (orc133m call fu)) 133 Go.Proofs.Tryz.f133 (codeOf Go.Proofs.Tryz.f133) call fu args s
  | [], s => by kernel_rfl
  | [t0], s => by kernel_rfl
  | t0 :: t1 :: l, s => by kernel_rfl
theorem o135 (call : Call) (fu m : Nat) (ρ : Nat → IH) : (oblF Go.Proofs.Tryz.prog lv135 (Orc.mk (orc135c call fu) (orc135b call fu) (orc135p call fu) (orc135m call fu)) 135 Go.Proofs.Tryz.f135 (codeOf Go.Proofs.Tryz.f135) call fu m ρ).map Prod.fst = (oblF Go.Proofs.Tryz.prog lv135 (Orc.mk (orc135c call fu) (orc135b call fu) (orc135p call fu) (orc135m call fu)) 135 Go.Proofs.Tryz.f135 (codeOf Go.Proofs.Tryz.f135) call fu m ρ).map Prod.snd := by kernel_rfl
theorem x135 (call : Call) (fu : Nat) : ∀ (args : List AV) (s : St), F135 call fu args s = fnH Go.Proofs.Tryz.prog lv135 (Orc.mk (orc135c call fu) (orc135b call fu) (orc135p call fu) (orc135m call fu)) 135 Go.Proofs.Tryz.f135 (codeOf Go.Proofs.Tryz.f135) call fu args s
  | [], s => by kernel_rfl
  | [t0], s => by kernel_rfl
  | [t0, t1], s => by kernel_rfl
  | t0 :: t1 :: t2 :: l, s => by kernel_rfl
theorem o138 (call : Call) (fu m : Nat) (ρ : Nat → IH) : (oblF Go.Proofs.Tryz.prog lv138 (Orc.mk (orc138c call fu) (orc138b call fu) (orc138p call fu) (orc138m call fu)) 138 Go.Proofs.Tryz.f138 (codeOf Go.Proofs.Tryz.f138) call fu m ρ).map Prod.fst = (oblF Go.Proofs.Tryz.prog lv138 (Orc.mk (orc138c call fu) (orc138b call fu) (orc138p call fu) (orc138m call fu)) 138 Go.Proofs.Tryz.f138 (codeOf Go.Proofs.Tryz.f138) call fu m ρ).map Prod.snd := by kernel_rfl
theorem x138 (call : Call) (fu : Nat) : ∀ (args : List AV) (s : St), F138 call fu args s = fnH Go.Proofs.Tryz.prog lv138 (Orc.mk (orc138c call fu) (orc138b call fu) (orc138p call fu) (orc138m call fu)) 138 Go.Proofs.Tryz.f138 (codeOf Go.Proofs.Tryz.f138) call fu args s
  | [], s => by kernel_rfl
  | [t0], s => by kernel_rfl
  | t0 :: t1 :: l, s => by kernel_rfl
theorem o139 (call : Call) (fu m : Nat) (ρ : Nat → IH) : (oblF Go.Proofs.Tryz.prog lv139 (Orc.mk (orc139c call fu) (orc139b call fu) (orc139p call fu) (orc139m call fu)) 139 Go.Proofs.Tryz.f139 (codeOf Go.Proofs.Tryz.f139) call fu m ρ).map Prod.fst = (oblF Go.Proofs.Tryz.prog lv139 (Orc.mk (orc139c call fu) (orc139b call fu) (orc139p call fu) (orc139m call fu)) 139 Go.Proofs.Tryz.f139 (codeOf Go.Proofs.Tryz.f139) call fu m ρ).map Prod.snd := by kernel_rfl
theorem x139 (call : Call) (fu : Nat) : ∀ (args : List AV) (s : St), F139 call fu args s = fnH Go.Proofs.Tryz.prog lv139 (Orc.mk (orc139c call fu) (orc139b call fu) (orc139p call fu) (orc139m call fu)) 139 Go.Proofs.Tryz.f139 (codeOf Go.Proofs.Tryz.f139) call fu args s
  | [], s => by kernel_rfl
  | [t0], s => by kernel_rfl
  | t0 :: t1 :: l, s => by kernel_rfl
theorem o140 (call : Call) (fu m : Nat) (ρ : Nat → IH) : (oblF Go.Proofs.Tryz.prog lv140 (Orc.mk (orc140c call fu) (orc140b call fu) (orc140p call fu) (orc140m call fu)) 140 Go.Proofs.Tryz.f140 (codeOf Go.Proofs.Tryz.f140) call fu m ρ).map Prod.fst = (oblF Go.Proofs.Tryz.prog lv140 (Orc.mk (orc140c call fu) (orc140b call fu) (orc140p call fu) (orc140m call fu)) 140 Go.Proofs.Tryz.f140 (codeOf Go.Proofs.Tryz.f140) call fu m ρ).map Prod.snd := by kernel_rfl
theorem x140 (call : Call) (fu : Nat) : ∀ (args : List AV) (s : St), F140 call fu args s = fnH Go.Proofs.Tryz.prog lv140 (Orc.mk (orc140c call fu) (orc140b call fu) (orc140p call fu) (orc140m call fu)) 140 Go.Proofs.Tryz.f140 (codeOf Go.Proofs.Tryz.f140) call fu args s
  | [], s => by kernel_rfl
  | [t0], s => by kernel_rfl
  | [t0, t1], s => by kernel_rfl
  | [t0, t1, t2], s => by kernel_rfl
  | [t0, t1, t2, t3], s => by kernel_rfl
  | t0 :: t1 :: t2 :: t3 :: t4 :: l, s => by kernel_rfl
theorem o141 (call : Call) (fu m : Nat) (ρ : Nat → IH) : (oblF Go.Proofs.Tryz.prog lv141 (Orc.mk (orc141c call fu) (orc141b call fu) (orc141p call fu) (orc141m call fu)) 141 Go.Proofs.Tryz.f141 (codeOf Go.Proofs.Tryz.f141) call fu m ρ).map Prod.fst = (oblF Go.Proofs.Tryz.prog lv141 (Orc.mk (orc141c call fu) (orc141b call fu) (orc141p call fu) (orc141m call fu)) 141 Go.Proofs.Tryz.f141 (codeOf Go.Proofs.Tryz.f141) call fu m ρ).map Prod.snd := by kernel_rfl
theorem x141 (call : Call) (fu : Nat) : ∀ (args : List AV) (s : St), F141 call fu args s = fnH Go.Proofs.Tryz.prog lv141 (Orc.mk (orc141c call fu) (orc141b call fu) (orc141p call fu) (orc141m call fu)) 141 Go.Proofs.Tryz.f141 (codeOf Go.Proofs.Tryz.f141) call fu args s
  | [], s => by kernel_rfl
  | [t0], s => by kernel_rfl
  | [t0, t1], s => by kernel_rfl
  | t0 :: t1 :: t2 :: l, s => by kernel_rfl
theorem o142 (call : Call) (fu m : Nat) (ρ : Nat → IH) : (oblF Go.Proofs.Tryz.prog lv142 (Orc.mk (orc142c call fu) (orc142b call fu) (orc142p call fu) (orc142m call fu)) 142 Go.Proofs.Tryz.f142 (codeOf Go.Proofs.Tryz.f142) call fu m ρ).map Prod.fst = (oblF Go.Proofs.Tryz.prog lv142 (Orc.mk (orc142c call fu) (orc142b call fu) (orc142p call fu) (orc142m call fu)) 142 Go.Proofs.Tryz.f142 (codeOf Go.Proofs.Tryz.f142) call fu m ρ).map Prod.snd := by kernel_rfl
theorem x142 (call : Call) (fu : Nat) : ∀ (args : List AV) (s : St), F142 call fu args s = fnH Go.Proofs.Tryz.prog lv142 (Orc.mk (orc142c call fu) (orc142b call fu) (orc142p call fu) (orc142m call fu)) 142 Go.Proofs.Tryz.f142 (codeOf Go.Proofs.Tryz.f142) call fu args s
  | [], s => by kernel_rfl
  | [t0], s => by kernel_rfl
  | t0 :: t1 :: l, s => by kernel_rfl
theorem o146 (call : Call) (fu m : Nat) (ρ : Nat → IH) : (oblF Go.Proofs.Tryz.prog lv146 (Orc.mk (orc146c call fu) (orc146b call fu) (orc146p call fu) (orc146m call fu)) 146 Go.Proofs.Tryz.f146 (codeOf Go.Proofs.Tryz.f146) call fu m ρ).map Prod.fst = (oblF Go.Proofs.Tryz.prog lv146 (Orc.mk (orc146c call fu) (orc146b call fu) (orc146p call fu) (orc146m call fu)) 146 Go.Proofs.Tryz.f146 (codeOf Go.Proofs.Tryz.f146) call fu m ρ).map Prod.snd := by kernel_rfl
theorem x146 (call : Call) (fu : Nat) : ∀ (args : List AV) (s : St), F146 call fu args s = fnH Go.Proofs.Tryz.prog lv146 (Orc.mk (orc146c call fu) (orc146b call fu) (orc146p call fu) (orc146m call fu)) 146 Go.Proofs.Tryz.f146 (codeOf Go.Proofs.Tryz.f146) call fu args s
  | [], s => by kernel_rfl
  | [t0], s => by kernel_rfl
  | [t0, t1], s => by kernel_rfl
  | t0 :: t1 :: t2 :: l, s => by kernel_rfl
theorem o147 (call : Call) (fu m : Nat) (ρ : Nat → IH) : (oblF Go.Proofs.Tryz.prog lv147 (Orc.mk (orc147c call fu) (orc147b call fu) (orc147p call fu) (orc147m call fu)) 147 Go.Proofs.Tryz.f147 (codeOf Go.Proofs.Tryz.f147) call fu m ρ).map Prod.fst = (oblF Go.Proofs.Tryz.prog lv147 (Orc.mk (orc147c call fu) (orc147b call fu) (orc147p call fu) (orc147m call fu)) 147 Go.Proofs.Tryz.f147 (codeOf Go.Proofs.Tryz.f147) call fu m ρ).map Prod.snd := by kernel_rfl
theorem x147 (call : Call) (fu : Nat) : ∀ (args : List AV) (s : St), F147 call fu args s = fnH Go.Proofs.Tryz.prog lv147 (Orc.mk (orc147c call fu) (orc147b call fu) (orc147p call fu) (orc147m call fu)) 147 Go.Proofs.Tryz.f147 (codeOf Go.Proofs.Tryz.f147) call fu args s
  | [], s => by kernel_rfl
  | [t0], s => by kernel_rfl
  | [t0, t1], s => by kernel_rfl
  | t0 :: t1 :: t2 :: l, s => by kernel_rfl
theorem o148 (call : Call) (fu m : Nat) (ρ : Nat → IH) : (oblF Go.Proofs.Tryz.prog lv148 (Orc.mk (orc148c call fu) (orc148b call fu) (orc148p call fu) (orc148m call fu)) 148 Go.Proofs.Tryz.f148 (codeOf Go.Proofs.Tryz.f148) call fu m ρ).map Prod.fst = (oblF Go.Proofs.Tryz.prog lv148 (Orc.mk (orc148c call fu) (orc148b call fu) (orc148p call fu) (orc148m call fu)) 148 Go.Proofs.Tryz.f148 (codeOf Go.Proofs.Tryz.f148) call fu m ρ).map Prod.snd := by kernel_rfl
theorem x148 (call : Call) (fu : Nat) : ∀ (args : List AV) (s : St), F148 call fu args s = fnH Go.Proofs.Tryz.prog lv148 (Orc.mk (orc148c call fu) (orc148b call fu) (orc148p call fu) (orc148m call fu)) 148 Go.Proofs.Tryz.f148 (codeOf Go.Proofs.Tryz.f148) call fu args s
  | [], s => by kernel_rfl
  | [t0], s => by kernel_rfl
  | [t0, t1], s => by kernel_rfl
  | [t0, t1, t2], s => by kernel_rfl
  | t0 :: t1 :: t2 :: t3 :: l, s => by kernel_rfl
theorem o152 (call : Call) (fu m : Nat) (ρ : Nat → IH) : (oblF Go.Proofs.Tryz.prog lv152 (Orc.mk (orc152c call fu) (orc152b call fu) (orc152p call fu) (orc152m call fu)) 152 Go.Proofs.Tryz.f152 (codeOf Go.Proofs.Tryz.f152) call fu m ρ).map Prod.fst = (oblF Go.Proofs.Tryz.prog lv152 (Orc.mk (orc152c call fu) (orc152b call fu) (orc152p call fu) (orc152m call fu)) 152 Go.Proofs.Tryz.f152 (codeOf Go.Proofs.Tryz.f152) call fu m ρ).map Prod.snd := by kernel_rfl
theorem x152 (call : Call) (fu : Nat) : ∀ (args : List AV) (s : St), F152 call fu args s = fnH Go.Proofs.Tryz.prog lv152 (Orc.mk (orc152c call fu) (orc152b call fu) (orc152p call fu) (orc152m call fu)) 152 Go.Proofs.Tryz.f152 (codeOf Go.Proofs.Tryz.f152) call fu args s
  | [], s => by kernel_rfl
  | [t0], s => by kernel_rfl
  | t0 :: t1 :: l, s => by kernel_rfl
theorem o155 (call : Call) (fu m : Nat) (ρ : Nat → IH) : (oblF Go.Proofs.Tryz.prog lv155 (Orc.mk (orc155c call fu) (orc155b call fu) (orc155p call fu) (orc155m call fu)) 155 Go.Proofs.Tryz.f155 (codeOf Go.Proofs.Tryz.f155) call fu m ρ).map Prod.fst = (oblF Go.Proofs.Tryz.prog lv155 (Orc.mk (orc155c call fu) (orc155b call fu) (orc155p call fu) (orc155m call fu)) 155 Go.Proofs.Tryz.f155 (codeOf Go.Proofs.Tryz.f155) call fu m ρ).map Prod.snd := by kernel_rfl
theorem x155 (call : Call) (fu : Nat) : ∀ (args : List AV) (s : St), F155 call fu args s = fnH Go.Proofs.Tryz.prog lv155 (Orc.mk (orc155c call fu) (orc155b call fu) (orc155p call fu) (orc155m call fu)) 155 Go.Proofs.Tryz.f155 (codeOf Go.Proofs.Tryz.f155) call fu args s
  | [], s => by kernel_rfl
  | [t0], s => by kernel_rfl
  | [t0, t1], s => by kernel_rfl
  | [t0, t1, t2], s => by kernel_rfl
  | t0 :: t1 :: t2 :: t3 :: l, s => by kernel_rfl
theorem o164 (call : Call) (fu m : Nat) (ρ : Nat → IH) : (oblF Go.Proofs.Tryz.prog lv164 (Orc.mk (orc164c call fu) (orc164b call fu) (orc164p call fu) (orc164m call fu)) 164 Go.Proofs.Tryz.f164 (codeOf Go.Proofs.Tryz.f164) call fu m ρ).map Prod.fst = (oblF Go.Proofs.Tryz.prog lv164 (Orc.mk (orc164c call fu) (orc164b call fu) (orc164p call fu) (orc164m call fu)) 164 Go.Proofs.Tryz.f164 (codeOf Go.Proofs.Tryz.f164) call fu m ρ).map Prod.snd := by kernel_rfl
theorem x164 (call : Call) (fu : Nat) : ∀ (args : List AV) (s : St), F164 call fu args s = fnH Go.Proofs.Tryz.prog lv164 (Orc.mk (orc164c call fu) (orc164b call fu) (orc164p call fu) (orc164m call fu)) 164 Go.Proofs.Tryz.f164 (codeOf Go.Proofs.Tryz.f164) call fu args s
  | [], s => by kernel_rfl
  | [t0], s => by kernel_rfl
  | [t0, t1], s => by kernel_rfl
  | [t0, t1, t2], s => by kernel_rfl
  | [t0, t1, t2, t3], s => by kernel_rfl
  | t0 :: t1 :: t2 :: t3 :: t4 :: l, s => by kernel_rfl
end Go.Ev.V
