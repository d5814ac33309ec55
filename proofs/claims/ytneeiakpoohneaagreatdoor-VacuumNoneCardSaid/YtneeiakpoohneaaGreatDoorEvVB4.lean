/- Each piece is what the evaluator comes to on the code (by a program). -/
import Derived.Test.YtneeiakpoohneaaGreatDoorEvVA1
import Derived.KernelRfl
set_option linter.all false
set_option linter.unusedVariables false
set_option maxRecDepth 100000
namespace Go.Ev.V
theorem o165 (call : Call) (fu m : Nat) (ρ : Nat → IH) : (oblF Go.Proofs.Tryz.prog lv165 (Orc.mk (orc165c call fu) (orc165b call fu) (orc165p call fu) (orc165m call fu)) 165 Go.Proofs.Tryz.f165 (codeOf Go.Proofs.Tryz.f165) call fu m ρ).map Prod.fst = (oblF Go.Proofs.Tryz.prog lv165 (Orc.mk (orc165c call fu) (orc165b call fu) (orc165p call fu) (orc165m call fu)) 165 Go.Proofs.Tryz.f165 (codeOf Go.Proofs.Tryz.f165) call fu m ρ).map Prod.snd := by kernel_rfl
theorem x165 (call : Call) (fu : Nat) : ∀ (args : List AV) (s : St), F165 call fu args s = fnH Go.Proofs.Tryz.prog lv165 (Orc.mk (orc165c call fu) (orc165b call fu) (orc165p call fu) (orc165m call fu)) 165 Go.Proofs.Tryz.f165 (codeOf Go.Proofs.Tryz.f165) call fu args s
  | [], s => by kernel_rfl
  | [t0], s => by kernel_rfl
  | t0 :: t1 :: l, s => by kernel_rfl
theorem o168 (call : Call) (fu m : Nat) (ρ : Nat → IH) : (oblF Go.Proofs.Tryz.prog lv168 (Orc.mk (orc168c call fu) (orc168b call fu) (orc168p call fu) (orc168m call fu)) 168 Go.Proofs.Tryz.f168 (codeOf Go.Proofs.Tryz.f168) call fu m ρ).map Prod.fst = (oblF Go.Proofs.Tryz.prog lv168 (Orc.mk (orc168c call fu) (orc168b call fu) (orc168p call fu) (orc168m call fu)) 168 Go.Proofs.Tryz.f168 (codeOf Go.Proofs.Tryz.f168) call fu m ρ).map Prod.snd := by kernel_rfl
theorem x168 (call : Call) (fu : Nat) : ∀ (args : List AV) (s : St), F168 call fu args s = fnH Go.Proofs.Tryz.prog lv168 (Orc.mk (orc168c call fu) (orc168b call fu) (orc168p call fu) (orc168m call fu)) 168 Go.Proofs.Tryz.f168 (codeOf Go.Proofs.Tryz.f168) call fu args s
  | [], s => by kernel_rfl
  | [t0], s => by kernel_rfl
  | [t0, t1], s => by kernel_rfl
  | [t0, t1, t2], s => by kernel_rfl
  | [t0, t1, t2, t3], s => by kernel_rfl
  | t0 :: t1 :: t2 :: t3 :: t4 :: l, s => by kernel_rfl
theorem o169 (call : Call) (fu m : Nat) (ρ : Nat → IH) : (oblF Go.Proofs.Tryz.prog lv169 (Orc.mk (orc169c call fu) (orc169b call fu) (orc169p call fu) (orc169m call fu)) 169 Go.Proofs.Tryz.f169 (codeOf Go.Proofs.Tryz.f169) call fu m ρ).map Prod.fst = (oblF Go.Proofs.Tryz.prog lv169 (Orc.mk (orc169c call fu) (orc169b call fu) (orc169p call fu) (orc169m call fu)) 169 Go.Proofs.Tryz.f169 (codeOf Go.Proofs.Tryz.f169) call fu m ρ).map Prod.snd := by kernel_rfl
theorem x169 (call : Call) (fu : Nat) : ∀ (args : List AV) (s : St), F169 call fu args s = fnH Go.Proofs.Tryz.prog lv169 (Orc.mk (orc169c call fu) (orc169b call fu) (orc169p call fu) (orc169m call fu)) 169 Go.Proofs.Tryz.f169 (codeOf Go.Proofs.Tryz.f169) call fu args s
  | [], s => by kernel_rfl
  | [t0], s => by kernel_rfl
  | [t0, t1], s => by kernel_rfl
  | [t0, t1, t2], s => by kernel_rfl
  | [t0, t1, t2, t3], s => by kernel_rfl
  | t0 :: t1 :: t2 :: t3 :: t4 :: l, s => by kernel_rfl
theorem o177 (call : Call) (fu m : Nat) (ρ : Nat → IH) : (oblF Go.Proofs.Tryz.prog lv177 (Orc.mk (orc177c call fu) (orc177b call fu) (orc177p call fu) (orc177m call fu)) 177 Go.Proofs.Tryz.f177 (codeOf Go.Proofs.Tryz.f177) call fu m ρ).map Prod.fst = (oblF Go.Proofs.Tryz.prog lv177 (Orc.mk (orc177c call fu) (orc177b call fu) (orc177p call fu) (orc177m call fu)) 177 Go.Proofs.Tryz.f177 (codeOf Go.Proofs.Tryz.f177) call fu m ρ).map Prod.snd := by kernel_rfl
theorem x177 (call : Call) (fu : Nat) : ∀ (args : List AV) (s : St), F177 call fu args s = fnH Go.Proofs.Tryz.prog lv177 (Orc.mk (orc177c call fu) (orc177b call fu) (orc177p call fu) (orc177m call fu)) 177 Go.Proofs.Tryz.f177 (codeOf Go.Proofs.Tryz.f177) call fu args s
  | [], s => by kernel_rfl
  | [t0], s => by kernel_rfl
  | t0 :: t1 :: l, s => by kernel_rfl
theorem o178 (call : Call) (fu m : Nat) (ρ : Nat → IH) : (oblF Go.Proofs.Tryz.prog lv178 (Orc.mk (orc178c call fu) (orc178b call fu) (orc178p call fu) (orc178m call fu)) 178 Go.Proofs.Tryz.f178 (codeOf Go.Proofs.Tryz.f178) call fu m ρ).map Prod.fst = (oblF Go.Proofs.Tryz.prog lv178 (Orc.mk (orc178c call fu) (orc178b call fu) (orc178p call fu) (orc178m call fu)) 178 Go.Proofs.Tryz.f178 (codeOf Go.Proofs.Tryz.f178) call fu m ρ).map Prod.snd := by kernel_rfl
theorem x178 (call : Call) (fu : Nat) : ∀ (args : List AV) (s : St), F178 call fu args s = fnH Go.Proofs.Tryz.prog lv178 (Orc.mk (orc178c call fu) (orc178b call fu) (orc178p call fu) (orc178m call fu)) 178 Go.Proofs.Tryz.f178 (codeOf Go.Proofs.Tryz.f178) call fu args s
  | [], s => by kernel_rfl
  | [t0], s => by kernel_rfl
  | t0 :: t1 :: l, s => by kernel_rfl
theorem o179 (call : Call) (fu m : Nat) (ρ : Nat → IH) : (oblF Go.Proofs.Tryz.prog lv179 (Orc.mk (orc179c call fu) (orc179b call fu) (orc179p call fu) (orc179m call fu)) 179 Go.Proofs.Tryz.f179 (codeOf Go.Proofs.Tryz.f179) call fu m ρ).map Prod.fst = (oblF Go.Proofs.Tryz.prog lv179 (Orc.mk (orc179c call fu) (orc179b call fu) (orc179p call fu) (orc179m call fu)) 179 Go.Proofs.Tryz.f179 (codeOf Go.Proofs.Tryz.f179) call fu m ρ).map Prod.snd := by kernel_rfl
theorem x179 (call : Call) (fu : Nat) : ∀ (args : List AV) (s : St), F179 call fu args s = fnH Go.Proofs.Tryz.prog lv179 (Orc.mk (orc179c call fu) (orc179b call fu) (orc179p call fu) (orc179m call fu)) 179 Go.Proofs.Tryz.f179 (codeOf Go.Proofs.Tryz.f179) call fu args s
  | [], s => by kernel_rfl
  | [t0], s => by kernel_rfl
  | t0 :: t1 :: l, s => by kernel_rfl
theorem o180 (call : Call) (fu m : Nat) (ρ : Nat → IH) : (oblF Go.Proofs.Tryz.prog lv180 (Orc.mk (orc180c call fu) (orc180b call fu) (orc180p call fu) (orc180m call fu)) 180 Go.Proofs.Tryz.f180 (codeOf Go.Proofs.Tryz.f180) call fu m ρ).map Prod.fst = (oblF Go.Proofs.Tryz.prog lv180 (Orc.mk (orc180c call fu) (orc180b call fu) (orc180p call fu) (orc180m call fu)) 180 Go.Proofs.Tryz.f180 (codeOf Go.Proofs.Tryz.f180) call fu m ρ).map Prod.snd := by kernel_rfl
theorem x180 (call : Call) (fu : Nat) : ∀ (args : List AV) (s : St), F180 call fu args s = fnH Go.Proofs.Tryz.prog lv180 (Orc.mk (orc180c call fu) (orc180b call fu) (orc180p call fu) (orc180m call fu)) 180 Go.Proofs.Tryz.f180 (codeOf Go.Proofs.Tryz.f180) call fu args s
  | [], s => by kernel_rfl
  | [t0], s => by kernel_rfl
  | t0 :: t1 :: l, s => by kernel_rfl
theorem o181 (call : Call) (fu m : Nat) (ρ : Nat → IH) : (oblF Go.Proofs.Tryz.prog lv181 (Orc.mk (orc181c call fu) (orc181b call fu) (orc181p call fu) (orc181m call fu)) 181 Go.Proofs.Tryz.f181 (codeOf Go.Proofs.Tryz.f181) call fu m ρ).map Prod.fst = (oblF Go.Proofs.Tryz.prog lv181 (Orc.mk (orc181c call fu) (orc181b call fu) (orc181p call fu) (orc181m call fu)) 181 Go.Proofs.Tryz.f181 (codeOf Go.Proofs.Tryz.f181) call fu m ρ).map Prod.snd := by kernel_rfl
theorem x181 (call : Call) (fu : Nat) : ∀ (args : List AV) (s : St), F181 call fu args s = fnH Go.Proofs.Tryz.prog lv181 (Orc.mk (orc181c call fu) (orc181b call fu) (orc181p call fu) (orc181m call fu)) 181 Go.Proofs.Tryz.f181 (codeOf Go.Proofs.Tryz.f181) call fu args s
  | [], s => by kernel_rfl
  | [t0], s => by kernel_rfl
  | t0 :: t1 :: l, s => by kernel_rfl
theorem o182 (call : Call) (fu m : Nat) (ρ : Nat → IH) : (oblF Go.Proofs.Tryz.prog lv182 (Orc.mk (orc182c call fu) (orc182b call fu) (orc182p call fu) (orc182m call fu)) 182 Go.Proofs.Tryz.f182 (codeOf Go.Proofs.Tryz.f182) call fu m ρ).map Prod.fst = (oblF Go.Proofs.Tryz.prog lv182 (Orc.mk (orc182c call fu) (orc182b call fu) (orc182p call fu) (orc182m call fu)) 182 Go.Proofs.Tryz.f182 (codeOf Go.Proofs.Tryz.f182) call fu m ρ).map Prod.snd := by kernel_rfl
theorem x182 (call : Call) (fu : Nat) : ∀ (args : List AV) (s : St), F182 call fu args s = fnH Go.Proofs.Tryz.prog lv182 (Orc.mk (orc182c call fu) (orc182b call fu) (orc182p call fu) (orc182m call fu)) 182 Go.Proofs.Tryz.f182 (codeOf Go.Proofs.Tryz.f182) call fu args s
  | [], s => by kernel_rfl
  | [t0], s => by kernel_rfl
  | t0 :: t1 :: l, s => by kernel_rfl
theorem o183 (call : Call) (fu m : Nat) (ρ : Nat → IH) : (oblF Go.Proofs.Tryz.prog lv183 (Orc.mk (orc183c call fu) (orc183b call fu) (orc183p call fu) (orc183m call fu)) 183 Go.Proofs.Tryz.f183 (codeOf Go.Proofs.Tryz.f183) call fu m ρ).map Prod.fst = (oblF Go.Proofs.Tryz.prog lv183 (Orc.mk (orc183c call fu) (orc183b call fu) (orc183p call fu) (orc183m call fu)) 183 Go.Proofs.Tryz.f183 (codeOf Go.Proofs.Tryz.f183) call fu m ρ).map Prod.snd := by kernel_rfl
theorem x183 (call : Call) (fu : Nat) : ∀ (args : List AV) (s : St), F183 call fu args s = fnH Go.Proofs.Tryz.prog lv183 (Orc.mk (orc183c call fu) (orc183b call fu) (orc183p call fu) (orc183m call fu)) 183 Go.Proofs.Tryz.f183 (codeOf Go.Proofs.Tryz.f183) call fu args s
  | [], s => by kernel_rfl
  | [t0], s => by kernel_rfl
  | t0 :: t1 :: l, s => by kernel_rfl
theorem o184 (call : Call) (fu m : Nat) (ρ : Nat → IH) : (oblF Go.Proofs.Tryz.prog lv184 (Orc.mk (orc184c call fu) (orc184b call fu) (orc184p call fu) (orc184m call fu)) 184 Go.Proofs.Tryz.f184 (codeOf Go.Proofs.Tryz.f184) call fu m ρ).map Prod.fst = (oblF Go.Proofs.Tryz.prog lv184 (Orc.mk (orc184c call fu) (orc184b call fu) (orc184p call fu) (orc184m call fu)) 184 Go.Proofs.Tryz.f184 (codeOf Go.Proofs.Tryz.f184) call fu m ρ).map Prod.snd := by kernel_rfl
theorem x184 (call : Call) (fu : Nat) : ∀ (args : List AV) (s : St), F184 call fu args s = fnH Go.Proofs.Tryz.prog lv184 (Orc.mk (orc184c call fu) (orc184b call fu) (orc184p call fu) (orc184m call fu)) 184 Go.Proofs.Tryz.f184 (codeOf Go.Proofs.Tryz.f184) call fu args s
  | [], s => by kernel_rfl
  | [t0], s => by kernel_rfl
  | t0 :: t1 :: l, s => by kernel_rfl
theorem o185 (call : Call) (fu m : Nat) (ρ : Nat → IH) : (oblF Go.Proofs.Tryz.prog lv185 (Orc.mk (orc185c call fu) (orc185b call fu) (orc185p call fu) (orc185m call fu)) 185 Go.Proofs.Tryz.f185 (codeOf Go.Proofs.Tryz.f185) call fu m ρ).map Prod.fst = (oblF Go.Proofs.Tryz.prog lv185 (Orc.mk (orc185c call fu) (orc185b call fu) (orc185p call fu) (orc185m call fu)) 185 Go.Proofs.Tryz.f185 (codeOf Go.Proofs.Tryz.f185) call fu m ρ).map Prod.snd := by kernel_rfl
theorem x185 (call : Call) (fu : Nat) : ∀ (args : List AV) (s : St), F185 call fu args s = fnH Go.Proofs.Tryz.prog lv185 (Orc.mk (orc185c call fu) (orc185b call fu) (orc185p call fu) (orc185m call fu)) 185 Go.Proofs.Tryz.f185 (codeOf Go.Proofs.Tryz.f185) call fu args s
  | [], s => by kernel_rfl
  | [t0], s => by kernel_rfl
  | t0 :: t1 :: l, s => by kernel_rfl
theorem o186 (call : Call) (fu m : Nat) (ρ : Nat → IH) : (oblF Go.Proofs.Tryz.prog lv186 (Orc.mk (orc186c call fu) (orc186b call fu) (orc186p call fu) (orc186m call fu)) 186 Go.Proofs.Tryz.f186 (codeOf Go.Proofs.Tryz.f186) call fu m ρ).map Prod.fst = (oblF Go.Proofs.Tryz.prog lv186 (Orc.mk (orc186c call fu) (orc186b call fu) (orc186p call fu) (orc186m call fu)) 186 Go.Proofs.Tryz.f186 (codeOf Go.Proofs.Tryz.f186) call fu m ρ).map Prod.snd := by kernel_rfl
theorem x186 (call : Call) (fu : Nat) : ∀ (args : List AV) (s : St), F186 call fu args s = fnH Go.Proofs.Tryz.prog lv186 (Orc.mk (orc186c call fu) (orc186b call fu) (orc186p call fu) (orc186m call fu)) 186 Go.Proofs.Tryz.f186 (codeOf Go.Proofs.Tryz.f186) call fu args s
  | [], s => by kernel_rfl
  | [t0], s => by kernel_rfl
  | [t0, t1], s => by kernel_rfl
  | [t0, t1, t2], s => by kernel_rfl
  | [t0, t1, t2, t3], s => by kernel_rfl
  | [t0, t1, t2, t3, t4], s => by kernel_rfl
  | t0 :: t1 :: t2 :: t3 :: t4 :: t5 :: l, s => by kernel_rfl
theorem o187 (call : Call) (fu m : Nat) (ρ : Nat → IH) : (oblF Go.Proofs.Tryz.prog lv187 (Orc.mk (orc187c call fu) (orc187b call fu) (orc187p call fu) (orc187m call fu)) 187 Go.Proofs.Tryz.f187 (codeOf Go.Proofs.Tryz.f187) call fu m ρ).map Prod.fst = (oblF Go.Proofs.Tryz.prog lv187 (Orc.mk (orc187c call fu) (orc187b call fu) (orc187p call fu) (orc187m call fu)) 187 Go.Proofs.Tryz.f187 (codeOf Go.Proofs.Tryz.f187) call fu m ρ).map Prod.snd := by kernel_rfl
theorem x187 (call : Call) (fu : Nat) : ∀ (args : List AV) (s : St), F187 call fu args s = fnH Go.Proofs.Tryz.prog lv187 (Orc.mk (orc187c call fu) (orc187b call fu) (orc187p call fu) (orc187m call fu)) 187 Go.Proofs.Tryz.f187 (codeOf Go.Proofs.Tryz.f187) call fu args s
  | [], s => by kernel_rfl
  | [t0], s => by kernel_rfl
  | [t0, t1], s => by kernel_rfl
  | t0 :: t1 :: t2 :: l, s => by kernel_rfl
theorem o188 (call : Call) (fu m : Nat) (ρ : Nat → IH) : (oblF Go.Proofs.Tryz.prog lv188 (Orc.mk (orc188c call fu) (orc188b call fu) (orc188p call fu) (orc188m call fu)) 188 Go.Proofs.Tryz.f188 (codeOf Go.Proofs.Tryz.f188) call fu m ρ).map Prod.fst = (oblF Go.Proofs.Tryz.prog lv188 (Orc.mk (orc188c call fu) (orc188b call fu) (orc188p call fu) (orc188m call fu)) 188 Go.Proofs.Tryz.f188 (codeOf Go.Proofs.Tryz.f188) call fu m ρ).map Prod.snd := by kernel_rfl
theorem x188 (call : Call) (fu : Nat) : ∀ (args : List AV) (s : St), F188 call fu args s = fnH Go.Proofs.Tryz.prog lv188 (Orc.mk (orc188c call fu) (orc188b call fu) (orc188p call fu) (orc188m call fu)) 188 Go.Proofs.Tryz.f188 (codeOf Go.Proofs.Tryz.f188) call fu args s
  | [], s => by kernel_rfl
  | [t0], s => by kernel_rfl
  | [t0, t1], s => by kernel_rfl
  | [t0, t1, t2], s => by kernel_rfl
  | t0 :: t1 :: t2 :: t3 :: l, s => by kernel_rfl
theorem o189 (call : Call) (fu m : Nat) (ρ : Nat → IH) : (oblF Go.Proofs.Tryz.prog lv189 (Orc.mk (orc189c call fu) (orc189b call fu) (orc189p call fu) (orc189m call fu)) 189 Go.Proofs.Tryz.f189 (codeOf Go.Proofs.Tryz.f189) call fu m ρ).map Prod.fst = (oblF Go.Proofs.Tryz.prog lv189 (Orc.mk (orc189c call fu) (orc189b call fu) (orc189p call fu) (orc189m call fu)) 189 Go.Proofs.Tryz.f189 (codeOf Go.Proofs.Tryz.f189) call fu m ρ).map Prod.snd := by kernel_rfl
theorem x189 (call : Call) (fu : Nat) : ∀ (args : List AV) (s : St), F189 call fu args s = fnH Go.Proofs.Tryz.prog lv189 (Orc.mk (orc189c call fu) (orc189b call fu) (orc189p call fu) (orc189m call fu)) 189 Go.Proofs.Tryz.f189 (codeOf Go.Proofs.Tryz.f189) call fu args s
  | [], s => by kernel_rfl
  | [t0], s => by kernel_rfl
  | [t0, t1], s => by kernel_rfl
  | t0 :: t1 :: t2 :: l, s => by kernel_rfl
theorem o191 (call : Call) (fu m : Nat) (ρ : Nat → IH) : (oblF Go.Proofs.Tryz.prog lv191 (Orc.mk (orc191c call fu) (orc191b call fu) (orc191p call fu) (orc191m call fu)) 191 Go.Proofs.Tryz.f191 (codeOf Go.Proofs.Tryz.f191) call fu m ρ).map Prod.fst = (oblF Go.Proofs.Tryz.prog lv191 (Orc.mk (orc191c call fu) (orc191b call fu) (orc191p call fu) (orc191m call fu)) 191 Go.Proofs.Tryz.f191 (codeOf Go.Proofs.Tryz.f191) call fu m ρ).map Prod.snd := by kernel_rfl
theorem x191 (call : Call) (fu : Nat) : ∀ (args : List AV) (s : St), F191 call fu args s = fnH Go.Proofs.Tryz.prog lv191 (Orc.mk (orc191c call fu) (orc191b call fu) (orc191p call fu) (orc191m call fu)) 191 Go.Proofs.Tryz.f191 (codeOf Go.Proofs.Tryz.f191) call fu args s
  | [], s => by kernel_rfl
  | [t0], s => by kernel_rfl
  | t0 :: t1 :: l, s => by kernel_rfl
theorem o193 (call : Call) (fu m : Nat) (ρ : Nat → IH) : (oblF Go.Proofs.Tryz.prog lv193 (Orc.mk (orc193c call fu) (orc193b call fu) (orc193p call fu) (orc193m call fu)) 193 Go.Proofs.Tryz.f193 (codeOf Go.Proofs.Tryz.f193) call fu m ρ).map Prod.fst = (oblF Go.Proofs.Tryz.prog lv193 (Orc.mk (orc193c call fu) (orc193b call fu) (orc193p call fu) (orc193m call fu)) 193 Go.Proofs.Tryz.f193 (codeOf Go.Proofs.Tryz.f193) call fu m ρ).map Prod.snd := by kernel_rfl
theorem x193 (call : Call) (fu : Nat) : ∀ (args : List AV) (s : St), F193 call fu args s = fnH Go.Proofs.Tryz.prog lv193 (Orc.mk (orc193c call fu) (orc193b call fu) (orc193p call fu) (orc193m call fu)) 193 Go.Proofs.Tryz.f193 (codeOf Go.Proofs.Tryz.f193) call fu args s
  | [], s => by kernel_rfl
  | [t0], s => by kernel_rfl
  | [t0, t1], s => by kernel_rfl
  | t0 :: t1 :: t2 :: l, s => by kernel_rfl
theorem o196 (call : Call) (fu m : Nat) (ρ : Nat → IH) : (oblF Go.Proofs.Tryz.prog lv196 (Orc.mk (orc196c call fu) (orc196b call fu) (orc196p call fu) (orc196m call fu)) 196 Go.Proofs.Tryz.f196 (codeOf Go.Proofs.Tryz.f196) call fu m ρ).map Prod.fst = (oblF Go.Proofs.Tryz.prog lv196 (Orc.mk (orc196c call fu) (orc196b call fu) (orc196p call fu) (orc196m call fu)) 196 Go.Proofs.Tryz.f196 (codeOf Go.Proofs.Tryz.f196) call fu m ρ).map Prod.snd := by kernel_rfl
theorem x196 (call : Call) (fu : Nat) : ∀ (args : List AV) (s : St), F196 call fu args s = fnH Go.Proofs.Tryz.prog lv196 (Orc.mk (orc196c call fu) (orc196b call fu) (orc196p call fu) (orc196m call fu)) 196 Go.Proofs.Tryz.f196 (codeOf Go.Proofs.Tryz.f196) call fu args s
  | [], s => by kernel_rfl
  | [t0], s => by kernel_rfl
  | [t0, t1], s => by kernel_rfl
  | t0 :: t1 :: t2 :: l, s => by kernel_rfl
theorem o199 (call : Call) (fu m : Nat) (ρ : Nat → IH) : (oblF Go.Proofs.Tryz.prog lv199 (Orc.mk (orc199c call fu) (orc199b call fu) (orc199p call fu) (orc199m call fu)) 199 Go.Proofs.Tryz.f199 (codeOf Go.Proofs.Tryz.f199) call fu m ρ).map Prod.fst = (oblF Go.Proofs.Tryz.prog lv199 (Orc.mk (orc199c call fu) (orc199b call fu) (orc199p call fu) (orc199m call fu)) 199 Go.Proofs.Tryz.f199 (codeOf Go.Proofs.Tryz.f199) call fu m ρ).map Prod.snd := by kernel_rfl
theorem x199 (call : Call) (fu : Nat) : ∀ (args : List AV) (s : St), F199 call fu args s = fnH Go.Proofs.Tryz.prog lv199 (Orc.mk (orc199c call fu) (orc199b call fu) (orc199p call fu) (orc199m call fu)) 199 Go.Proofs.Tryz.f199 (codeOf Go.Proofs.Tryz.f199) call fu args s
  | [], s => by kernel_rfl
  | [t0], s => by kernel_rfl
  | t0 :: t1 :: l, s => by kernel_rfl
end Go.Ev.V
