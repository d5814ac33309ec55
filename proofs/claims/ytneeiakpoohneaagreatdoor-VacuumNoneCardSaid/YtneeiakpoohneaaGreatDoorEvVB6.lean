/- Each piece is what the evaluator comes to on the code (by a program). -/
import Derived.Test.YtneeiakpoohneaaGreatDoorEvVA1
import Derived.KernelRfl
set_option linter.all false
set_option linter.unusedVariables false
set_option maxRecDepth 100000
namespace Go.Ev.V
theorem o241 (call : Call) (fu m : Nat) (ρ : Nat → IH) : (oblF Go.Proofs.Tryz.prog lv241 (Orc.mk (orc241c call fu) (orc241b call fu) (orc241p call fu) (orc241m call fu)) 241 Go.Proofs.Tryz.f241 (codeOf Go.Proofs.Tryz.f241) call fu m ρ).map Prod.fst = (oblF Go.Proofs.Tryz.prog lv241 (Orc.mk (orc241c call fu) (orc241b call fu) (orc241p call fu) (orc241m call fu)) 241 Go.Proofs.Tryz.f241 (codeOf Go.Proofs.Tryz.f241) call fu m ρ).map Prod.snd := by kernel_rfl
theorem x241 (call : Call) (fu : Nat) : ∀ (args : List AV) (s : St), F241 call fu args s = fnH Go.Proofs.Tryz.prog lv241 (Orc.mk (orc241c call fu) (orc241b call fu) (orc241p call fu) (orc241m call fu)) 241 Go.Proofs.Tryz.f241 (codeOf Go.Proofs.Tryz.f241) call fu args s
  | [], s => by kernel_rfl
  | [t0], s => by kernel_rfl
  | [t0, t1], s => by kernel_rfl
  | [t0, t1, t2], s => by kernel_rfl
  | t0 :: t1 :: t2 :: t3 :: l, s => by kernel_rfl
theorem o247 (call : Call) (fu m : Nat) (ρ : Nat → IH) : (oblF Go.Proofs.Tryz.prog lv247 (Orc.mk (orc247c call fu) (orc247b call fu) (orc247p call fu) (orc247m call fu)) 247 Go.Proofs.Tryz.f247 (codeOf Go.Proofs.Tryz.f247) call fu m ρ).map Prod.fst = (oblF Go.Proofs.Tryz.prog lv247 (Orc.mk (orc247c call fu) (orc247b call fu) (orc247p call fu) (orc247m call fu)) 247 Go.Proofs.Tryz.f247 (codeOf Go.Proofs.Tryz.f247) call fu m ρ).map Prod.snd := by kernel_rfl
theorem x247 (call : Call) (fu : Nat) : ∀ (args : List AV) (s : St), F247 call fu args s = fnH Go.Proofs.Tryz.prog lv247 (Orc.mk (orc247c call fu) (orc247b call fu) (orc247p call fu) (orc247m call fu)) 247 Go.Proofs.Tryz.f247 (codeOf Go.Proofs.Tryz.f247) call fu args s
  | [], s => by kernel_rfl
  | [t0], s => by kernel_rfl
  | [t0, t1], s => by kernel_rfl
  | t0 :: t1 :: t2 :: l, s => by kernel_rfl
theorem o251 (call : Call) (fu m : Nat) (ρ : Nat → IH) : (oblF Go.Proofs.Tryz.prog lv251 (Orc.mk (orc251c call fu) (orc251b call fu) (orc251p call fu) (orc251m call fu)) 251 Go.Proofs.Tryz.f251 (codeOf Go.Proofs.Tryz.f251) call fu m ρ).map Prod.fst = (oblF Go.Proofs.Tryz.prog lv251 (Orc.mk (orc251c call fu) (orc251b call fu) (orc251p call fu) (orc251m call fu)) 251 Go.Proofs.Tryz.f251 (codeOf Go.Proofs.Tryz.f251) call fu m ρ).map Prod.snd := by kernel_rfl
theorem x251 (call : Call) (fu : Nat) : ∀ (args : List AV) (s : St), F251 call fu args s = fnH Go.Proofs.Tryz.prog lv251 (Orc.mk (orc251c call fu) (orc251b call fu) (orc251p call fu) (orc251m call fu)) 251 Go.Proofs.Tryz.f251 (codeOf Go.Proofs.Tryz.f251) call fu args s
  | [], s => by kernel_rfl
  | [t0], s => by kernel_rfl
  | t0 :: t1 :: l, s => by kernel_rfl
theorem o259 (call : Call) (fu m : Nat) (ρ : Nat → IH) : (oblF Go.Proofs.Tryz.prog lv259 (Orc.mk (orc259c call fu) (orc259b call fu) (orc259p call fu) (orc259m call fu)) 259 Go.Proofs.Tryz.f259 (codeOf Go.Proofs.Tryz.f259) call fu m ρ).map Prod.fst = (oblF Go.Proofs.Tryz.prog lv259 (Orc.mk (orc259c call fu) (orc259b call fu) (orc259p call fu) (orc259m call fu)) 259 Go.Proofs.Tryz.f259 (codeOf Go.Proofs.Tryz.f259) call fu m ρ).map Prod.snd := by kernel_rfl
theorem x259 (call : Call) (fu : Nat) : ∀ (args : List AV) (s : St), F259 call fu args s = fnH Go.Proofs.Tryz.prog lv259 (Orc.mk (orc259c call fu) (orc259b call fu) (orc259p call fu) (orc259m call fu)) 259 Go.Proofs.Tryz.f259 (codeOf Go.Proofs.Tryz.f259) call fu args s
  | [], s => by kernel_rfl
  | [t0], s => by kernel_rfl
  | [t0, t1], s => by kernel_rfl
  | [t0, t1, t2], s => by kernel_rfl
  | t0 :: t1 :: t2 :: t3 :: l, s => by kernel_rfl
theorem o260 (call : Call) (fu m : Nat) (ρ : Nat → IH) : (oblF Go.Proofs.Tryz.prog lv260 (Orc.mk (orc260c call fu) (orc260b call fu) (orc260p call fu) (orc260m call fu)) 260 Go.Proofs.Tryz.f260 (codeOf Go.Proofs.Tryz.f260) call fu m ρ).map Prod.fst = (oblF Go.Proofs.Tryz.prog lv260 (Orc.mk (orc260c call fu) (orc260b call fu) (orc260p call fu) (orc260m call fu)) 260 Go.Proofs.Tryz.f260 (codeOf Go.Proofs.Tryz.f260) call fu m ρ).map Prod.snd := by kernel_rfl
theorem x260 (call : Call) (fu : Nat) : ∀ (args : List AV) (s : St), F260 call fu args s = fnH Go.Proofs.Tryz.prog lv260 (Orc.mk (orc260c call fu) (orc260b call fu) (orc260p call fu) (orc260m call fu)) 260 Go.Proofs.Tryz.f260 (codeOf Go.Proofs.Tryz.f260) call fu args s
  | [], s => by kernel_rfl
  | [t0], s => by kernel_rfl
  | [t0, t1], s => by kernel_rfl
  | t0 :: t1 :: t2 :: l, s => by kernel_rfl
theorem o261 (call : Call) (fu m : Nat) (ρ : Nat → IH) : (oblF Go.Proofs.Tryz.prog lv261 (Orc.mk (orc261c call fu) (orc261b call fu) (orc261p call fu) (orc261m call fu)) 261 Go.Proofs.Tryz.f261 (codeOf Go.Proofs.Tryz.f261) call fu m ρ).map Prod.fst = (oblF Go.Proofs.Tryz.prog lv261 (Orc.mk (orc261c call fu) (orc261b call fu) (orc261p call fu) (orc261m call fu)) 261 Go.Proofs.Tryz.f261 (codeOf Go.Proofs.Tryz.f261) call fu m ρ).map Prod.snd := by kernel_rfl
theorem x261 (call : Call) (fu : Nat) : ∀ (args : List AV) (s : St), F261 call fu args s = fnH Go.Proofs.Tryz.prog lv261 (Orc.mk (orc261c call fu) (orc261b call fu) (orc261p call fu) (orc261m call fu)) 261 Go.Proofs.Tryz.f261 (codeOf Go.Proofs.Tryz.f261) call fu args s
  | [], s => by kernel_rfl
  | [t0], s => by kernel_rfl
  | [t0, t1], s => by kernel_rfl
  | t0 :: t1 :: t2 :: l, s => by kernel_rfl
theorem o262 (call : Call) (fu m : Nat) (ρ : Nat → IH) : (oblF Go.Proofs.Tryz.prog lv262 (Orc.mk (orc262c call fu) (orc262b call fu) (orc262p call fu) (orc262m call fu)) 262 Go.Proofs.Tryz.f262 (codeOf Go.Proofs.Tryz.f262) call fu m ρ).map Prod.fst = (oblF Go.Proofs.Tryz.prog lv262 (Orc.mk (orc262c call fu) (orc262b call fu) (orc262p call fu) (orc262m call fu)) 262 Go.Proofs.Tryz.f262 (codeOf Go.Proofs.Tryz.f262) call fu m ρ).map Prod.snd := by kernel_rfl
theorem x262 (call : Call) (fu : Nat) : ∀ (args : List AV) (s : St), F262 call fu args s = fnH Go.Proofs.Tryz.prog lv262 (Orc.mk (orc262c call fu) (orc262b call fu) (orc262p call fu) (orc262m call fu)) 262 Go.Proofs.Tryz.f262 (codeOf Go.Proofs.Tryz.f262) call fu args s
  | [], s => by kernel_rfl
  | [t0], s => by kernel_rfl
  | t0 :: t1 :: l, s => by kernel_rfl
theorem o263 (call : Call) (fu m : Nat) (ρ : Nat → IH) : (oblF Go.Proofs.Tryz.prog lv263 (Orc.mk (orc263c call fu) (orc263b call fu) (orc263p call fu) (orc263m call fu)) 263 Go.Proofs.Tryz.f263 (codeOf Go.Proofs.Tryz.f263) call fu m ρ).map Prod.fst = (oblF Go.Proofs.Tryz.prog lv263 (Orc.mk (orc263c call fu) (orc263b call fu) (orc263p call fu) (orc263m call fu)) 263 Go.Proofs.Tryz.f263 (codeOf Go.Proofs.Tryz.f263) call fu m ρ).map Prod.snd := by kernel_rfl
theorem x263 (call : Call) (fu : Nat) : ∀ (args : List AV) (s : St), F263 call fu args s = fnH Go.Proofs.Tryz.prog lv263 (Orc.mk (orc263c call fu) (orc263b call fu) (orc263p call fu) (orc263m call fu)) 263 Go.Proofs.Tryz.f263 (codeOf Go.Proofs.Tryz.f263) call fu args s
  | [], s => by kernel_rfl
  | [t0], s => by kernel_rfl
  | t0 :: t1 :: l, s => by kernel_rfl
theorem o264 (call : Call) (fu m : Nat) (ρ : Nat → IH) : (oblF Go.Proofs.Tryz.prog lv264 (Orc.mk (orc264c call fu) (orc264b call fu) (orc264p call fu) (orc264m call fu)) 264 Go.Proofs.Tryz.f264 (codeOf Go.Proofs.Tryz.f264) call fu m ρ).map Prod.fst = (oblF Go.Proofs.Tryz.prog lv264 (Orc.mk (orc264c call fu) (orc264b call fu) (orc264p call fu) (orc264m call fu)) 264 Go.Proofs.Tryz.f264 (codeOf Go.Proofs.Tryz.f264) call fu m ρ).map Prod.snd := by kernel_rfl
theorem x264 (call : Call) (fu : Nat) : ∀ (args : List AV) (s : St), F264 call fu args s = fnH Go.Proofs.Tryz.prog lv264 (Orc.mk (orc264c call fu) (orc264b call fu) (orc264p call fu) (orc264m call fu)) 264 Go.Proofs.Tryz.f264 (codeOf Go.Proofs.Tryz.f264) call fu args s
  | [], s => by kernel_rfl
  | [t0], s => by kernel_rfl
  | t0 :: t1 :: l, s => by kernel_rfl
theorem o274 (call : Call) (fu m : Nat) (ρ : Nat → IH) : (oblF Go.Proofs.Tryz.prog lv274 (Orc.mk (orc274c call fu) (orc274b call fu) (orc274p call fu) (orc274m call fu)) 274 Go.Proofs.Tryz.f274 (codeOf Go.Proofs.Tryz.f274) call fu m ρ).map Prod.fst = (oblF Go.Proofs.Tryz.prog lv274 (Orc.mk (orc274c call fu) (orc274b call fu) (orc274p call fu) (orc274m call fu)) 274 Go.Proofs.Tryz.f274 (codeOf Go.Proofs.Tryz.f274) call fu m ρ).map Prod.snd := by kernel_rfl
theorem x274 (call : Call) (fu : Nat) : ∀ (args : List AV) (s : St), F274 call fu args s = fnH Go.Proofs.Tryz.prog lv274 (Orc.mk (orc274c call fu) (orc274b call fu) (orc274p call fu) (orc274m call fu)) 274 Go.Proofs.Tryz.f274 (codeOf Go.Proofs.Tryz.f274) call fu args s
  | [], s => by kernel_rfl
  | [t0], s => by kernel_rfl
  | t0 :: t1 :: l, s => by kernel_rfl
theorem o275 (call : Call) (fu m : Nat) (ρ : Nat → IH) : (oblF Go.Proofs.Tryz.prog lv275 (Orc.mk (orc275c call fu) (orc275b call fu) (orc275p call fu) (orc275m call fu)) 275 Go.Proofs.Tryz.f275 (codeOf Go.Proofs.Tryz.f275) call fu m ρ).map Prod.fst = (oblF Go.Proofs.Tryz.prog lv275 (Orc.mk (orc275c call fu) (orc275b call fu) (orc275p call fu) (orc275m call fu)) 275 Go.Proofs.Tryz.f275 (codeOf Go.Proofs.Tryz.f275) call fu m ρ).map Prod.snd := by kernel_rfl
theorem x275 (call : Call) (fu : Nat) : ∀ (args : List AV) (s : St), F275 call fu args s = fnH Go.Proofs.Tryz.prog lv275 (Orc.mk (orc275c call fu) (orc275b call fu) (orc275p call fu) (orc275m call fu)) 275 Go.Proofs.Tryz.f275 (codeOf Go.Proofs.Tryz.f275) call fu args s
  | [], s => by kernel_rfl
  | [t0], s => by kernel_rfl
  | t0 :: t1 :: l, s => by kernel_rfl
theorem o276 (call : Call) (fu m : Nat) (ρ : Nat → IH) : (oblF Go.Proofs.Tryz.prog lv276 (Orc.mk (orc276c call fu) (orc276b call fu) (orc276p call fu) (orc276m call fu)) 276 Go.Proofs.Tryz.f276 (codeOf Go.Proofs.Tryz.f276) call fu m ρ).map Prod.fst = (oblF Go.Proofs.Tryz.prog lv276 (Orc.mk (orc276c call fu) (orc276b call fu) (orc276p call fu) (orc276m call fu)) 276 Go.Proofs.Tryz.f276 (codeOf Go.Proofs.Tryz.f276) call fu m ρ).map Prod.snd := by kernel_rfl
theorem x276 (call : Call) (fu : Nat) : ∀ (args : List AV) (s : St), F276 call fu args s = fnH Go.Proofs.Tryz.prog lv276 (Orc.mk (orc276c call fu) (orc276b call fu) (orc276p call fu) (orc276m call fu)) 276 Go.Proofs.Tryz.f276 (codeOf Go.Proofs.Tryz.f276) call fu args s
  | [], s => by kernel_rfl
  | [t0], s => by kernel_rfl
  | [t0, t1], s => by kernel_rfl
  | t0 :: t1 :: t2 :: l, s => by kernel_rfl
theorem o277 (call : Call) (fu m : Nat) (ρ : Nat → IH) : (oblF Go.Proofs.Tryz.prog lv277 (Orc.mk (orc277c call fu) (orc277b call fu) (orc277p call fu) (orc277m call fu)) 277 Go.Proofs.Tryz.f277 (codeOf Go.Proofs.Tryz.f277) call fu m ρ).map Prod.fst = (oblF Go.Proofs.Tryz.prog lv277 (Orc.mk (orc277c call fu) (orc277b call fu) (orc277p call fu) (orc277m call fu)) 277 Go.Proofs.Tryz.f277 (codeOf Go.Proofs.Tryz.f277) call fu m ρ).map Prod.snd := by kernel_rfl
theorem x277 (call : Call) (fu : Nat) : ∀ (args : List AV) (s : St), F277 call fu args s = fnH Go.Proofs.Tryz.prog lv277 (Orc.mk (orc277c call fu) (orc277b call fu) (orc277p call fu) (orc277m call fu)) 277 Go.Proofs.Tryz.f277 (codeOf Go.Proofs.Tryz.f277) call fu args s
  | [], s => by kernel_rfl
  | [t0], s => by kernel_rfl
  | t0 :: t1 :: l, s => by kernel_rfl
theorem o278 (call : Call) (fu m : Nat) (ρ : Nat → IH) : (oblF Go.Proofs.Tryz.prog lv278 (Orc.mk (orc278c call fu) (orc278b call fu) (orc278p call fu) (orc278m call fu)) 278 Go.Proofs.Tryz.f278 (codeOf Go.Proofs.Tryz.f278) call fu m ρ).map Prod.fst = (oblF Go.Proofs.Tryz.prog lv278 (Orc.mk (orc278c call fu) (orc278b call fu) (orc278p call fu) (orc278m call fu)) 278 Go.Proofs.Tryz.f278 (codeOf Go.Proofs.Tryz.f278) call fu m ρ).map Prod.snd := by kernel_rfl
theorem x278 (call : Call) (fu : Nat) : ∀ (args : List AV) (s : St), F278 call fu args s = fnH Go.Proofs.Tryz.prog lv278 (Orc.mk (orc278c call fu) (orc278b call fu) (orc278p call fu) (orc278m call fu)) 278 Go.Proofs.Tryz.f278 (codeOf Go.Proofs.Tryz.f278) call fu args s
  | [], s => by kernel_rfl
  | [t0], s => by kernel_rfl
  | [t0, t1], s => by kernel_rfl
  | [t0, t1, t2], s => by kernel_rfl
  | t0 :: t1 :: t2 :: t3 :: l, s => by kernel_rfl
theorem o279 (call : Call) (fu m : Nat) (ρ : Nat → IH) : (oblF Go.Proofs.Tryz.prog lv279 (Orc.mk (orc279c call fu) (orc279b call fu) (orc279p call fu) (orc279m call fu)) 279 Go.Proofs.Tryz.f279 (codeOf Go.Proofs.Tryz.f279) call fu m ρ).map Prod.fst = (oblF Go.Proofs.Tryz.prog lv279 (Orc.mk (orc279c call fu) (orc279b call fu) (orc279p call fu) (orc279m call fu)) 279 Go.Proofs.Tryz.f279 (codeOf Go.Proofs.Tryz.f279) call fu m ρ).map Prod.snd := by kernel_rfl
theorem x279 (call : Call) (fu : Nat) : ∀ (args : List AV) (s : St), F279 call fu args s = fnH Go.Proofs.Tryz.prog lv279 (Orc.mk (orc279c call fu) (orc279b call fu) (orc279p call fu) (orc279m call fu)) 279 Go.Proofs.Tryz.f279 (codeOf Go.Proofs.Tryz.f279) call fu args s
  | [], s => by kernel_rfl
  | [t0], s => by kernel_rfl
  | [t0, t1], s => by kernel_rfl
  | t0 :: t1 :: t2 :: l, s => by kernel_rfl
theorem o283 (call : Call) (fu m : Nat) (ρ : Nat → IH) : (oblF Go.Proofs.Tryz.prog lv283 (Orc.mk (orc283c call fu) (orc283b call fu) (orc283p call fu) (orc283m call fu)) 283 Go.Proofs.Tryz.f283 (codeOf Go.Proofs.Tryz.f283) call fu m ρ).map Prod.fst = (oblF Go.Proofs.Tryz.prog lv283 (Orc.mk (orc283c call fu) (orc283b call fu) (orc283p call fu) (orc283m call fu)) 283 Go.Proofs.Tryz.f283 (codeOf Go.Proofs.Tryz.f283) call fu m ρ).map Prod.snd := by kernel_rfl
theorem x283 (call : Call) (fu : Nat) : ∀ (args : List AV) (s : St), F283 call fu args s = fnH Go.Proofs.Tryz.prog lv283 (Orc.mk (orc283c call fu) (orc283b call fu) (orc283p call fu) (orc283m call fu)) 283 Go.Proofs.Tryz.f283 (codeOf Go.Proofs.Tryz.f283) call fu args s
  | [], s => by kernel_rfl
  | [t0], s => by kernel_rfl
  | [t0, t1], s => by kernel_rfl
  | t0 :: t1 :: t2 :: l, s => by kernel_rfl
theorem o284 (call : Call) (fu m : Nat) (ρ : Nat → IH) : (oblF Go.Proofs.Tryz.prog lv284 (Orc.mk (orc284c call fu) (orc284b call fu) (orc284p call fu) (orc284m call fu)) 284 Go.Proofs.Tryz.f284 (codeOf Go.Proofs.Tryz.f284) call fu m ρ).map Prod.fst = (oblF Go.Proofs.Tryz.prog lv284 (Orc.mk (orc284c call fu) (orc284b call fu) (orc284p call fu) (orc284m call fu)) 284 Go.Proofs.Tryz.f284 (codeOf Go.Proofs.Tryz.f284) call fu m ρ).map Prod.snd := by kernel_rfl
theorem x284 (call : Call) (fu : Nat) : ∀ (args : List AV) (s : St), F284 call fu args s = fnH Go.Proofs.Tryz.prog lv284 (Orc.mk (orc284c call fu) (orc284b call fu) (orc284p call fu) (orc284m call fu)) 284 Go.Proofs.Tryz.f284 (codeOf Go.Proofs.Tryz.f284) call fu args s
  | [], s => by kernel_rfl
  | [t0], s => by kernel_rfl
  | [t0, t1], s => by kernel_rfl
  | [t0, t1, t2], s => by kernel_rfl
  | t0 :: t1 :: t2 :: t3 :: l, s => by kernel_rfl
theorem o285 (call : Call) (fu m : Nat) (ρ : Nat → IH) : (oblF Go.Proofs.Tryz.prog lv285 (Orc.mk (orc285c call fu) (orc285b call fu) (orc285p call fu) (orc285m call fu)) 285 Go.Proofs.Tryz.f285 (codeOf Go.Proofs.Tryz.f285) call fu m ρ).map Prod.fst = (oblF Go.Proofs.Tryz.prog lv285 (Orc.mk (orc285c call fu) (orc285b call fu) (orc285p call fu) (orc285m call fu)) 285 Go.Proofs.Tryz.f285 (codeOf Go.Proofs.Tryz.f285) call fu m ρ).map Prod.snd := by kernel_rfl
theorem x285 (call : Call) (fu : Nat) : ∀ (args : List AV) (s : St), F285 call fu args s = fnH Go.Proofs.Tryz.prog lv285 (Orc.mk (orc285c call fu) (orc285b call fu) (orc285p call fu) (orc285m call fu)) 285 Go.Proofs.Tryz.f285 (codeOf Go.Proofs.Tryz.f285) call fu args s
  | [], s => by kernel_rfl
  | [t0], s => by kernel_rfl
  | t0 :: t1 :: l, s => by kernel_rfl
theorem o297 (call : Call) (fu m : Nat) (ρ : Nat → IH) : (oblF Go.Proofs.Tryz.prog lv297 (Orc.mk (orc297c call fu) (orc297b call fu) (orc297p call fu) (orc297m call fu)) 297 Go.Proofs.Tryz.f297 (codeOf Go.Proofs.Tryz.f297) call fu m ρ).map Prod.fst = (oblF Go.Proofs.Tryz.prog lv297 (Orc.mk (orc297c call fu) (orc297b call fu) (orc297p call fu) (orc297m call fu)) 297 Go.Proofs.Tryz.f297 (codeOf Go.Proofs.Tryz.f297) call fu m ρ).map Prod.snd := by kernel_rfl
theorem x297 (call : Call) (fu : Nat) : ∀ (args : List AV) (s : St), F297 call fu args s = fnH Go.Proofs.Tryz.prog lv297 (Orc.mk (orc297c call fu) (orc297b call fu) (orc297p call fu) (orc297m call fu)) 297 Go.Proofs.Tryz.f297 (codeOf Go.Proofs.Tryz.f297) call fu args s
  | [], s => by kernel_rfl
  | [t0], s => by kernel_rfl
  | t0 :: t1 :: l, s => by kernel_rfl
end Go.Ev.V
