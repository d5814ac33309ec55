/- Each piece is what the evaluator comes to on the code (by a program). -/
import Derived.Test.YtneeiakpoohneaaGreatDoorEvVA1
import Derived.KernelRfl
set_option linter.all false
set_option linter.unusedVariables false
set_option maxRecDepth 100000
namespace Go.Ev.V
theorem o305 (call : Call) (fu m : Nat) (ρ : Nat → IH) : (oblF Go.Proofs.Tryz.prog lv305 (Orc.mk (orc305c call fu) (orc305b call fu) (orc305p call fu) (orc305m call fu)) 305 Go.Proofs.Tryz.f305 (codeOf Go.Proofs.Tryz.f305) call fu m ρ).map Prod.fst = (oblF Go.Proofs.Tryz.prog lv305 (Orc.mk (orc305c call fu) (orc305b call fu) (orc305p call fu) (orc305m call fu)) 305 Go.Proofs.Tryz.f305 (codeOf Go.Proofs.Tryz.f305) call fu m ρ).map Prod.snd := by kernel_rfl
theorem x305 (call : Call) (fu : Nat) : ∀ (args : List AV) (s : St), F305 call fu args s = fnH Go.Proofs.Tryz.prog lv305 (Orc.mk (orc305c call fu) (orc305b call fu) (orc305p call fu) (orc305m call fu)) 305 Go.Proofs.Tryz.f305 (codeOf Go.Proofs.Tryz.f305) call fu args s
  | [], s => by kernel_rfl
  | [t0], s => by kernel_rfl
  | t0 :: t1 :: l, s => by kernel_rfl
theorem o320 (call : Call) (fu m : Nat) (ρ : Nat → IH) : (oblF Go.Proofs.Tryz.prog lv320 (Orc.mk (orc320c call fu) (orc320b call fu) (orc320p call fu) (orc320m call fu)) 320 Go.Proofs.Tryz.f320 (codeOf Go.Proofs.Tryz.f320) call fu m ρ).map Prod.fst = (oblF Go.Proofs.Tryz.prog lv320 (Orc.mk (orc320c call fu) (orc320b call fu) (orc320p call fu) (orc320m call fu)) 320 Go.Proofs.Tryz.f320 (codeOf Go.Proofs.Tryz.f320) call fu m ρ).map Prod.snd := by kernel_rfl
theorem x320 (call : Call) (fu : Nat) : ∀ (args : List AV) (s : St), F320 call fu args s = fnH Go.Proofs.Tryz.prog lv320 (Orc.mk (orc320c call fu) (orc320b call fu) (orc320p call fu) (orc320m call fu)) 320 Go.Proofs.Tryz.f320 (codeOf Go.Proofs.Tryz.f320) call fu args s
  | [], s => by kernel_rfl
  | [t0], s => by kernel_rfl
  | [t0, t1], s => by kernel_rfl
  | [t0, t1, t2], s => by kernel_rfl
  | t0 :: t1 :: t2 :: t3 :: l, s => by kernel_rfl
theorem o321 (call : Call) (fu m : Nat) (ρ : Nat → IH) : (oblF Go.Proofs.Tryz.prog lv321 (Orc.mk (orc321c call fu) (orc321b call fu) (orc321p call fu) (orc321m call fu)) 321 Go.Proofs.Tryz.f321 (codeOf Go.Proofs.Tryz.f321) call fu m ρ).map Prod.fst = (oblF Go.Proofs.Tryz.prog lv321 (Orc.mk (orc321c call fu) (orc321b call fu) (orc321p call fu) (orc321m call fu)) 321 Go.Proofs.Tryz.f321 (codeOf Go.Proofs.Tryz.f321) call fu m ρ).map Prod.snd := by kernel_rfl
theorem x321 (call : Call) (fu : Nat) : ∀ (args : List AV) (s : St), F321 call fu args s = fnH Go.Proofs.Tryz.prog lv321 (Orc.mk (orc321c call fu) (orc321b call fu) (orc321p call fu) (orc321m call fu)) 321 Go.Proofs.Tryz.f321 (codeOf Go.Proofs.Tryz.f321) call fu args s
  | [], s => by kernel_rfl
  | [t0], s => by kernel_rfl
  | [t0, t1], s => by kernel_rfl
  | [t0, t1, t2], s => by kernel_rfl
  | [t0, t1, t2, t3], s => by kernel_rfl
  | [t0, t1, t2, t3, t4], s => by kernel_rfl
  | t0 :: t1 :: t2 :: t3 :: t4 :: t5 :: l, s => by kernel_rfl
theorem o322 (call : Call) (fu m : Nat) (ρ : Nat → IH) : (oblF Go.Proofs.Tryz.prog lv322 (Orc.mk (orc322c call fu) (orc322b call fu) (orc322p call fu) (orc322m call fu)) 322 Go.Proofs.Tryz.f322 (codeOf Go.Proofs.Tryz.f322) call fu m ρ).map Prod.fst = (oblF Go.Proofs.Tryz.prog lv322 (Orc.mk (orc322c call fu) (orc322b call fu) (orc322p call fu) (orc322m call fu)) 322 Go.Proofs.Tryz.f322 (codeOf Go.Proofs.Tryz.f322) call fu m ρ).map Prod.snd := by kernel_rfl
theorem x322 (call : Call) (fu : Nat) : ∀ (args : List AV) (s : St), F322 call fu args s = fnH Go.Proofs.Tryz.prog lv322 (Orc.mk (orc322c call fu) (orc322b call fu) (orc322p call fu) (orc322m call fu)) 322 Go.Proofs.Tryz.f322 (codeOf Go.Proofs.Tryz.f322) call fu args s
  | [], s => by kernel_rfl
  | [t0], s => by kernel_rfl
  | t0 :: t1 :: l, s => by kernel_rfl
theorem o332 (call : Call) (fu m : Nat) (ρ : Nat → IH) : (oblF Go.Proofs.Tryz.prog lv332 (Orc.mk (orc332c call fu) (orc332b call fu) (orc332p call fu) (orc332m call fu)) 332 Go.Proofs.Tryz.f332 (codeOf Go.Proofs.Tryz.f332) call fu m ρ).map Prod.fst = (oblF Go.Proofs.Tryz.prog lv332 (Orc.mk (orc332c call fu) (orc332b call fu) (orc332p call fu) (orc332m call fu)) 332 Go.Proofs.Tryz.f332 (codeOf Go.Proofs.Tryz.f332) call fu m ρ).map Prod.snd := by kernel_rfl
theorem x332 (call : Call) (fu : Nat) : ∀ (args : List AV) (s : St), F332 call fu args s = fnH Go.Proofs.Tryz.prog lv332 (Orc.mk (orc332c call fu) (orc332b call fu) (orc332p call fu) (orc332m call fu)) 332 Go.Proofs.Tryz.f332 (codeOf Go.Proofs.Tryz.f332) call fu args s
  | [], s => by kernel_rfl
  | [t0], s => by kernel_rfl
  | t0 :: t1 :: l, s => by kernel_rfl
theorem o334 (call : Call) (fu m : Nat) (ρ : Nat → IH) : (oblF Go.Proofs.Tryz.prog lv334 (Orc.mk (orc334c call fu) (orc334b call fu) (orc334p call fu) (orc334m call fu)) 334 Go.Proofs.Tryz.f334 (codeOf Go.Proofs.Tryz.f334) call fu m ρ).map Prod.fst = (oblF Go.Proofs.Tryz.prog lv334 (Orc.mk (orc334c call fu) (orc334b call fu) (orc334p call fu) (orc334m call fu)) 334 Go.Proofs.Tryz.f334 (codeOf Go.Proofs.Tryz.f334) call fu m ρ).map Prod.snd := by kernel_rfl
theorem x334 (call : Call) (fu : Nat) : ∀ (args : List AV) (s : St), F334 call fu args s = fnH Go.Proofs.Tryz.prog lv334 (Orc.mk (orc334c call fu) (orc334b call fu) (orc334p call fu) (orc334m call fu)) 334 Go.Proofs.Tryz.f334 (codeOf Go.Proofs.Tryz.f334) call fu args s
  | [], s => by kernel_rfl
  | [t0], s => by kernel_rfl
  | [t0, t1], s => by kernel_rfl
  | t0 :: t1 :: t2 :: l, s => by kernel_rfl
theorem o335 (call : Call) (fu m : Nat) (ρ : Nat → IH) : (oblF Go.Proofs.Tryz.prog lv335 (Orc.mk (orc335c call fu) (orc335b call fu) (orc335p call fu) (orc335m call fu)) 335 Go.Proofs.Tryz.f335 (codeOf Go.Proofs.Tryz.f335) call fu m ρ).map Prod.fst = (oblF Go.Proofs.Tryz.prog lv335 (Orc.mk (orc335c call fu) (orc335b call fu) (orc335p call fu) (orc335m call fu)) 335 Go.Proofs.Tryz.f335 (codeOf Go.Proofs.Tryz.f335) call fu m ρ).map Prod.snd := by kernel_rfl
theorem x335 (call : Call) (fu : Nat) : ∀ (args : List AV) (s : St), F335 call fu args s = fnH Go.Proofs.Tryz.prog lv335 (Orc.mk (orc335c call fu) (orc335b call fu) (orc335p call fu) (orc335m call fu)) 335 Go.Proofs.Tryz.f335 (codeOf Go.Proofs.Tryz.f335) call fu args s
  | [], s => by kernel_rfl
  | [t0], s => by kernel_rfl
  | t0 :: t1 :: l, s => by kernel_rfl
theorem o336 (call : Call) (fu m : Nat) (ρ : Nat → IH) : (oblF Go.Proofs.Tryz.prog lv336 (Orc.mk (orc336c call fu) (orc336b call fu) (orc336p call fu) (orc336m call fu)) 336 Go.Proofs.Tryz.f336 (codeOf Go.Proofs.Tryz.f336) call fu m ρ).map Prod.fst = (oblF Go.Proofs.Tryz.prog lv336 (Orc.mk (orc336c call fu) (orc336b call fu) (orc336p call fu) (orc336m call fu)) 336 Go.Proofs.Tryz.f336 (codeOf Go.Proofs.Tryz.f336) call fu m ρ).map Prod.snd := by kernel_rfl
theorem x336 (call : Call) (fu : Nat) : ∀ (args : List AV) (s : St), F336 call fu args s = fnH Go.Proofs.Tryz.prog lv336 (Orc.mk (orc336c call fu) (orc336b call fu) (orc336p call fu) (orc336m call fu)) 336 Go.Proofs.Tryz.f336 (codeOf Go.Proofs.Tryz.f336) call fu args s
  | [], s => by kernel_rfl
  | [t0], s => by kernel_rfl
  | t0 :: t1 :: l, s => by kernel_rfl
theorem o337 (call : Call) (fu m : Nat) (ρ : Nat → IH) : (oblF Go.Proofs.Tryz.prog lv337 (Orc.mk (orc337c call fu) (orc337b call fu) (orc337p call fu) (orc337m call fu)) 337 Go.Proofs.Tryz.f337 (codeOf Go.Proofs.Tryz.f337) call fu m ρ).map Prod.fst = (oblF Go.Proofs.Tryz.prog lv337 (Orc.mk (orc337c call fu) (orc337b call fu) (orc337p call fu) (orc337m call fu)) 337 Go.Proofs.Tryz.f337 (codeOf Go.Proofs.Tryz.f337) call fu m ρ).map Prod.snd := by kernel_rfl
theorem x337 (call : Call) (fu : Nat) : ∀ (args : List AV) (s : St), F337 call fu args s = fnH Go.Proofs.Tryz.prog lv337 (Orc.mk (orc337c call fu) (orc337b call fu) (orc337p call fu) (orc337m call fu)) 337 Go.Proofs.Tryz.f337 (codeOf Go.Proofs.Tryz.f337) call fu args s
  | [], s => by kernel_rfl
  | [t0], s => by kernel_rfl
  | [t0, t1], s => by kernel_rfl
  | [t0, t1, t2], s => by kernel_rfl
  | [t0, t1, t2, t3], s => by kernel_rfl
  | t0 :: t1 :: t2 :: t3 :: t4 :: l, s => by kernel_rfl
theorem o339 (call : Call) (fu m : Nat) (ρ : Nat → IH) : (oblF Go.Proofs.Tryz.prog lv339 (Orc.mk (orc339c call fu) (orc339b call fu) (orc339p call fu) (orc339m call fu)) 339 Go.Proofs.Tryz.f339 (codeOf Go.Proofs.Tryz.f339) call fu m ρ).map Prod.fst = (oblF Go.Proofs.Tryz.prog lv339 (Orc.mk (orc339c call fu) (orc339b call fu) (orc339p call fu) (orc339m call fu)) 339 Go.Proofs.Tryz.f339 (codeOf Go.Proofs.Tryz.f339) call fu m ρ).map Prod.snd := by kernel_rfl
theorem x339 (call : Call) (fu : Nat) : ∀ (args : List AV) (s : St), F339 call fu args s = fnH Go.Proofs.Tryz.prog lv339 (Orc.mk (orc339c call fu) (orc339b call fu) (orc339p call fu) (orc339m call fu)) 339 Go.Proofs.Tryz.f339 (codeOf Go.Proofs.Tryz.f339) call fu args s
  | [], s => by kernel_rfl
  | [t0], s => by kernel_rfl
  | [t0, t1], s => by kernel_rfl
  | t0 :: t1 :: t2 :: l, s => by kernel_rfl
theorem o340 (call : Call) (fu m : Nat) (ρ : Nat → IH) : (oblF Go.Proofs.Tryz.prog lv340 (Orc.mk (orc340c call fu) (orc340b call fu) (orc340p call fu) (orc340m call fu)) 340 Go.Proofs.Tryz.f340 (codeOf Go.Proofs.Tryz.f340) call fu m ρ).map Prod.fst = (oblF Go.Proofs.Tryz.prog lv340 (Orc.mk (orc340c call fu) (orc340b call fu) (orc340p call fu) (orc340m call fu)) 340 Go.Proofs.Tryz.f340 (codeOf Go.Proofs.Tryz.f340) call fu m ρ).map Prod.snd := by kernel_rfl
theorem x340 (call : Call) (fu : Nat) : ∀ (args : List AV) (s : St), F340 call fu args s = fnH Go.Proofs.Tryz.prog lv340 (Orc.mk (orc340c call fu) (orc340b call fu) (orc340p call fu) (orc340m call fu)) 340 Go.Proofs.Tryz.f340 (codeOf Go.Proofs.Tryz.f340) call fu args s
  | [], s => by kernel_rfl
  | [t0], s => by kernel_rfl
  | t0 :: t1 :: l, s => by kernel_rfl
theorem o366 (call : Call) (fu m : Nat) (ρ : Nat → IH) : (oblF Go.Proofs.Tryz.prog lv366 (Orc.mk (orc366c call fu) (orc366b call fu) (orc366p call fu) (orc366m call fu)) 366 Go.Proofs.Tryz.f366 (codeOf Go.Proofs.Tryz.f366) call fu m ρ).map Prod.fst = (oblF Go.Proofs.Tryz.prog lv366 (Orc.mk (orc366c call fu) (orc366b call fu) (orc366p call fu) (orc366m call fu)) 366 Go.Proofs.Tryz.f366 (codeOf Go.Proofs.Tryz.f366) call fu m ρ).map Prod.snd := by kernel_rfl
theorem x366 (call : Call) (fu : Nat) : ∀ (args : List AV) (s : St), F366 call fu args s = fnH Go.Proofs.Tryz.prog lv366 (Orc.mk (orc366c call fu) (orc366b call fu) (orc366p call fu) (orc366m call fu)) 366 Go.Proofs.Tryz.f366 (codeOf Go.Proofs.Tryz.f366) call fu args s
  | [], s => by kernel_rfl
  | [t0], s => by kernel_rfl
  | [t0, t1], s => by kernel_rfl
  | [t0, t1, t2], s => by kernel_rfl
  | t0 :: t1 :: t2 :: t3 :: l, s => by kernel_rfl
theorem o367 (call : Call) (fu m : Nat) (ρ : Nat → IH) : (oblF Go.Proofs.Tryz.prog lv367 (Orc.mk (orc367c call fu) (orc367b call fu) (orc367p call fu) (orc367m call fu)) 367 Go.Proofs.Tryz.f367 (codeOf Go.Proofs.Tryz.f367) call fu m ρ).map Prod.fst = (oblF Go.Proofs.Tryz.prog lv367 (Orc.mk (orc367c call fu) (orc367b call fu) (orc367p call fu) (orc367m call fu)) 367 Go.Proofs.Tryz.f367 (codeOf Go.Proofs.Tryz.f367) call fu m ρ).map Prod.snd := by kernel_rfl
theorem x367 (call : Call) (fu : Nat) : ∀ (args : List AV) (s : St), F367 call fu args s = fnH Go.Proofs.Tryz.prog lv367 (Orc.mk (orc367c call fu) (orc367b call fu) (orc367p call fu) (orc367m call fu)) 367 Go.Proofs.Tryz.f367 (codeOf Go.Proofs.Tryz.f367) call fu args s
  | [], s => by kernel_rfl
  | [t0], s => by kernel_rfl
  | [t0, t1], s => by kernel_rfl
  | t0 :: t1 :: t2 :: l, s => by kernel_rfl
theorem o377 (call : Call) (fu m : Nat) (ρ : Nat → IH) : (oblF Go.Proofs.Tryz.prog lv377 (Orc.mk (orc377c call fu) (orc377b call fu) (orc377p call fu) (orc377m call fu)) 377 Go.Proofs.Tryz.f377 (codeOf Go.Proofs.Tryz.f377) call fu m ρ).map Prod.fst = (oblF Go.Proofs.Tryz.prog lv377 (Orc.mk (orc377c call fu) (orc377b call fu) (orc377p call fu) (orc377m call fu)) 377 Go.Proofs.Tryz.f377 (codeOf Go.Proofs.Tryz.f377) call fu m ρ).map Prod.snd := by kernel_rfl
theorem x377 (call : Call) (fu : Nat) : ∀ (args : List AV) (s : St), F377 call fu args s = fnH Go.Proofs.Tryz.prog lv377 (Orc.mk (orc377c call fu) (orc377b call fu) (orc377p call fu) (orc377m call fu)) 377 Go.Proofs.Tryz.f377 (codeOf Go.Proofs.Tryz.f377) call fu args s
  | [], s => by kernel_rfl
  | [t0], s => by kernel_rfl
  | t0 :: t1 :: l, s => by kernel_rfl
theorem o378 (call : Call) (fu m : Nat) (ρ : Nat → IH) : (oblF Go.Proofs.Tryz.prog lv378 (Orc.mk (orc378c call fu) (orc378b call fu) (orc378p call fu) (orc378m call fu)) 378 Go.Proofs.Tryz.f378 (codeOf Go.Proofs.Tryz.f378) call fu m ρ).map Prod.fst = (oblF Go.Proofs.Tryz.prog lv378 (Orc.mk (orc378c call fu) (orc378b call fu) (orc378p call fu) (orc378m call fu)) 378 Go.Proofs.Tryz.f378 (codeOf Go.Proofs.Tryz.f378) call fu m ρ).map Prod.snd := by kernel_rfl
theorem x378 (call : Call) (fu : Nat) : ∀ (args : List AV) (s : St), F378 call fu args s = fnH Go.Proofs.Tryz.prog lv378 (Orc.mk (orc378c call fu) (orc378b call fu) (orc378p call fu) (orc378m call fu)) 378 Go.Proofs.Tryz.f378 (codeOf Go.Proofs.Tryz.f378) call fu args s
  | [], s => by kernel_rfl
  | [t0], s => by kernel_rfl
  | [t0, t1], s => by kernel_rfl
  | [t0, t1, t2], s => by kernel_rfl
  | t0 :: t1 :: t2 :: t3 :: l, s => by kernel_rfl
theorem o379 (call : Call) (fu m : Nat) (ρ : Nat → IH) : (oblF Go.Proofs.Tryz.prog lv379 (Orc.mk (orc379c call fu) (orc379b call fu) (orc379p call fu) (orc379m call fu)) 379 Go.Proofs.Tryz.f379 (codeOf Go.Proofs.Tryz.f379) call fu m ρ).map Prod.fst = (oblF Go.Proofs.Tryz.prog lv379 (Orc.mk (orc379c call fu) (orc379b call fu) (orc379p call fu) (orc379m call fu)) 379 Go.Proofs.Tryz.f379 (codeOf Go.Proofs.Tryz.f379) call fu m ρ).map Prod.snd := by kernel_rfl
theorem x379 (call : Call) (fu : Nat) : ∀ (args : List AV) (s : St), F379 call fu args s = fnH Go.Proofs.Tryz.prog lv379 (Orc.mk (orc379c call fu) (orc379b call fu) (orc379p call fu) (orc379m call fu)) 379 Go.Proofs.Tryz.f379 (codeOf Go.Proofs.Tryz.f379) call fu args s
  | [], s => by kernel_rfl
  | [t0], s => by kernel_rfl
  | t0 :: t1 :: l, s => by kernel_rfl
end Go.Ev.V
