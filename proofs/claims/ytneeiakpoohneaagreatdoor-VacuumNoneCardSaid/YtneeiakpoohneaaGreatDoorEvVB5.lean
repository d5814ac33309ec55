/- Each piece is what the evaluator comes to on the code (by a program). -/
import Derived.Test.YtneeiakpoohneaaGreatDoorEvVA1
import Derived.KernelRfl
set_option linter.all false
set_option linter.unusedVariables false
set_option maxRecDepth 100000
namespace Go.Ev.V
theorem o200 (call : Call) (fu m : Nat) (ρ : Nat → IH) : (oblF Go.Proofs.Tryz.prog lv200 (Orc.mk (orc200c call fu) (orc200b call fu) (orc200p call fu) (orc200m call fu)) 200 Go.Proofs.Tryz.f200 (codeOf Go.Proofs.Tryz.f200) call fu m ρ).map Prod.fst = (oblF Go.Proofs.Tryz.prog lv200 (Orc.mk (orc200c call fu) (orc200b call fu) (orc200p call fu) (orc200m call fu)) 200 Go.Proofs.Tryz.f200 (codeOf Go.Proofs.Tryz.f200) call fu m ρ).map Prod.snd := by kernel_rfl
theorem x200 (call : Call) (fu : Nat) : ∀ (args : List AV) (s : St), F200 call fu args s = fnH Go.Proofs.Tryz.prog lv200 (Orc.mk (orc200c call fu) (orc200b call fu) (orc200p call fu) (orc200m call fu)) 200 Go.Proofs.Tryz.f200 (codeOf Go.Proofs.Tryz.f200) call fu args s
  | [], s => by kernel_rfl
  | [t0], s => by kernel_rfl
  | [t0, t1], s => by kernel_rfl
  | [t0, t1, t2], s => by kernel_rfl
  | [t0, t1, t2, t3], s => by kernel_rfl
  | t0 :: t1 :: t2 :: t3 :: t4 :: l, s => by kernel_rfl
theorem o203 (call : Call) (fu m : Nat) (ρ : Nat → IH) : (oblF Go.Proofs.Tryz.prog lv203 (Orc.mk (orc203c call fu) (orc203b call fu) (orc203p call fu) (orc203m call fu)) 203 Go.Proofs.Tryz.f203 (codeOf Go.Proofs.Tryz.f203) call fu m ρ).map Prod.fst = (oblF Go.Proofs.Tryz.prog lv203 (Orc.mk (orc203c call fu) (orc203b call fu) (orc203p call fu) (orc203m call fu)) 203 Go.Proofs.Tryz.f203 (codeOf Go.Proofs.Tryz.f203) call fu m ρ).map Prod.snd := by kernel_rfl
theorem x203 (call : Call) (fu : Nat) : ∀ (args : List AV) (s : St), F203 call fu args s = fnH Go.Proofs.Tryz.prog lv203 (Orc.mk (orc203c call fu) (orc203b call fu) (orc203p call fu) (orc203m call fu)) 203 Go.Proofs.Tryz.f203 (codeOf Go.Proofs.Tryz.f203) call fu args s
  | [], s => by kernel_rfl
  | [t0], s => by kernel_rfl
  | t0 :: t1 :: l, s => by kernel_rfl
theorem o204 (call : Call) (fu m : Nat) (ρ : Nat → IH) : (oblF Go.Proofs.Tryz.prog lv204 (Orc.mk (orc204c call fu) (orc204b call fu) (orc204p call fu) (orc204m call fu)) 204 Go.Proofs.Tryz.f204 (codeOf Go.Proofs.Tryz.f204) call fu m ρ).map Prod.fst = (oblF Go.Proofs.Tryz.prog lv204 (Orc.mk (orc204c call fu) (orc204b call fu) (orc204p call fu) (orc204m call fu)) 204 Go.Proofs.Tryz.f204 (codeOf Go.Proofs.Tryz.f204) call fu m ρ).map Prod.snd := by kernel_rfl
theorem x204 (call : Call) (fu : Nat) : ∀ (args : List AV) (s : St), F204 call fu args s = fnH Go.Proofs.Tryz.prog lv204 (Orc.mk (orc204c call fu) (orc204b call fu) (orc204p call fu) (orc204m call fu)) 204 Go.Proofs.Tryz.f204 (codeOf Go.Proofs.Tryz.f204) call fu args s
  | [], s => by kernel_rfl
  | [t0], s => by kernel_rfl
  | [t0, t1], s => by kernel_rfl
  | [t0, t1, t2], s => by kernel_rfl
  | [t0, t1, t2, t3], s => by kernel_rfl
  | [t0, t1, t2, t3, t4], s => by kernel_rfl
  | t0 :: t1 :: t2 :: t3 :: t4 :: t5 :: l, s => by kernel_rfl
theorem o205 (call : Call) (fu m : Nat) (ρ : Nat → IH) : (oblF Go.Proofs.Tryz.prog lv205 (Orc.mk (orc205c call fu) (orc205b call fu) (orc205p call fu) (orc205m call fu)) 205 Go.Proofs.Tryz.f205 (codeOf Go.Proofs.Tryz.f205) call fu m ρ).map Prod.fst = (oblF Go.Proofs.Tryz.prog lv205 (Orc.mk (orc205c call fu) (orc205b call fu) (orc205p call fu) (orc205m call fu)) 205 Go.Proofs.Tryz.f205 (codeOf Go.Proofs.Tryz.f205) call fu m ρ).map Prod.snd := by kernel_rfl
theorem x205 (call : Call) (fu : Nat) : ∀ (args : List AV) (s : St), F205 call fu args s = fnH Go.Proofs.Tryz.prog lv205 (Orc.mk (orc205c call fu) (orc205b call fu) (orc205p call fu) (orc205m call fu)) 205 Go.Proofs.Tryz.f205 (codeOf Go.Proofs.Tryz.f205) call fu args s
  | [], s => by kernel_rfl
  | [t0], s => by kernel_rfl
  | [t0, t1], s => by kernel_rfl
  | t0 :: t1 :: t2 :: l, s => by kernel_rfl
theorem o206 (call : Call) (fu m : Nat) (ρ : Nat → IH) : (oblF Go.Proofs.Tryz.prog lv206 (Orc.mk (orc206c call fu) (orc206b call fu) (orc206p call fu) (orc206m call fu)) 206 Go.Proofs.Tryz.f206 (codeOf Go.Proofs.Tryz.f206) call fu m ρ).map Prod.fst = (oblF Go.Proofs.Tryz.prog lv206 (Orc.mk (orc206c call fu) (orc206b call fu) (orc206p call fu) (orc206m call fu)) 206 Go.Proofs.Tryz.f206 (codeOf Go.Proofs.Tryz.f206) call fu m ρ).map Prod.snd := by kernel_rfl
theorem x206 (call : Call) (fu : Nat) : ∀ (args : List AV) (s : St), F206 call fu args s = fnH Go.Proofs.Tryz.prog lv206 (Orc.mk (orc206c call fu) (orc206b call fu) (orc206p call fu) (orc206m call fu)) 206 Go.Proofs.Tryz.f206 (codeOf Go.Proofs.Tryz.f206) call fu args s
  | [], s => by kernel_rfl
  | [t0], s => by kernel_rfl
  | [t0, t1], s => by kernel_rfl
  | t0 :: t1 :: t2 :: l, s => by kernel_rfl
theorem o207 (call : Call) (fu m : Nat) (ρ : Nat → IH) : (oblF Go.Proofs.Tryz.prog lv207 (Orc.mk (orc207c call fu) (orc207b call fu) (orc207p call fu) (orc207m call fu)) 207 Go.Proofs.Tryz.f207 (codeOf Go.Proofs.Tryz.f207) call fu m ρ).map Prod.fst = (oblF Go.Proofs.Tryz.prog lv207 (Orc.mk (orc207c call fu) (orc207b call fu) (orc207p call fu) (orc207m call fu)) 207 Go.Proofs.Tryz.f207 (codeOf Go.Proofs.Tryz.f207) call fu m ρ).map Prod.snd := by kernel_rfl
theorem x207 (call : Call) (fu : Nat) : ∀ (args : List AV) (s : St), F207 call fu args s = fnH Go.Proofs.Tryz.prog lv207 (Orc.mk (orc207c call fu) (orc207b call fu) (orc207p call fu) (orc207m call fu)) 207 Go.Proofs.Tryz.f207 (codeOf Go.Proofs.Tryz.f207) call fu args s
  | [], s => by kernel_rfl
  | [t0], s => by kernel_rfl
  | [t0, t1], s => by kernel_rfl
  | t0 :: t1 :: t2 :: l, s => by kernel_rfl
theorem o208 (call : Call) (fu m : Nat) (ρ : Nat → IH) : (oblF Go.Proofs.Tryz.prog lv208 (Orc.mk (orc208c call fu) (orc208b call fu) (orc208p call fu) (orc208m call fu)) 208 Go.Proofs.Tryz.f208 (codeOf Go.Proofs.Tryz.f208) call fu m ρ).map Prod.fst = (oblF Go.Proofs.Tryz.prog lv208 (Orc.mk (orc208c call fu) (orc208b call fu) (orc208p call fu) (orc208m call fu)) 208 Go.Proofs.Tryz.f208 (codeOf Go.Proofs.Tryz.f208) call fu m ρ).map Prod.snd := by kernel_rfl
theorem x208 (call : Call) (fu : Nat) : ∀ (args : List AV) (s : St), F208 call fu args s = fnH Go.Proofs.Tryz.prog lv208 (Orc.mk (orc208c call fu) (orc208b call fu) (orc208p call fu) (orc208m call fu)) 208 Go.Proofs.Tryz.f208 (codeOf Go.Proofs.Tryz.f208) call fu args s
  | [], s => by kernel_rfl
  | [t0], s => by kernel_rfl
  | t0 :: t1 :: l, s => by kernel_rfl
theorem o210 (call : Call) (fu m : Nat) (ρ : Nat → IH) : (oblF Go.Proofs.Tryz.prog lv210 (Orc.mk (orc210c call fu) (orc210b call fu) (orc210p call fu) (orc210m call fu)) 210 Go.Proofs.Tryz.f210 (codeOf Go.Proofs.Tryz.f210) call fu m ρ).map Prod.fst = (oblF Go.Proofs.Tryz.prog lv210 (Orc.mk (orc210c call fu) (orc210b call fu) (orc210p call fu) (orc210m call fu)) 210 Go.Proofs.Tryz.f210 (codeOf Go.Proofs.Tryz.f210) call fu m ρ).map Prod.snd := by kernel_rfl
theorem x210 (call : Call) (fu : Nat) : ∀ (args : List AV) (s : St), F210 call fu args s = fnH Go.Proofs.Tryz.prog lv210 (Orc.mk (orc210c call fu) (orc210b call fu) (orc210p call fu) (orc210m call fu)) 210 Go.Proofs.Tryz.f210 (codeOf Go.Proofs.Tryz.f210) call fu args s
  | [], s => by kernel_rfl
  | [t0], s => by kernel_rfl
  | [t0, t1], s => by kernel_rfl
  | t0 :: t1 :: t2 :: l, s => by kernel_rfl
theorem o211 (call : Call) (fu m : Nat) (ρ : Nat → IH) : (oblF Go.Proofs.Tryz.prog lv211 (Orc.mk (orc211c call fu) (orc211b call fu) (orc211p call fu) (orc211m call fu)) 211 Go.Proofs.Tryz.f211 (codeOf Go.Proofs.Tryz.f211) call fu m ρ).map Prod.fst = (oblF Go.Proofs.Tryz.prog lv211 (Orc.mk (orc211c call fu) (orc211b call fu) (orc211p call fu) (orc211m call fu)) 211 Go.Proofs.Tryz.f211 (codeOf Go.Proofs.Tryz.f211) call fu m ρ).map Prod.snd := by kernel_rfl
theorem x211 (call : Call) (fu : Nat) : ∀ (args : List AV) (s : St), F211 call fu args s = fnH Go.Proofs.Tryz.prog lv211 (Orc.mk (orc211c call fu) (orc211b call fu) (orc211p call fu) (orc211m call fu)) 211 Go.Proofs.Tryz.f211 (codeOf Go.Proofs.Tryz.f211) call fu args s
  | [], s => by kernel_rfl
  | [t0], s => by kernel_rfl
  | t0 :: t1 :: l, s => by kernel_rfl
theorem o214 (call : Call) (fu m : Nat) (ρ : Nat → IH) : (oblF Go.Proofs.Tryz.prog lv214 (Orc.mk (orc214c call fu) (orc214b call fu) (orc214p call fu) (orc214m call fu)) 214 Go.Proofs.Tryz.f214 (codeOf Go.Proofs.Tryz.f214) call fu m ρ).map Prod.fst = (oblF Go.Proofs.Tryz.prog lv214 (Orc.mk (orc214c call fu) (orc214b call fu) (orc214p call fu) (orc214m call fu)) 214 Go.Proofs.Tryz.f214 (codeOf Go.Proofs.Tryz.f214) call fu m ρ).map Prod.snd := by kernel_rfl
theorem x214 (call : Call) (fu : Nat) : ∀ (args : List AV) (s : St), F214 call fu args s = fnH Go.Proofs.Tryz.prog lv214 (Orc.mk (orc214c call fu) (orc214b call fu) (orc214p call fu) (orc214m call fu)) 214 Go.Proofs.Tryz.f214 (codeOf Go.Proofs.Tryz.f214) call fu args s
  | [], s => by kernel_rfl
  | [t0], s => by kernel_rfl
  | t0 :: t1 :: l, s => by kernel_rfl
theorem o217 (call : Call) (fu m : Nat) (ρ : Nat → IH) : (oblF Go.Proofs.Tryz.prog lv217 (Orc.mk (orc217c call fu) (orc217b call fu) (orc217p call fu) (orc217m call fu)) 217 Go.Proofs.Tryz.f217 (codeOf Go.Proofs.Tryz.f217) call fu m ρ).map Prod.fst = (oblF Go.Proofs.Tryz.prog lv217 (Orc.mk (orc217c call fu) (orc217b call fu) (orc217p call fu) (orc217m call fu)) 217 Go.Proofs.Tryz.f217 (codeOf Go.Proofs.Tryz.f217) call fu m ρ).map Prod.snd := by kernel_rfl
theorem x217 (call : Call) (fu : Nat) : ∀ (args : List AV) (s : St), F217 call fu args s = fnH Go.Proofs.Tryz.prog lv217 (Orc.mk (orc217c call fu) (orc217b call fu) (orc217p call fu) (orc217m call fu)) 217 Go.Proofs.Tryz.f217 (codeOf Go.Proofs.Tryz.f217) call fu args s
  | [], s => by kernel_rfl
  | [t0], s => by kernel_rfl
  | [t0, t1], s => by kernel_rfl
  | t0 :: t1 :: t2 :: l, s => by kernel_rfl
theorem o218 (call : Call) (fu m : Nat) (ρ : Nat → IH) : (oblF Go.Proofs.Tryz.prog lv218 (Orc.mk (orc218c call fu) (orc218b call fu) (orc218p call fu) (orc218m call fu)) 218 Go.Proofs.Tryz.f218 (codeOf Go.Proofs.Tryz.f218) call fu m ρ).map Prod.fst = (oblF Go.Proofs.Tryz.prog lv218 (Orc.mk (orc218c call fu) (orc218b call fu) (orc218p call fu) (orc218m call fu)) 218 Go.Proofs.Tryz.f218 (codeOf Go.Proofs.Tryz.f218) call fu m ρ).map Prod.snd := by kernel_rfl
theorem x218 (call : Call) (fu : Nat) : ∀ (args : List AV) (s : St), F218 call fu args s = fnH Go.Proofs.Tryz.prog lv218 (Orc.mk (orc218c call fu) (orc218b call fu) (orc218p call fu) (orc218m call fu)) 218 Go.Proofs.Tryz.f218 (codeOf Go.Proofs.Tryz.f218) call fu args s
  | [], s => by kernel_rfl
  | [t0], s => by kernel_rfl
  | [t0, t1], s => by kernel_rfl
  | t0 :: t1 :: t2 :: l, s => by kernel_rfl
theorem o219 (call : Call) (fu m : Nat) (ρ : Nat → IH) : (oblF Go.Proofs.Tryz.prog lv219 (Orc.mk (orc219c call fu) (orc219b call fu) (orc219p call fu) (orc219m call fu)) 219 Go.Proofs.Tryz.f219 (codeOf Go.Proofs.Tryz.f219) call fu m ρ).map Prod.fst = (oblF Go.Proofs.Tryz.prog lv219 (Orc.mk (orc219c call fu) (orc219b call fu) (orc219p call fu) (orc219m call fu)) 219 Go.Proofs.Tryz.f219 (codeOf Go.Proofs.Tryz.f219) call fu m ρ).map Prod.snd := by kernel_rfl
theorem x219 (call : Call) (fu : Nat) : ∀ (args : List AV) (s : St), F219 call fu args s = fnH Go.Proofs.Tryz.prog lv219 (Orc.mk (orc219c call fu) (orc219b call fu) (orc219p call fu) (orc219m call fu)) 219 Go.Proofs.Tryz.f219 (codeOf Go.Proofs.Tryz.f219) call fu args s
  | [], s => by kernel_rfl
  | [t0], s => by kernel_rfl
  | t0 :: t1 :: l, s => by kernel_rfl
theorem o235 (call : Call) (fu m : Nat) (ρ : Nat → IH) : (oblF Go.Proofs.Tryz.prog lv235 (Orc.mk (orc235c call fu) (orc235b call fu) (orc235p call fu) (orc235m call fu)) 235 Go.Proofs.Tryz.f235 (codeOf Go.Proofs.Tryz.f235) call fu m ρ).map Prod.fst = (oblF Go.Proofs.Tryz.prog lv235 (Orc.mk (orc235c call fu) (orc235b call fu) (orc235p call fu) (orc235m call fu)) 235 Go.Proofs.Tryz.f235 (codeOf Go.Proofs.Tryz.f235) call fu m ρ).map Prod.snd := by kernel_rfl
theorem x235 (call : Call) (fu : Nat) : ∀ (args : List AV) (s : St), F235 call fu args s = fnH Go.Proofs.Tryz.prog lv235 (Orc.mk (orc235c call fu) (orc235b call fu) (orc235p call fu) (orc235m call fu)) 235 Go.Proofs.Tryz.f235 (codeOf Go.Proofs.Tryz.f235) call fu args s
  | [], s => by kernel_rfl
  | [t0], s => by kernel_rfl
  | [t0, t1], s => by kernel_rfl
  | [t0, t1, t2], s => by kernel_rfl
  | t0 :: t1 :: t2 :: t3 :: l, s => by kernel_rfl
theorem o236 (call : Call) (fu m : Nat) (ρ : Nat → IH) : (oblF Go.Proofs.Tryz.prog lv236 (Orc.mk (orc236c call fu) (orc236b call fu) (orc236p call fu) (orc236m call fu)) 236 Go.Proofs.Tryz.f236 (codeOf Go.Proofs.Tryz.f236) call fu m ρ).map Prod.fst = (oblF Go.Proofs.Tryz.prog lv236 (Orc.mk (orc236c call fu) (orc236b call fu) (orc236p call fu) (orc236m call fu)) 236 Go.Proofs.Tryz.f236 (codeOf Go.Proofs.Tryz.f236) call fu m ρ).map Prod.snd := by kernel_rfl
theorem x236 (call : Call) (fu : Nat) : ∀ (args : List AV) (s : St), F236 call fu args s = fnH Go.Proofs.Tryz.prog lv236 (Orc.mk (orc236c call fu) (orc236b call fu) (orc236p call fu) (orc236m call fu)) 236 Go.Proofs.Tryz.f236 (codeOf Go.Proofs.Tryz.f236) call fu args s
  | [], s => by kernel_rfl
  | [t0], s => by kernel_rfl
  | t0 :: t1 :: l, s => by kernel_rfl
theorem o237 (call : Call) (fu m : Nat) (ρ : Nat → IH) : (oblF Go.Proofs.Tryz.prog lv237 (Orc.mk (orc237c call fu) (orc237b call fu) (orc237p call fu) (orc237m call fu)) 237 Go.Proofs.Tryz.f237 (codeOf Go.Proofs.Tryz.f237) call fu m ρ).map Prod.fst = (oblF Go.Proofs.Tryz.prog lv237 (Orc.mk (orc237c call fu) (orc237b call fu) (orc237p call fu) (orc237m call fu)) 237 Go.Proofs.Tryz.f237 (codeOf Go.Proofs.Tryz.f237) call fu m ρ).map Prod.snd := by kernel_rfl
theorem x237 (call : Call) (fu : Nat) : ∀ (args : List AV) (s : St), F237 call fu args s = fnH Go.Proofs.Tryz.prog lv237 (Orc.mk (orc237c call fu) (orc237b call fu) (orc237p call fu) (orc237m call fu)) 237 Go.Proofs.Tryz.f237 (codeOf Go.Proofs.Tryz.f237) call fu args s
  | [], s => by kernel_rfl
  | [t0], s => by kernel_rfl
  | t0 :: t1 :: l, s => by kernel_rfl
theorem o238 (call : Call) (fu m : Nat) (ρ : Nat → IH) : (oblF Go.Proofs.Tryz.prog lv238 (Orc.mk (orc238c call fu) (orc238b call fu) (orc238p call fu) (orc238m call fu)) 238 Go.Proofs.Tryz.f238 (codeOf Go.Proofs.Tryz.f238) call fu m ρ).map Prod.fst = (oblF Go.Proofs.Tryz.prog lv238 (Orc.mk (orc238c call fu) (orc238b call fu) (orc238p call fu) (orc238m call fu)) 238 Go.Proofs.Tryz.f238 (codeOf Go.Proofs.Tryz.f238) call fu m ρ).map Prod.snd := by kernel_rfl
theorem x238 (call : Call) (fu : Nat) : ∀ (args : List AV) (s : St), F238 call fu args s = fnH Go.Proofs.Tryz.prog lv238 (Orc.mk (orc238c call fu) (orc238b call fu) (orc238p call fu) (orc238m call fu)) 238 Go.Proofs.Tryz.f238 (codeOf Go.Proofs.Tryz.f238) call fu args s
  | [], s => by kernel_rfl
  | [t0], s => by kernel_rfl
  | [t0, t1], s => by kernel_rfl
  | [t0, t1, t2], s => by kernel_rfl
  | t0 :: t1 :: t2 :: t3 :: l, s => by kernel_rfl
end Go.Ev.V
