/- The table of functions; calls by fuel. -/
import Derived.Test.YtneeiakpoohneaaGreatDoorEvO
set_option linter.all false
set_option linter.unusedSimpArgs false
set_option linter.unusedVariables false
namespace Go.Ev
noncomputable section

structure FN where
  run : Call → Nat → List AV → St → Out
inductive FT where
  | e
  | n (l : FT) (v : FN) (r : FT)
def noF : FN := ⟨fun _ _ _ _ => .err⟩
def FT.get (t : FT) : Nat → FN :=
  FT.rec (motive := fun _ => Nat → FN) (fun _ => noF) (fun _ v _ gl gr k => Nat.rec (motive := fun _ => FN) v (fun k _ => Nat.rec (motive := fun _ => FN) (gl (Nat.div k 2)) (fun _ _ => gr (Nat.div k 2)) (Nat.mod k 2)) k) t
def callT (t : FT) (n : Nat) : Call := Nat.rec (motive := fun _ => Call) (fun _ _ _ => .err) (fun fu ih f args s => (t.get f).run ih fu args s) n
def FT.toList : FT → List (Nat × FN)
  | .e => []
  | .n l v r => (0, v) :: ((l.toList.map fun p => (1 + 2 * p.1, p.2)) ++ r.toList.map fun p => (2 + 2 * p.1, p.2))
inductive LT where
  | e
  | n (l : LT) (v : Nat → Nat → Option (List Tmp)) (r : LT)
def LT.get (t : LT) : Nat → Nat → Nat → Option (List Tmp) :=
  LT.rec (motive := fun _ => Nat → Nat → Nat → Option (List Tmp)) (fun _ _ _ => none) (fun _ v _ gl gr k => Nat.rec (motive := fun _ => Nat → Nat → Option (List Tmp)) v (fun k _ => Nat.rec (motive := fun _ => Nat → Nat → Option (List Tmp)) (gl (Nat.div k 2)) (fun _ _ => gr (Nat.div k 2)) (Nat.mod k 2)) k) t
theorem FT.get_e (k : Nat) : FT.get .e k = noF := rfl
theorem FT.get_zero (l r : FT) (v : FN) : FT.get (.n l v r) 0 = v := rfl
theorem FT.get_odd (l r : FT) (v : FN) (k : Nat) (h : k % 2 = 0) : FT.get (.n l v r) (k + 1) = FT.get l (k / 2) := by
  show Nat.rec (motive := fun _ => FN) (FT.get l (Nat.div k 2)) (fun _ _ => FT.get r (Nat.div k 2)) (Nat.mod k 2) = _
  have : Nat.mod k 2 = 0 := h
  rw [this]; rfl
theorem FT.get_even (l r : FT) (v : FN) (k : Nat) (h : k % 2 = 1) : FT.get (.n l v r) (k + 1) = FT.get r (k / 2) := by
  show Nat.rec (motive := fun _ => FN) (FT.get l (Nat.div k 2)) (fun _ _ => FT.get r (Nat.div k 2)) (Nat.mod k 2) = _
  have : Nat.mod k 2 = 1 := h
  rw [this]; rfl
theorem FT.get_mem : ∀ (t : FT) (k : Nat), t.get k = noF ∨ (k, t.get k) ∈ t.toList
  | .e, k => .inl rfl
  | .n l v r, 0 => .inr (by rw [FT.get_zero]; exact List.mem_cons_self ..)
  | .n l v r, k + 1 => by
    rcases Nat.mod_two_eq_zero_or_one k with h | h
    · rw [FT.get_odd _ _ _ _ h]
      rcases FT.get_mem l (k / 2) with g | g
      · exact .inl g
      · right
        refine List.mem_cons_of_mem _ (List.mem_append_left _ (List.mem_map.2 ⟨_, g, ?_⟩))
        simp only [Prod.mk.injEq, and_true]
        omega
    · rw [FT.get_even _ _ _ _ h]
      rcases FT.get_mem r (k / 2) with g | g
      · exact .inl g
      · right
        refine List.mem_cons_of_mem _ (List.mem_append_right _ (List.mem_map.2 ⟨_, g, ?_⟩))
        simp only [Prod.mk.injEq, and_true]
        omega

section
variable {P : Program} {lv : Nat → Nat → Nat → Option (List Tmp)} {F : Fence}
/-- an entry of the table is sound -/
def EntOk (F : Fence) (P : Program) (lv : Nat → Nat → Nat → Option (List Tmp)) (p : Nat × FN) : Prop :=
  (p.1 < 65536 ∧ (∀ call fu, CallSound F P lv call → FnSound F P lv p.1 (p.2.run call fu)) ∧
    ∀ call fu args s v s', p.2.run call fu args s = .ret v s' → (∃ l, AV.yield l ∈ args) → ∀ vals w, (callFunc p.1 vals).run P w = .ok (.enter p.1 vals) w) ∨
  ∃ f key, f < 65536 ∧ p.1 = f + 65536 * (key + 1) ∧ ∀ call fu, CallSound F P lv call → RndSound F P lv f key (p.2.run call fu)
theorem callT_sound {t : FT} (hs : P.funcs.size ≤ 65536) (hall : ∀ p ∈ t.toList, EntOk F P lv p) : ∀ n, CallSound F P lv (callT t n)
  | 0 => ⟨fun f args s v s' _ h => (by cases h), fun l f key st cap pend args s v s' _ h => (by cases h), fun f args s v s' _ h => (by cases h)⟩
  | n + 1 => by
    have ih := callT_sound hs hall n
    have hrun : ∀ f args s, callT t (n + 1) f args s = (t.get f).run (callT t n) n args s := fun _ _ _ => rfl
    refine ⟨fun f args s v s' hf h => ?_, fun l f key st cap pend args s v s' hb h β w b vals hr hbl hl => ?_, fun f args s v s' hf h hy => ?_⟩
    · rw [hrun] at h
      rcases t.get_mem f with g | g
      · rw [g] at h; cases h
      · rcases hall _ g with ⟨_, h1, _⟩ | ⟨f', key, _, hk, _⟩
        · exact h1 _ _ ih args s v s' h
        · simp only at hk; omega
    · rw [hrun] at h
      rcases t.get_mem (f + 65536 * (key + 1)) with g | g
      · rw [g] at h; cases h
      · rcases hall _ g with ⟨h0, _, _⟩ | ⟨f', key', hf', hk, h1⟩
        · simp only at h0; omega
        · have hfs : f < 65536 := by
            have hB := hr.blk l b hbl
            rw [hb] at hB
            obtain ⟨r, L, ps, asg, body, fn, c, g1, g2, g3, _⟩ := hB
            exact Nat.lt_of_lt_of_le (Array.getElem?_eq_some_iff.1 g3).1 hs
          simp only at hk
          have e1 : f = f' := by omega
          have e2 : key = key' := by omega
          subst e1 e2
          exact h1 _ _ ih l st cap pend args s v s' hb h β w b vals hr hbl hl
    · rw [hrun] at h
      rcases t.get_mem f with g | g
      · rw [g] at h; cases h
      · rcases hall _ g with ⟨_, _, h1⟩ | ⟨f', key, _, hk, _⟩
        · exact h1 _ _ args s v s' h hy
        · simp only at hk; omega

theorem ent_none (k : Nat) : EntOk F P lv (k, noF) := by
  rcases Nat.lt_or_ge k 65536 with h | h
  · exact .inl ⟨h, fun _ _ _ _ _ _ _ h => (by cases h), fun _ _ _ _ _ _ h => (by cases h)⟩
  · refine .inr ⟨k % 65536, k / 65536 - 1, by omega, by simp only; omega, fun _ _ _ => ?_⟩
    intro l st cap pend args s v s' _ h
    cases h
def AllE (F : Fence) (P : Program) (lv : Nat → Nat → Nat → Option (List Tmp)) : List (Nat × FN) → Prop
  | [] => True
  | p :: l => EntOk F P lv p ∧ AllE F P lv l
theorem AllE.nil : AllE F P lv [] := trivial
theorem AllE.cons {p : Nat × FN} {l : List (Nat × FN)} (h : EntOk F P lv p) (h' : AllE F P lv l) : AllE F P lv (p :: l) := ⟨h, h'⟩
theorem AllE.mem : ∀ {l : List (Nat × FN)}, AllE F P lv l → ∀ p ∈ l, EntOk F P lv p
  | [], _, p, hp => by cases hp
  | q :: l, h, p, hp => by
    rcases List.mem_cons.1 hp with rfl | hp
    · exact h.1
    · exact AllE.mem h.2 p hp
def nilE : Nat → K := fun _ _ _ => .err
/-- a function's run, cut into pieces -/
abbrev fnH (P : Program) (lf : Nat → Nat → Option (List Tmp)) (O : Orc) (f : FuncId) (fn : Func) (c : Code) (call : Call) (fu : Nat) (args : List AV) (s : St) : Out :=
  gd (Nat.ble (fn.params.size + fn.nfree) fn.ntmps && nodupN (keysRF c) && Nat.beq (lenL args) (fn.params.size + fn.nfree))
    (evH P call lf fu f fn.ntmps O [] 10000 c nilE (retH P fn.results.toList) (retH P fn.results.toList) s (argEnv (fn.params.size + fn.nfree) args))
def oblF (P : Program) (lf : Nat → Nat → Option (List Tmp)) (O : Orc) (f : FuncId) (fn : Func) (c : Code) (call : Call) (fu m : Nat) (ρ : Nat → IH) : List (K × K) :=
  obl P call lf fu f fn.ntmps O m 10000 ρ [] c nilE (retH P fn.results.toList) (retH P fn.results.toList)
def codeOf (fn : Func) : Code := match fn.body with
  | some c => c
  | none => .skip
theorem ent_fn (hF : F.depth = none) (hFf : ∀ f, F.fn f) (hro : F.round = none) (hm : P.follows .mixedOrders = true) {f : Nat} {fn : Func} {lf : Nat → Nat → Option (List Tmp)} {O : Call → Nat → Orc} {run : Call → Nat → List AV → St → Out}
    (hf : Nat.blt f 65536 = true) (hfn : P.funcs[f]? = some fn) (hbody : fn.body.isSome = true) (hcall : ∀ args w, (callFunc f args).run P w = .ok (.enter f args) w) (hlv : lv f = lf)
    (ho : ∀ call fu m ρ, (oblF P lf (O call fu) f fn (codeOf fn) call fu m ρ).map Prod.fst = (oblF P lf (O call fu) f fn (codeOf fn) call fu m ρ).map Prod.snd)
    (hr : ∀ call fu args s, run call fu args s = fnH P lf (O call fu) f fn (codeOf fn) call fu args s) : EntOk F P lv (f, ⟨run⟩) := by
  subst hlv
  have hb : fn.body = some (codeOf fn) := by
    unfold codeOf
    cases h : fn.body with
    | none => rw [h] at hbody; cases hbody
    | some c => rfl
  refine .inl ⟨blt_lt hf, fun call fu hcs args s v s' h => ?_, fun _ _ _ _ _ _ _ _ => hcall⟩
  refine fn_ok hcs hF hFf hro hm fu hfn hb hcall args s v s' ?_
  simp only at h
  rw [hr] at h
  unfold fnH at h
  rw [gd_eq] at h
  unfold fnA
  rw [← retH_eq]
  rw [evH_eq 10000 (codeOf fn) [] nilE _ _ fun m ρ => Eqs.of (ho call fu m ρ)] at h
  exact h
/-- a round's run, cut into pieces -/
abbrev rndH (P : Program) (lf : Nat → Nat → Option (List Tmp)) (O : Nat → Orc) (f key : Nat) (fn : Func) (ps : Array Tmp) (a b : Code) (call : Call) (fu : Nat) (l : Nat) (r : List AV) (s : St) : Out :=
  match lf key 0 with
  | some L => gd (noRF a && noRF b && ps.all (fun t => Nat.blt t fn.ntmps) && Nat.beq (lenL r) (ps.size + L.length))
      (evH P call lf fu f fn.ntmps (O l) [] 10000 a nilE (fun _ _ => .err)
        (fun s env => beginK s l fun s => evH P call lf fu f fn.ntmps (O l) [] 10000 b (fun i s _ => endK s l (.exit i)) (fun s _ => endK s l .ret) (fun s _ => endK s l .no) s env) s
        (setN ps.toList 0 r (mkN L ps.size r)))
  | none => .err
def oblR (P : Program) (lf : Nat → Nat → Option (List Tmp)) (O : Orc) (f : Nat) (fn : Func) (a b : Code) (call : Call) (fu l m : Nat) (ρ : Nat → IH) : List (K × K) :=
  obl P call lf fu f fn.ntmps O m 10000 ρ [] b (fun i s _ => endK s l (.exit i)) (fun s _ => endK s l .ret) (fun s _ => endK s l .no) ++
  obl P call lf fu f fn.ntmps O m 10000 ρ [] a nilE (fun _ _ => .err) (fun s env => beginK s l fun s => evH P call lf fu f fn.ntmps O [] 10000 b (fun i s _ => endK s l (.exit i)) (fun s _ => endK s l .ret) (fun s _ => endK s l .no) s env)
def rfOf (key : Nat) (fn : Func) : Array Tmp × Code × Code := match findRF key (codeOf fn) with
  | some r => r
  | none => (#[], .skip, .skip)
theorem ent_rnd (hF : F.depth = none) (hFf : ∀ f, F.fn f) (hm : P.follows .mixedOrders = true) {f key k : Nat} {fn : Func} {lf : Nat → Nat → Option (List Tmp)} {O : Call → Nat → Nat → Orc} {run : Call → Nat → List AV → St → Out}
    (hf : Nat.blt f 65536 = true) (hk : k = f + 65536 * (key + 1)) (hfn : P.funcs[f]? = some fn) (hbody : fn.body.isSome = true) (hrf : (findRF key (codeOf fn)).isSome = true) (hlv : lv f = lf)
    (ho : ∀ call fu l m ρ, (oblR P lf (O call fu l) f fn (rfOf key fn).2.1 (rfOf key fn).2.2 call fu l m ρ).map Prod.fst = (oblR P lf (O call fu l) f fn (rfOf key fn).2.1 (rfOf key fn).2.2 call fu l m ρ).map Prod.snd)
    (hr : ∀ call fu l r s, run call fu (.yield l :: r) s = rndH P lf (O call fu) f key fn (rfOf key fn).1 (rfOf key fn).2.1 (rfOf key fn).2.2 call fu l r s) : EntOk F P lv (k, ⟨run⟩) := by
  subst hlv
  have hb : fn.body = some (codeOf fn) := by
    unfold codeOf
    cases h : fn.body with
    | none => rw [h] at hbody; cases hbody
    | some c => rfl
  have hfi : findRF key (codeOf fn) = some ((rfOf key fn).1, (rfOf key fn).2.1, (rfOf key fn).2.2) := by
    unfold rfOf
    cases h : findRF key (codeOf fn) with
    | none => rw [h] at hrf; cases hrf
    | some c => rfl
  refine .inr ⟨f, key, blt_lt hf, hk, fun call fu hcs => ?_⟩
  intro l st cap pend args s v s' hbl h
  refine rnd_ok hcs hF hFf hm fu hfn hb hfi l st cap pend args s v s' hbl ?_
  simp only at h
  rw [hr] at h
  unfold rndH at h
  unfold rndA
  cases hL : lv f key 0 with
  | none => rw [hL] at h; cases h
  | some L =>
    rw [hL] at h
    simp only [gd_eq] at h ⊢
    have e1 := evH_eq (P := P) (call := call) (lf := lv f) (fu := fu) (fid := f) (n := fn.ntmps) (O := O call fu l) 10000 (rfOf key fn).2.2 [] (fun i s _ => endK s l (.exit i)) (fun s _ => endK s l .ret) (fun s _ => endK s l .no) fun m ρ => (Eqs.of (ho call fu l m ρ)).app.1
    have e2 := evH_eq (P := P) (call := call) (lf := lv f) (fu := fu) (fid := f) (n := fn.ntmps) (O := O call fu l) 10000 (rfOf key fn).2.1 [] nilE (fun _ _ => .err) _ fun m ρ => (Eqs.of (ho call fu l m ρ)).app.2
    rw [e2, e1] at h
    exact h
end
end
end Go.Ev
