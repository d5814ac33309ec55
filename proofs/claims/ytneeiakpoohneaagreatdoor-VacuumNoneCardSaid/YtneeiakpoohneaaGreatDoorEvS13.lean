/- One operation. -/
import Derived.Test.YtneeiakpoohneaaGreatDoorEvS12
import Derived.RangeFuncIn
set_option linter.all false
set_option linter.unusedSimpArgs false
set_option linter.unusedVariables false
namespace Go.Ev

/-- what a call of a function does -/
def UponCall (F : Fence) (P : Program) (R : Value → World → Prop) : Result Next → Prop
  | .ok (.value v) w' => R v w'
  | .ok (.enter f args) w' => CallsIn F 0 P f args w' fun
      | .returned u, w'' => R u w''
      | _, _ => False
  | _ => False
structure EnvR (β : Bt) (n : Nat) (env : Env) (a : Act) : Prop where
  size : a.tmps.size = n
  env : ∀ t, VR β (env t) (a.tmps.getD t undef)
structure CallSound (F : Fence) (P : Program) (lv : Nat → Nat → Nat → Option (List Tmp)) (call : Call) : Prop where
  fn : ∀ f args s v s', f < 65536 → call f args s = .ret v s' → ∀ β w vals, Rel P lv β s w → LR β args vals.toList →
    UponCall F P (fun u w' => ∃ β', Rel P lv β' s' w' ∧ Tr β s w β' s' w' ∧ VR β' v u) ((callFunc f vals).run P w)
  round : ∀ l f key st cap pend args s v s', s.blk l = .loop f key st cap pend → call (f + 65536 * (key + 1)) (.yield l :: appL args cap) s = .ret v s' → ∀ β w b vals, Rel P lv β s w → β l = some b → LR β args vals.toList →
    ∃ r, w.heap[b.blk]? = some (.loop r) ∧ vals.size = r.params.size ∧ RoundIn F 0 P b.blk r.fn ((r.params.zip vals).foldl (fun tmps (t, a) => tmps.setIfInBounds t a) r.tmps) r.assign r.body w fun
      | .returned u, w' => ∃ β', Rel P lv β' s' w' ∧ Tr β s w β' s' w' ∧ VR β' v u
      | _, _ => False
  enter : ∀ f args s v s', f < 65536 → call f args s = .ret v s' → (∃ l, AV.yield l ∈ args) → ∀ vals w, (callFunc f vals).run P w = .ok (.enter f vals) w

section
variable {P : Program} {lv : Nat → Nat → Nat → Option (List Tmp)} {β : Bt} {s : St} {w : World} {out : Out} {F : Fence} {call : Call}

theorem opv_vr {n : Nat} {env : Env} {a : Act} (hr : Rel P lv β s w) (he : EnvR β n env a) : ∀ x, VR β (opv P env x) (a.eval x)
  | .tmp t => he.env t
  | .const v => ofValue_vr v
  | .global g => by
    simp only [opv]
    cases hg : Nat.blt g P.globals.size with
    | false => simp [VR]
    | true =>
      simp only [cond_true, VR]
      obtain ⟨b, hb, h1, h2⟩ := hr.glob g (blt_lt hg)
      exact ⟨b, hb, by rw [h1, h2]; rfl⟩
  | .func f => by
    simp only [opv, VR]
    exact ⟨_, _, rfl, by simp [LR], by simp [LR]⟩
theorem opvs_lr {n : Nat} {env : Env} {a : Act} (hr : Rel P lv β s w) (he : EnvR β n env a) : ∀ xs : List Operand, LR β (xs.map (opv P env)) (xs.map a.eval)
  | [] => by simp [LR]
  | x :: xs => by simp only [List.map_cons, LR]; exact ⟨_, _, rfl, opv_vr hr he x, opvs_lr hr he xs⟩
theorem optv_vr {n : Nat} {env : Env} {a : Act} (hr : Rel P lv β s w) (he : EnvR β n env a) (x : Option Operand) : optVR β (x.map (opv P env)) (x.map a.eval) := by
  cases x with
  | none => trivial
  | some x => exact opv_vr hr he x
theorem outK_ok {o : Out} {k : AV → St → Out} (h : outK o k = out) (ho : out ≠ .err) : ∃ v s, o = .ret v s ∧ k v s = out := by
  cases o <;> simp only [outK] at h <;> first | exact ⟨_, _, rfl, h⟩ | exact absurd h.symm ho

theorem callVK_ok {n : Nat} {o : Oper} {a : Act} {next : Act → World → Prop} {Q : Exit → Act → World → Prop} (hc : CallSound F P lv call) (hF : F.depth = none) {x : AV} {vx : Value} {args : List AV} {vals : Array Value} {k : AV → St → Out}
    (hr : Rel P lv β s w) (hx : VR β x vx) (ha : LR β args vals.toList) (h : callVK call x args s k = out) (ho : out ≠ .err)
    (hn : ∀ β' s' w' v u, Rel P lv β' s' w' → Tr β s w β' s' w' → VR β' v u → k v s' = out → next (a.put o.dst u) w') :
    o.uponIn F n P a next Q ((do let d ← Deferred.ofValue vx vals; invoke d.target d.args : Sem Next).run P w) := by
  cases x <;> simp only [callVK] at h <;> try exact absurd h.symm ho
  case func f first cap =>
    obtain ⟨hf, h1⟩ := of_bif h ho
    have hf := blt_lt hf
    obtain ⟨v, s', h2, h3⟩ := outK_ok h1 ho
    simp only [VR] at hx
    obtain ⟨va, vc, rfl, l1, l2⟩ := hx
    rw [appL_eq, appL_eq] at h2
    have hl : LR β (first ++ (args ++ cap)) ((va ++ vals) ++ vc).toList := by
      rw [Array.toList_append, Array.toList_append, List.append_assoc]
      exact l1.append (ha.append l2)
    have hu := hc.fn f _ s v s' hf h2 β w _ hr hl
    simp only [Deferred.ofValue, Sem.run_bind, Sem.run_pure, Result.andThen_ok, invoke]
    cases hres : (callFunc f (va ++ vals ++ vc)).run P w with
    | halt hh w' => rw [hres] at hu; exact hu.elim
    | ok nx w' =>
      rw [hres] at hu
      cases nx <;> simp only [UponCall] at hu <;> try exact hu.elim
      · obtain ⟨β', q1, q2, q3⟩ := hu
        exact hn β' s' w' v _ q1 q2 q3 h3
      · refine ⟨fun hs => (by rw [hF] at hs; cases hs), ?_⟩
        refine (hu.more (Nat.zero_le _)).mono ?_
        intro e w'' he
        cases e with
        | returned u => obtain ⟨β', q1, q2, q3⟩ := he; exact hn β' s' w'' v u q1 q2 q3 h3
        | panicked ch => exact he.elim
        | outgrown => exact he.elim
  case yield l =>
    cases hb : s.blk l <;> simp only [hb] at h <;> try exact absurd h.symm ho
    rename_i f key st cap pend
    obtain ⟨v, s', h2, h3⟩ := outK_ok h ho
    simp only [VR] at hx
    obtain ⟨b, hbl, rfl⟩ := hx
    obtain ⟨r, g1, g2, g3⟩ := hc.round l f key st cap pend args s v s' hb h2 β w b vals hr hbl ha
    have hrun := Go.run_yield (P := P) (w := w) (args := #[] ++ vals) g1 (by simpa using g2)
    simp only [Deferred.ofValue, Sem.run_bind, Sem.run_pure, Result.andThen_ok, invoke, hrun]
    refine ⟨fun hs => (by rw [hF] at hs; cases hs), ?_⟩
    simp only [Array.empty_append]
    have g4 : RoundIn F (n - 1) P b.blk r.fn _ r.assign r.body w _ := ⟨g3.1, fun c cs hroom => g3.2 c cs (Fence.room_le hroom (by omega))⟩
    refine g4.mono ?_
    intro e w'' he
    cases e with
    | returned u => obtain ⟨β', q1, q2, q3⟩ := he; exact hn β' s' w'' v u q1 q2 q3 h3
    | panicked ch => exact he.elim
    | outgrown => exact he.elim
theorem toList_map {α β : Type} (f : α → β) (a : Array α) : (a.map f).toList = a.toList.map f := Array.toList_map
theorem optMap_isSome {α β : Type} (f : α → β) (x : Option α) : (x.map f).isSome = x.isSome := by cases x <;> rfl

theorem mapM_sizes (fs : List Field) (h : ∀ f ∈ fs, (P.info? f.type).isSome = true) (w : World) :
    (fs.mapM fun f => do pure (f.offset, ← sizeOf f.type) : Sem (List (Nat × Nat))).run P w = .ok (fs.map fun f => (f.offset, sizeT P f.type)) w := by
  induction fs with
  | nil => rfl
  | cons f fs ih =>
    obtain ⟨i, hi⟩ := Option.isSome_iff_exists.1 (h f (by simp))
    have hs : (sizeOf f.type).run P w = .ok (sizeT P f.type) w := by simp [sizeOf, typeInfo, hi, sizeT_eq hi]
    simp only [List.mapM_cons, Sem.run_bind, hs, Result.andThen_ok, Sem.run_pure, ih (fun g hg => h g (by simp [hg])), List.map_cons]

theorem build_ok {t : TypeId} {ps : Array (Nat × Operand)} {n : Nat} {env : Env} {a : Act} {k : AV → St → Out} (hr : Rel P lv β s w) (he : EnvR β n env a)
    (h : evOp P call (.build t ps) s env k = out) (ho : out ≠ .err) : ∃ v' x', (Instr.build t (ps.map fun (i, x) => (i, a.eval x))).run P w = .ok v' w ∧ VR β x' v' ∧ k x' s = out := by
  simp only [evOp] at h
  cases hu : P.underlying t with
  | none => simp only [und, hu] at h; exact absurd h.symm ho
  | some td =>
    simp only [und, hu] at h
    have fin : ∀ (place : Nat → Option (Nat × Nat)) (l : List (Nat × Nat × AV)) (i : TypeInfo) (z : Value), P.info? t = some i → i.zero = some z → VR β (zeroT P t) z → cellsOf (zeroT P t) ≠ .undef →
        (l.length = ps.toList.length ∧ ∀ x ∈ l.zip (ps.toList.map fun x => (x.1, a.eval x.2)), place x.2.1 = some (x.1.1, x.1.2.1) ∧ VR β x.1.2.2 x.2.2) →
        fillK (cellsOf (zeroT P t)) l (fun v => k v s) = out →
        ∃ cs x', Instr.fill place z.cells (ps.toList.map fun x => (x.1, a.eval x.2)) = some cs ∧ VR β x' (.agg cs) ∧ k x' s = out := by
      intro place l i z hi hz hv hc hl hf
      obtain ⟨cs, x, f1, f2, f3, f4, f5⟩ := fillK_ok (β := β) place [] l _ z.cells (ps.toList.map fun x => (x.1, a.eval x.2)) _ (hv.cells hc) (hv.plain hc) ⟨by rw [List.length_map]; exact hl.1, hl.2⟩ hf ho
      exact ⟨cs, x, f1, by have := f2.vr f3; rwa [Array.toArray_toList] at this, f5⟩
    have hlz : ∀ {γ : Type} (l : List γ) (f : γ → Nat × Nat × AV) (g : γ → Nat × Value) (Pr : (Nat × Nat × AV) → (Nat × Value) → Prop), (∀ x ∈ l, Pr (f x) (g x)) → (l.map f).length = l.length ∧ ∀ x ∈ (l.map f).zip (l.map g), Pr x.1 x.2 := by
      intro γ l f g Pr hp
      refine ⟨by simp, ?_⟩
      induction l with
      | nil => simp
      | cons y l ih =>
        intro x hx
        simp only [List.map_cons, List.zip_cons_cons, List.mem_cons] at hx
        rcases hx with rfl | hx
        · exact hp y (by simp)
        · exact ih (fun x hx => hp x (by simp [hx])) x hx
    have hpl : (ps.map fun (i, x) => (i, a.eval x)).toList = ps.toList.map fun x => (x.1, a.eval x.2) := by rw [Array.toList_map]
    cases td <;> simp only at h <;> try exact absurd h.symm ho
    case struct fs =>
      obtain ⟨hc, h⟩ := of_bif h ho
      simp only [Bool.and_eq_true, List.all_eq_true] at hc
      obtain ⟨⟨c1, c2⟩, c3⟩ := hc
      have hcd : cellsOf (zeroT P t) ≠ .undef := fun e => by rw [e] at c1; cases c1
      obtain ⟨i, z, hi, hz, hv⟩ := zeroT_vr (β := β) (P := P) (t := t) (fun e => hcd (cellsOf_undef e))
      obtain ⟨cs, x', f1, f2, f3⟩ := fin (fun i => (fs.map fun f => (f.offset, sizeT P f.type))[i]?) _ i z hi hz hv hcd (hlz ps.toList _ _ (fun x y => (fs.map fun f => (f.offset, sizeT P f.type))[y.1]? = some (x.1, x.2.1) ∧ VR β x.2.2 y.2) (fun x hx => by
        have hlt := blt_lt (c3 x hx)
        refine ⟨?_, opv_vr hr he x.2⟩
        simp [hlt, Array.getD])) h
      refine ⟨.agg cs, x', ?_, f2, f3⟩
      have hm : (fs.mapM fun f => do pure (f.offset, ← sizeOf f.type) : Sem (Array (Nat × Nat))).run P w = .ok (fs.map fun f => (f.offset, sizeT P f.type)) w := by
        have := mapM_sizes (P := P) fs.toList c2 w
        rw [Array.mapM_eq_mapM_toList]
        simp only [Sem.run_map, this, Result.andThen_ok]
        congr 1
        apply Array.ext'
        simp
      simp only [Instr.build, Sem.run_bind, run_zero hi hz, run_underlying hu, Result.andThen_ok, hm, hpl, f1, Sem.run_pure]
    case array n e =>
      obtain ⟨hc, h⟩ := of_bif h ho
      simp only [Bool.and_eq_true] at hc
      obtain ⟨c1, c2⟩ := hc
      have hcd : cellsOf (zeroT P t) ≠ .undef := fun e => by rw [e] at c1; cases c1
      obtain ⟨i, z, hi, hz, hv⟩ := zeroT_vr (β := β) (P := P) (t := t) (fun e => hcd (cellsOf_undef e))
      obtain ⟨ie, hie⟩ := Option.isSome_iff_exists.1 c2
      have hs : (sizeOf e).run P w = .ok (sizeT P e) w := by simp [sizeOf, typeInfo, hie, sizeT_eq hie]
      obtain ⟨cs, x', f1, f2, f3⟩ := fin (fun i => some (i * sizeT P e, sizeT P e)) _ i z hi hz hv hcd (hlz ps.toList _ _ (fun x y => some (y.1 * sizeT P e, sizeT P e) = some (x.1, x.2.1) ∧ VR β x.2.2 y.2) (fun x hx => ⟨rfl, opv_vr hr he x.2⟩)) h
      refine ⟨.agg cs, x', ?_, f2, f3⟩
      simp only [Instr.build, Sem.run_bind, run_zero hi hz, run_underlying hu, Result.andThen_ok, hs, hpl, f1, Sem.run_pure]
end
end Go.Ev
