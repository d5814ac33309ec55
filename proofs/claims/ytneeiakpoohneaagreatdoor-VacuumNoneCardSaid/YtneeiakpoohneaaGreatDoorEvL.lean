/- From the table to a row's contract. -/
import Derived.Test.YtneeiakpoohneaaGreatDoorEvDel
import Derived.ProofKit
import Derived.OpenShut
import Derived.Deep.DeepHandedRow
import Derived.Lib.LaidTab
set_option linter.all false
set_option linter.unusedSimpArgs false
set_option linter.unusedVariables false
namespace Go.Ev
noncomputable section
/-- what was there is there, the same -/
def Old (W W' : World) : Prop := W'.os = W.os ∧ W'.output = W.output ∧ ∀ x, x < W.heap.size → W'.heap[x]? = W.heap[x]?
/-- the start: one variable is known, a row of numbers -/
def st0 (t : TypeId) (k : IntKind) (zs : List Int) : St := ⟨Hp.put .e 0 (.row t (.cells (zs.map fun z => .int k z))), 1, 1⟩
def bt0 (n : Nat) : Bt := fun i => if i = 0 then some ⟨0, 0, n⟩ else none
def isTrue (o : Out) : Bool := match o with
  | .ret v _ => match v with
    | .bool b => b
    | _ => false
  | _ => false
section
variable {P : Program} {lv : Nat → Nat → Nat → Option (List Tmp)}
theorem ints_lr (β : Bt) (k : IntKind) : ∀ zs : List Int, LR β (zs.map fun z => AV.int k z) (zs.map fun z => Value.int k z)
  | [] => by simp [LR]
  | z :: zs => by simp only [List.map_cons, LR]; exact ⟨_, _, rfl, by simp [VR], ints_lr β k zs⟩
theorem st0_blk (t : TypeId) (k : IntKind) (zs : List Int) (i : Nat) : (st0 t k zs).blk i = if i = 0 then .row t (.cells (zs.map fun z => .int k z)) else .none := by
  show Hp.get (Hp.put .e 0 (.row t (.cells (zs.map fun z => .int k z)))) i = _
  rw [Hp.get_put, Hp.get_e]
theorem start_rel {W : World} {t t' : TypeId} {k : IntKind} {zs : List Int} (hg : P.globals.size = 1) (h : W.heap[0]? = some (.cells (zs.map fun z => Value.int k z).toArray t')) : Rel P lv (bt0 zs.length) (st0 t k zs) W := by
  have hb := st0_blk t k zs
  have hlt : 0 < W.heap.size := (Array.getElem?_eq_some_iff.1 h).1
  refine ⟨fun i b hbi => ?_, fun i j b c hbi hci _ _ _ => ?_, fun i b hbi => ?_, Nat.le_refl _, fun i hi => ?_, fun g hgs => ⟨⟨0, 0, zs.length⟩, ?_, ?_, rfl⟩⟩
  · simp only [bt0] at hbi
    split at hbi
    · cases hbi; rename_i e; subst e; exact ⟨Nat.lt_succ_self _, hlt⟩
    · cases hbi
  · simp only [bt0] at hbi hci
    split at hbi
    · split at hci
      · simp_all
      · cases hci
    · cases hbi
  · simp only [bt0] at hbi
    split at hbi
    · cases hbi; rename_i e; subst e
      rw [hb, if_pos rfl]
      refine ⟨_, t', (0, 0), h, by simp, by simp [Row.len, lenL_eq], ?_, ?_, .inl (Nat.le_refl _)⟩
      · simp only [RowR, Row.len, lenL_eq, List.length_map, List.drop_zero]
        rw [List.take_of_length_le (by simp)]
        exact ints_lr _ k zs
      · intro v hv
        obtain ⟨z, _, rfl⟩ := List.mem_map.1 (by simpa using hv)
        rfl
    · cases hbi
  · have hi : 1 ≤ i := hi
    rw [hb, if_neg (by omega)]
  · have : g = 0 := by omega
    subst this; rfl
  · show 0 = g
    omega
theorem law_calls {W : World} {t t' : TypeId} {k : IntKind} {zs : List Int} {call : Call} {f : FuncId} {avs : List AV} {vals : Array Value} (hg : P.globals.size = 1) (h : W.heap[0]? = some (.cells (zs.map fun z => Value.int k z).toArray t')) (hcs : CallSound Fence.wide P lv call)
    (hf : Nat.blt f 65536 = true) (hcall : ∀ args w, (callFunc f args).run P w = .ok (.enter f args) w) (hrun : isTrue (call f avs (st0 t k zs)) = true) (hl : LR (bt0 zs.length) avs vals.toList) :
    Calls P f vals W fun e W' => e = .returned (.bool true) ∧ Old W W' := by
  have hret : ∃ s', call f avs (st0 t k zs) = .ret (.bool true) s' := by
    unfold isTrue at hrun
    split at hrun
    · rename_i v s heq
      split at hrun
      · rename_i b
        subst hrun
        exact ⟨s, heq⟩
      · cases hrun
    · cases hrun
  obtain ⟨s', hret⟩ := hret
  have hu := hcs.fn f avs _ _ s' (blt_lt hf) hret _ W vals (start_rel hg h) hl
  rw [hcall] at hu
  simp only [UponCall] at hu
  refine callsIn_wide.1 (hu.mono fun e w' he => ?_)
  cases e with
  | panicked _ => exact he.elim
  | outgrown => exact he.elim
  | returned u =>
    obtain ⟨β', r, tr, hv⟩ := he
    simp only [VR] at hv
    subst hv
    refine ⟨rfl, tr.io.1, tr.io.2, fun x hx => ?_⟩
    by_cases h0 : x = 0
    · subst h0
      refine tr.oldw 0 ⟨0, 0, zs.length⟩ (Nat.lt_succ_self _) rfl ?_
      rw [st0_blk, if_pos rfl]; simp
    · refine tr.frame x hx fun i b hb => ?_
      simp only [bt0] at hb
      split at hb
      · cases hb; exact Ne.symm h0
      · cases hb
end
open Go.ChangeShapes Go.WideShapes Go.ChangeAt Go.RowKit
theorem Old.keptBut {W W' : World} (h : Old W W') (may : MemPlace → Prop) : W.keptBut W' may := by
  refine ⟨h.1, h.2.1, fun i hi => ?_⟩
  rw [h.2.2 i hi]
  cases hq : W.heap[i]? with
  | none => trivial
  | some o => cases o <;> simp
theorem Old.frozen {W W' : World} (h : Old W W') (a : Addr) (ha : a.block < W.heap.size) : W'.frozen? a = W.frozen? a := by
  simp only [World.frozen?, h.2.2 a.block ha]
theorem post_of_old {H : Type} {enc : TypeId × Value → H} {P : Program} {f : Func} {s : ChangeSpec} {apart fresh handsOn again : Bool} {W W' : World} {args : Array Value} {v : Value} {ds gs : List (DataW H)} {before pa pv : List MemPlace}
    (hW : DataW.Whole enc P f.params.toList s.vars apart W args.toList ds gs before)
    (hres : ∀ (b : Nat) (sp : Nat → Bool) (hd : Bool), DataW.TrodAll enc P W' b sp hd f.resultTypes.toList (v.resultList f.resultTypes.size) (s.fn H (ds ++ gs)).results [])
    (hargs : ∀ sp : Nat → Bool, (∀ p ∈ before, sp p.block = true) → DataW.TrodAll enc P W' 0 sp true f.params.toList args.toList (s.fn H (ds ++ gs)).args pa)
    (hvars : ∀ sp : Nat → Bool, (∀ p ∈ before, sp p.block = true) → DataW.TrodVars enc P W' sp s.vars (s.fn H (ds ++ gs)).vars pv)
    (hps : before = pa ++ pv) (ho : Old W W')
    (hok : ∀ (j : Nat) (t : TypeId) (r : Value), f.resultTypes[j]? = some t → (v.resultList f.resultTypes.size)[j]? = some r → Value.okWide P W' .any 0 t r) :
    s.post enc P f apart fresh handsOn again W args v W' := by
  have hlt : ∀ p ∈ before, p.block < W.heap.size := fun p hp => hW.lt p hp
  have hold : ∀ p ∈ before, (fun b => decide (b < W.heap.size)) p.block = true := fun p hp => by simpa using hW.lt p hp
  refine ⟨ds, gs, before, [], pa, pv, hW, hres _ _ _, hargs _ hold, hvars _ hold, ho.keptBut _, fun _ => ?_⟩
  obtain ⟨_, _, _, _, _, hz, hn⟩ := hW
  refine ⟨hok, _, _, ([] ++ pa) ++ pv, ⟨[] ++ pa, pv, trodAll_append (hargs _ (fun _ _ => rfl)) (hres _ _ _), hvars _ (fun _ _ => rfl), rfl, ?_, ?_⟩, ?_⟩
  · intro b off hp
    have hb : MemPlace.cell b off ∈ before := by rw [hps]; simpa using hp
    rw [ho.frozen _ (hlt _ hb)]
    exact hz b off hb
  · intro ha
    have := hn ha
    rw [hps] at this
    simpa using this
  · intro p hp _
    rw [hps]
    simpa using hp
end
end Go.Ev
