/- One operation: all. -/
import Derived.Test.YtneeiakpoohneaaGreatDoorEvS13
set_option linter.all false
set_option linter.unusedSimpArgs false
set_option linter.unusedVariables false
namespace Go.Ev
section
variable {P : Program} {lv : Nat → Nat → Nat → Option (List Tmp)} {β : Bt} {s : St} {w : World} {out : Out} {F : Fence} {call : Call}

theorem buildSlice_ok {t : TypeId} {len : Nat} {ps : Array (Nat × Operand)} {n : Nat} {env : Env} {a : Act} {k : AV → St → Out} (hr : Rel P lv β s w) (he : EnvR β n env a)
    (h : evOp P call (.buildSlice t len ps) s env k = out) (ho : out ≠ .err) :
    ∃ v' x' β' s' w', (Instr.buildSlice t len (ps.map fun (i, x) => (i, a.eval x))).run P w = .ok v' w' ∧ Rel P lv β' s' w' ∧ Tr β s w β' s' w' ∧ VR β' x' v' ∧ k x' s' = out := by
  simp only [evOp] at h
  cases hu : P.underlying t with
  | none => simp only [und, hu] at h; exact absurd h.symm ho
  | some td =>
    simp only [und, hu] at h
    cases td <;> simp only at h <;> try exact absurd h.symm ho
    rename_i e
    obtain ⟨hc, h⟩ := of_bif h ho
    simp only [Bool.and_eq_true] at hc
    obtain ⟨hpos, i, z, hi, hz, hsz, hby, hcd, hv, hzs, hzp⟩ := elemOk_ok hc.1
    have hlim := ble_le hc.2
    have hpl : (ps.map fun (i, x) => (i, a.eval x)).toList = ps.toList.map fun x => (x.1, a.eval x.2) := by rw [Array.toList_map]
    have hlz : (ps.toList.map fun x => (x.1 * sizeT P e, sizeT P e, opv P env x.2)).length = (ps.toList.map fun x => (x.1, a.eval x.2)).length ∧ ∀ x ∈ (ps.toList.map fun x => (x.1 * sizeT P e, sizeT P e, opv P env x.2)).zip (ps.toList.map fun x => (x.1, a.eval x.2)),
        (fun i => some (i * sizeT P e, sizeT P e)) x.2.1 = some (x.1.1, x.1.2.1) ∧ VR β x.1.2.2 x.2.2 := by
      refine ⟨by simp, ?_⟩
      generalize ps.toList = l
      induction l with
      | nil => simp
      | cons y l ih =>
        intro x hx
        simp only [List.map_cons, List.zip_cons_cons, List.mem_cons] at hx
        rcases hx with rfl | hx
        · exact ⟨rfl, opv_vr hr he y.2⟩
        · exact ih x hx
    have hzd : zeros (zeroT P e) len ≠ .undef := by
      intro e'
      rw [e'] at h
      have : ∀ l kk, fillK .undef l kk = .err := by
        intro l kk
        induction l with
        | nil => rfl
        | cons q l ih =>
          obtain ⟨a, b, q⟩ := q
          simp only [fillK]
          cases hb : (Nat.beq (Row.len (cellsOf q)) b && Nat.ble (a + b) (Row.len AV.undef)) with
          | false => rfl
          | true => simpa [Row.splice, Row.sub, app_undef_left] using ih
      rw [this] at h
      exact ho h.symm
    obtain ⟨cs, c, f1, f2, f3, f4, f5⟩ := fillK_ok (β := β) (fun i => some (i * sizeT P e, sizeT P e)) [] _ _ (Builtin.zeroCells z.cells len) (ps.toList.map fun x => (x.1, a.eval x.2)) _ (zeros_ok (hv β) hcd len hzd) (mem_zeroCells hzp) hlz h ho
    rw [newK_eq] at f5
    have hlen := f2.length
    have hcl : cs.size = Row.len c := by simpa using hlen
    obtain ⟨r1, r2⟩ := hr.newRow (w' := w.alloc (.cells cs e)) (c := c) (cs := cs) (t := e) (fr := (0, 0)) rfl
      (by rw [List.take_of_length_le (by simp; omega)]; exact f2) (by omega) f3 (.inl (Nat.le_refl _))
    have hzc : (Array.range (len * sizeT P e)).map (fun x => z.cells[x % z.cells.size]!) = Builtin.zeroCells z.cells len := by simp only [Builtin.zeroCells, hzs]
    refine ⟨.slice (some ⟨w.heap.size, 0, none⟩) len len, _, _, _, _, ?_, r1, r2, ?_, f5⟩
    · have hnl : ¬ (len * sizeT P e > 2 ^ 24) := by omega
      by_cases h0 : len * sizeT P e = 0
      · have hl0 : len = 0 := by
          rcases Nat.mul_eq_zero.1 h0 with h | h
          · exact h
          · omega
        subst hl0
        have hz0 : Builtin.zeroCells z.cells 0 = #[] := by simp [Builtin.zeroCells]
        rw [hz0] at f1
        simp only [Instr.buildSlice, Sem.run_bind, run_underlying hu, run_sizeOf_pos hpos, Result.andThen_ok, Sem.run_ite, if_neg hnl, Nat.zero_mul, if_true, Sem.run_pure, hpl]
        have hr0 : (Array.range 0).map (fun x => (#[] : Array Value)[x % (#[] : Array Value).size]!) = #[] := by simp
        rw [hr0, f1]
        simp only [newRow, Sem.run_bind, run_newObj_alloc, Result.andThen_ok, Sem.run_pure]
        simp
      · simp only [Instr.buildSlice, Sem.run_bind, run_underlying hu, run_sizeOf_pos hpos, Result.andThen_ok, Sem.run_ite, if_neg hnl, if_neg h0, run_zero hi hz, Sem.run_pure, hpl, hzc, f1]
        simp only [newRow, Sem.run_bind, run_newObj_alloc, Result.andThen_ok, Sem.run_pure]
    · simp only [VR]
      exact ⟨_, _, len, Bt.add_self _ _, rfl, fun _ => rfl, fun _ => rfl, Nat.le_refl _, Nat.le_refl _, fun h => by simp at h⟩
theorem entryK_ok {x : AV} {v : Value} {k : AV → Out} (hr : Rel P lv β s w) (hx : VR β x v) (h : entryK s x k = out) (ho : out ≠ .err) : ∃ v' x', (Instr.entry v).run P w = .ok v' w ∧ VR β x' v' ∧ k x' = out := by
  cases x <;> simp only [entryK] at h <;> try exact absurd h.symm ho
  rename_i id o
  cases o with
  | succ o => exact absurd h.symm ho
  | zero =>
    simp only at h
    simp only [VR] at hx
    obtain ⟨b, hbi, rfl⟩ := hx
    have hB := hr.blk id b hbi
    cases hb : s.blk id <;> simp only [hb] at h <;> try exact absurd h.symm ho
    rename_i m ka va
    rw [hb] at hB
    obtain ⟨h0, h1, h2, bm, since, seen, clk, ents, e, g1, g2, g3, g4, g5, g6, g7⟩ := hB
    have q1 : (getObj b.blk).run P w = .ok (.mapIter (some bm.blk) since seen clk) w := by simp [getObj, Sem.run, g2]
    have q2 := MapKept.run_getObj_map (P := P) g3
    refine ⟨.tuple #[e.key, e.val], _, ?_, ?_, h⟩
    · rw [h0]
      simp [Instr.entry, q1, g4, q2, g5]
    · simp only [VR, LR]
      exact ⟨_, rfl, _, _, rfl, g6, _, _, rfl, g7, rfl⟩

theorem len2 {γ : Type} {l : List γ} (h : l.length = 2) : ∃ a b, l = [a, b] := by
  match l, h with
  | [a, b], _ => exact ⟨a, b, rfl⟩
theorem meth_ok {name : String} {t : TypeId} {f : FuncId} (hm : meth P name t = some f) : f < 65536 ∧ ∃ td i m, P.underlying t = some (.pointer td) ∧ P.info? t = some i ∧ i.methods.find? (·.name == name) = some m ∧ m.path.isEmpty = true ∧ m.func = some (f, true) := by
  unfold meth at hm
  cases hi : P.info? t with
  | none => rw [hi] at hm; cases hm
  | some i =>
    rw [hi] at hm
    simp only [Option.bind_some] at hm
    cases hf : i.methods.find? (·.name == name) with
    | none => rw [hf] at hm; cases hm
    | some m =>
      rw [hf] at hm
      simp only at hm
      split at hm
      · rename_i g td hp hfn hu
        cases hb : Nat.blt g 65536 with
        | false => rw [hb] at hm; cases hm
        | true =>
          rw [hb] at hm
          simp only [cond_true, Option.some.injEq] at hm
          subst hm
          exact ⟨blt_lt hb, td, i, m, hu, rfl, hf, hp, hfn⟩
      · cases hm
theorem run_method {name : String} {t : TypeId} {f : FuncId} {v : Value} (hm : meth P name t = some f) (d : Nat) : (method (d + 1) t v name).run P w = .ok (f, v) w := by
  obtain ⟨_, td, i, m, hu, hi, hf, hp, hfn⟩ := meth_ok hm
  have hpl : m.path.toList = [] := by
    have : m.path = #[] := by simpa using hp
    rw [this]
  unfold method
  simp only [Sem.run_bind, typeInfo, run_program, Result.andThen_ok, hi, Sem.run_pure, hf, hpl, follow, hfn, receiverAt, run_underlying hu, Place.get]

theorem evOp_sound {n : Nat} {env : Env} {a : Act} {o : Oper} {next : Act → World → Prop} {Q : Exit → Act → World → Prop} {k : AV → St → Out} (hc : CallSound F P lv call) (hF : F.depth = none)
    (hr : Rel P lv β s w) (he : EnvR β n env a) (h : evOp P call o.op s env k = out) (ho : out ≠ .err)
    (hn : ∀ β' s' w' v u, Rel P lv β' s' w' → Tr β s w β' s' w' → VR β' v u → k v s' = out → next (a.put o.dst u) w') :
    o.uponIn F 0 P a next Q ((o.semAt F.round a.eval).run P w) := by
  rw [Oper.semAt_eq _ _ _ (by
    intro c hop
    rw [hop] at h
    exact ho h.symm)]
  have fin : ∀ S : Sem Value, execOp a.eval o = (do pure (.value (← S))) → (∃ v' x' β' s' w', S.run P w = .ok v' w' ∧ Rel P lv β' s' w' ∧ Tr β s w β' s' w' ∧ VR β' x' v' ∧ k x' s' = out) → o.uponIn F 0 P a next Q ((execOp a.eval o).run P w) := by
    intro S hS ⟨v', x', β', s', w', q1, q2, q3, q4, q5⟩
    rw [hS, Sem.run_bind, q1]
    exact hn β' s' w' x' v' q2 q3 q4 q5
  have finB : ∀ S : Sem Value, execOp a.eval o = (do pure (.value (← S))) → (∃ v' x' s' w', S.run P w = .ok v' w' ∧ Rel P lv β s' w' ∧ Tr β s w β s' w' ∧ VR β x' v' ∧ k x' s' = out) → o.uponIn F 0 P a next Q ((execOp a.eval o).run P w) :=
    fun S hS ⟨v', x', s', w', q⟩ => fin S hS ⟨v', x', β, s', w', q⟩
  have finP : ∀ S : Sem Value, execOp a.eval o = (do pure (.value (← S))) → (∃ v' x', S.run P w = .ok v' w ∧ VR β x' v' ∧ k x' s = out) → o.uponIn F 0 P a next Q ((execOp a.eval o).run P w) :=
    fun S hS ⟨v', x', q1, q2, q3⟩ => fin S hS ⟨v', x', β, s, w, q1, hr, .refl _ _ _, q2, q3⟩
  have finV : ∀ v x, execOp a.eval o = pure (.value v) → VR β x v → k x s = out → o.uponIn F 0 P a next Q ((execOp a.eval o).run P w) := by
    intro v x hS hv hk
    rw [hS]
    exact hn β s w x v hr (.refl _ _ _) hv hk
  have finU : ∀ S : Sem Unit, execOp a.eval o = (do S; pure .skip) → (∃ s' w', S.run P w = .ok () w' ∧ Rel P lv β s' w' ∧ Tr β s w β s' w' ∧ k .undef s' = out) → o.uponIn F 0 P a next Q ((execOp a.eval o).run P w) := by
    intro S hS ⟨s', w', q1, q2, q3, q4⟩
    rw [hS, Sem.run_bind, q1]
    exact hn β s' w' .undef undef q2 q3 (by simp [VR]) q4
  have V := opv_vr (P := P) hr he
  cases hop : o.op <;> rw [hop] at h <;> try exact absurd h.symm ho
  case move x => exact finV _ _ (by simp [execOp, hop]) (V x) h
  case assign x => exact finV _ _ (by simp [execOp, hop]) (V x) h
  case pick c x y =>
    simp only [evOp] at h
    have hc' := V c
    cases hcv : opv P env c <;> rw [hcv] at h hc' <;> simp only [pickK] at h <;> try exact absurd h.symm ho
    rename_i b
    simp only [VR] at hc'
    refine fin (do pure (if ← asBool (a.eval c) then a.eval x else a.eval y)) (by simp [execOp, hop]) ?_
    rw [hc']
    cases b
    · exact ⟨_, _, β, s, w, rfl, hr, .refl _ _ _, V y, h⟩
    · exact ⟨_, _, β, s, w, rfl, hr, .refl _ _ _, V x, h⟩
  case alloc t =>
    simp only [evOp] at h
    obtain ⟨h1, h2⟩ := of_bif h ho
    exact fin _ (by first | (simp [execOp, hop]; done) | (simp [execOp, hop]; rfl)) (allocK_ok hr h1 h2 (.tuple #[]))
  case box t x => exact fin _ (by first | (simp [execOp, hop]; done) | (simp [execOp, hop]; rfl)) (boxK_ok hr (V x) h ho)
  case build t ps => exact finP _ (by first | (simp [execOp, hop]; done) | (simp [execOp, hop]; rfl)) (build_ok hr he h ho)
  case buildSlice t len ps => exact fin _ (by first | (simp [execOp, hop]; done) | (simp [execOp, hop]; rfl)) (buildSlice_ok hr he h ho)
  case load t x =>
    simp only [evOp] at h
    obtain ⟨h1, h2⟩ := of_bif h ho
    exact finP _ (by first | (simp [execOp, hop]; done) | (simp [execOp, hop]; rfl)) (loadK_ok hr h1 (V x) h2 ho)
  case store t x y =>
    simp only [evOp] at h
    obtain ⟨h1, h2⟩ := of_bif h ho
    exact finU _ (by first | (simp [execOp, hop]; done) | (simp [execOp, hop]; rfl)) (storeK_ok hr h1 (V x) (V y) h2 ho)
  case nilCheck x =>
    simp only [evOp] at h
    have hx := V x
    cases hxv : opv P env x <;> rw [hxv] at h hx <;> simp only [nilK] at h <;> try exact absurd h.symm ho
    simp only [VR] at hx
    obtain ⟨b, hb, hv⟩ := hx
    refine finV (a.eval x) _ ?_ (by rw [hv]; simp only [VR]; exact ⟨b, hb, rfl⟩) h
    simp [execOp, hop, hv]
  case binOp op t x y yt =>
    simp only [evOp] at h
    have hS : execOp a.eval o = (do pure (.value (← (do eqGuard op t x y (a.eval x) (a.eval y); binOp op t (a.eval x) (a.eval y) : Sem Value)))) := by
      simp [execOp, hop]
    cases hu : und P t <;> rw [hu] at h <;> simp only at h
    case int kd => exact finP _ hS (binK_ok (V x) (V y) h ho)
    case string =>
      cases op <;> simp only at h <;> try exact absurd h.symm ho
      · exact finP _ hS (addStrK_ok (V x) (V y) h ho)
      · exact finP _ hS (eqStr_ok (neg := false) rfl (V x) (V y) h ho)
      · exact finP _ hS (eqStr_ok (neg := true) rfl (V x) (V y) h ho)
    all_goals
      cases hd : eqD P t with
      | some d =>
        rw [hd] at h
        cases op <;> simp only at h <;> try exact absurd h.symm ho
        · exact finP _ hS (eqK_ok (neg := false) hr hd (V x) (V y) h ho)
        · exact finP _ hS (eqK_ok (neg := true) hr hd (V x) (V y) h ho)
      | none =>
        rw [hd] at h
        simp only at h
        cases hl : aggT P t with
        | none => rw [hl] at h; exact absurd h.symm ho
        | some l =>
          rw [hl] at h
          cases op <;> simp only at h <;> try exact absurd h.symm ho
          · exact finP _ hS (eqAggK_ok (neg := false) hl (V x) (V y) h ho)
          · exact finP _ hS (eqAggK_ok (neg := true) hl (V x) (V y) h ho)
  case unOp op t x =>
    simp only [evOp] at h
    cases op <;> (try simp only at h) <;> try exact absurd h.symm ho
    case not => exact finP (Op.unary .not (a.eval x)) (by first | (simp [execOp, hop]; done) | (simp [execOp, hop]; rfl)) (notK_ok (V x) h ho)
    case neg => exact finP (Op.unary .neg (a.eval x)) (by first | (simp [execOp, hop]; done) | (simp [execOp, hop]; rfl)) (negK_ok (V x) h ho)
    case xor => exact finP (Op.unary .xor (a.eval x)) (by first | (simp [execOp, hop]; done) | (simp [execOp, hop]; rfl)) (invK_ok (V x) h ho)
  case convert src dst x =>
    simp only [evOp] at h
    cases hs : und P src <;> rw [hs] at h <;> (try simp only at h) <;> try exact absurd h.symm ho
    · cases hd : und P dst <;> rw [hd] at h <;> simp only at h <;> try exact absurd h.symm ho
      exact finP (convert src dst (a.eval x)) (by first | (simp [execOp, hop]; done) | (simp [execOp, hop]; rfl)) (convK_ok (und_ok hs (by simp)) (und_ok hd (by simp)) (V x) h ho)
    · cases hd : und P dst <;> rw [hd] at h <;> simp only at h <;> try exact absurd h.symm ho
      · have hx := V x
        cases hxv : opv P env x <;> rw [hxv] at h hx <;> simp only [strK] at h <;> try exact absurd h.symm ho
        exact finP (convert src dst (a.eval x)) (by first | (simp [execOp, hop]; done) | (simp [execOp, hop]; rfl)) ⟨_, _, convStr_ok (und_ok hs (by simp)) (und_ok hd (by simp)) _ _ hx rfl, hx, h⟩
      · rename_i e
        split at h
        · rename_i he8
          exact fin (convert src dst (a.eval x)) (by first | (simp [execOp, hop]; done) | (simp [execOp, hop]; rfl)) (toBytesK_ok hr (und_ok hs (by simp)) (und_ok hd (by simp)) (und_ok he8 (by simp)) (V x) h ho)
        · exact absurd h.symm ho
    · cases hd : und P dst <;> rw [hd] at h <;> simp only at h <;> try exact absurd h.symm ho
      split at h
      · rename_i he8
        exact finP (convert src dst (a.eval x)) (by first | (simp [execOp, hop]; done) | (simp [execOp, hop]; rfl)) (toStrK_ok hr (und_ok hs (by simp)) (und_ok hd (by simp)) (und_ok he8 (by simp)) (V x) h ho)
      · exact absurd h.symm ho
  case sliceToArrayPointer t x =>
    simp only [evOp] at h
    cases hu : und P t <;> rw [hu] at h <;> simp only at h <;> try exact absurd h.symm ho
    exact finP (Instr.arrayAt t (a.eval x)) (by first | (simp [execOp, hop]; done) | (simp [execOp, hop]; rfl)) (s2ap_ok (und_ok hu (by simp)) (V x) h ho)
  case makeInterface t x =>
    simp only [evOp] at h
    cases hu : und P t <;> rw [hu] at h <;> simp only at h <;> try exact absurd h.symm ho
    exact finP (Instr.makeInterface t (a.eval x)) (by first | (simp [execOp, hop]; done) | (simp [execOp, hop]; rfl)) ⟨.iface t (a.eval x), _, by simp [Instr.makeInterface, run_underlying (und_ok hu (by simp))], by simp only [VR]; exact ⟨_, rfl, V x⟩, h⟩
  case makeFunc fn fs cs =>
    simp only [evOp] at h
    cases fn <;> simp only at h <;> try exact absurd h.symm ho
    rename_i f
    refine finP (Instr.makeFunc (.func f) (fs.map a.eval) (cs.map a.eval)) (by first | (simp [execOp, hop]; done) | (simp [execOp, hop]; rfl)) ⟨_, _, rfl, ?_, h⟩
    simp only [VR]
    exact ⟨_, _, rfl, by rw [Array.toList_map]; exact opvs_lr hr he _, by rw [Array.toList_map]; exact opvs_lr hr he _⟩
  case makeMap t r =>
    cases r with
    | some r => exact absurd h.symm ho
    | none =>
      simp only [evOp] at h
      exact fin (Instr.makeMap t none) (by first | (simp [execOp, hop]; done) | (simp [execOp, hop]; rfl)) (makeMap_ok hr h)
  case makeSlice t l c =>
    simp only [evOp] at h
    cases hu : und P t <;> rw [hu] at h <;> simp only at h <;> try exact absurd h.symm ho
    obtain ⟨h1, h2⟩ := of_bif h ho
    exact fin (Instr.makeSlice t (a.eval l) (a.eval c)) (by first | (simp [execOp, hop]; done) | (simp [execOp, hop]; rfl)) (makeSliceK_ok hr (und_ok hu (by simp)) h1 (V l) (V c) h2 ho)
  case slice t x lo hi mx =>
    simp only [evOp] at h
    cases hm : (mx.isSome && hi.isNone) with
    | true => rw [hm] at h; exact absurd h.symm ho
    | false =>
      rw [hm] at h
      simp only [cond_false] at h
      have hmh : mx.isSome = true → hi.isSome = true := by
        intro e; rw [e] at hm; cases hi <;> simp at hm ⊢
      cases hu : und P t <;> rw [hu] at h <;> simp only at h <;> try exact absurd h.symm ho
      · cases mx with
        | some mx => exact absurd h.symm ho
        | none => exact finP (Instr.sliceAt t (a.eval x) (lo.map a.eval) (hi.map a.eval) none) (by first | (simp [execOp, hop]; done) | (simp [execOp, hop]; rfl)) (sliceStr_ok (und_ok hu (by simp)) (optv_vr hr he lo) (optv_vr hr he hi) (V x) h ho)
      · obtain ⟨h1, h2⟩ := of_bif h ho
        exact finP (Instr.sliceAt t (a.eval x) (lo.map a.eval) (hi.map a.eval) (mx.map a.eval)) (by first | (simp [execOp, hop]; done) | (simp [execOp, hop]; rfl)) (sliceSl_ok (und_ok hu (by simp)) (elemOk_ok h1).1 (optv_vr hr he lo) (optv_vr hr he hi) (optv_vr hr he mx) (by rw [optMap_isSome, optMap_isSome]; exact hmh) (V x) h2 ho)
      · obtain ⟨h1, h2⟩ := of_bif h ho
        exact finP (Instr.sliceAt t (a.eval x) (lo.map a.eval) (hi.map a.eval) (mx.map a.eval)) (by first | (simp [execOp, hop]; done) | (simp [execOp, hop]; rfl)) (sliceArr_ok (und_ok hu (by simp)) (elemOk_ok h1).1 (optv_vr hr he lo) (optv_vr hr he hi) (optv_vr hr he mx) (by rw [optMap_isSome, optMap_isSome]; exact hmh) (V x) h2 ho)
  case fieldAddr t x f =>
    simp only [evOp] at h
    cases hu : und P t <;> rw [hu] at h <;> simp only at h <;> try exact absurd h.symm ho
    rename_i fs
    cases hf : fs[f]? with
    | none => rw [hf] at h; exact absurd h.symm ho
    | some fd =>
      rw [hf] at h
      obtain ⟨h1, h2⟩ := of_bif h ho
      exact finP (Instr.fieldAt t (a.eval x) f) (by first | (simp [execOp, hop]; done) | (simp [execOp, hop]; rfl)) (fieldAddr_ok (und_ok hu (by simp)) hf (blt_lt h1) (V x) h2 ho)
  case field t x f =>
    simp only [evOp] at h
    cases hu : und P t <;> rw [hu] at h <;> simp only at h <;> try exact absurd h.symm ho
    rename_i fs
    cases hf : fs[f]? with
    | none => rw [hf] at h; exact absurd h.symm ho
    | some fd =>
      rw [hf] at h
      obtain ⟨h1, h2⟩ := of_bif h ho
      exact finP (Instr.field t (a.eval x) f) (by first | (simp [execOp, hop]; done) | (simp [execOp, hop]; rfl)) (field_ok (und_ok hu (by simp)) hf h1 (V x) h2 ho)
  case indexAddr t x i =>
    simp only [evOp] at h
    cases hu : und P t <;> rw [hu] at h <;> simp only at h <;> try exact absurd h.symm ho
    · obtain ⟨h1, h2⟩ := of_bif h ho
      exact finP (Instr.indexAt t (a.eval x) (a.eval i)) (by first | (simp [execOp, hop]; done) | (simp [execOp, hop]; rfl)) (indexSl_ok (und_ok hu (by simp)) (elemOk_ok h1).1 (V x) (V i) h2 ho)
    · obtain ⟨h1, h2⟩ := of_bif h ho
      exact finP (Instr.indexAt t (a.eval x) (a.eval i)) (by first | (simp [execOp, hop]; done) | (simp [execOp, hop]; rfl)) (indexArr_ok (und_ok hu (by simp)) (elemOk_ok h1).1 (V x) (V i) h2 ho)
  case index t x i =>
    simp only [evOp] at h
    cases hu : und P t <;> rw [hu] at h <;> simp only at h <;> try exact absurd h.symm ho
    · exact finP (Instr.index t (a.eval x) (a.eval i)) (by first | (simp [execOp, hop]; done) | (simp [execOp, hop]; rfl)) (indexStr_ok (und_ok hu (by simp)) (V x) (V i) h ho)
    · obtain ⟨h1, h2⟩ := of_bif h ho
      exact finP (Instr.index t (a.eval x) (a.eval i)) (by first | (simp [execOp, hop]; done) | (simp [execOp, hop]; rfl)) (indexVal_ok (und_ok hu (by simp)) h1 (V x) (V i) h2 ho)
  case lookup t x i okF =>
    simp only [evOp] at h
    cases hu : und P t <;> rw [hu] at h <;> simp only at h <;> try exact absurd h.symm ho
    obtain ⟨h1, h2⟩ := of_bif h ho
    exact finP (Instr.lookup t (a.eval x) (a.eval i) okF) (by first | (simp [execOp, hop]; done) | (simp [execOp, hop]; rfl)) (lookupK_ok hr (und_ok hu (by simp)) h1 (V x) (V i) h2 ho)
  case mapUpdate t m i x =>
    simp only [evOp] at h
    cases hu : und P t <;> rw [hu] at h <;> simp only at h <;> try exact absurd h.symm ho
    exact finU (Instr.mapUpdate t (a.eval m) (a.eval i) (a.eval x)) (by first | (simp [execOp, hop]; done) | (simp [execOp, hop]; rfl)) (updateK_ok hr (und_ok hu (by simp)) (V m) (V i) (V x) h ho)
  case range t x =>
    simp only [evOp] at h
    cases hu : und P t <;> rw [hu] at h <;> simp only at h <;> try exact absurd h.symm ho
    · exact fin (Instr.range t (a.eval x)) (by first | (simp [execOp, hop]; done) | (simp [execOp, hop]; rfl)) (rangeStrK_ok hr (und_ok hu (by simp)) (V x) h ho)
    · exact fin (Instr.range t (a.eval x)) (by first | (simp [execOp, hop]; done) | (simp [execOp, hop]; rfl)) (rangeMapK_ok hr (und_ok hu (by simp)) (V x) h ho)
  case next x isStr =>
    cases isStr with
    | false => exact absurd h.symm ho
    | true =>
      simp only [evOp] at h
      exact finB (Instr.next (a.eval x) true o.type) (by first | (simp [execOp, hop]; done) | (simp [execOp, hop]; rfl)) (nextStrK_ok hr (V x) h ho)
  case entry x =>
    simp only [evOp] at h
    exact finP (Instr.entry (a.eval x)) (by first | (simp [execOp, hop]; done) | (simp [execOp, hop]; rfl)) (entryK_ok hr (V x) h ho)
  case extract x i =>
    simp only [evOp] at h
    exact finP (Instr.extract (a.eval x) i) (by first | (simp [execOp, hop]; done) | (simp [execOp, hop]; rfl)) (extract_ok (V x) h ho)
  case call c =>
    have hargs : (c.args.map a.eval).toList = c.args.toList.map a.eval := Array.toList_map
    have hal := opvs_lr (P := P) hr he c.args.toList
    rw [← hargs] at hal
    simp only [evOp] at h
    cases hcal : c.callee with
    | value f =>
      rw [hcal] at h
      have h' : callVK call (opv P env f) (c.args.toList.map (opv P env)) s k = out := by
        cases f with
        | func g =>
          simp only at h
          simp only [opv, callVK, appL_eq, List.nil_append, List.append_nil]
          exact h
        | _ => exact h
      have := callVK_ok (o := o) (a := a) (n := 0) (next := next) (Q := Q) hc hF hr (V f) hal h' ho hn
      have hS : execOp a.eval o = (do let d ← Deferred.ofValue (a.eval f) (c.args.map a.eval); invoke d.target d.args) := by
        simp [execOp, hop, resolve, hcal]
      rw [hS]
      exact this
    | invoke r name =>
      rw [hcal] at h
      simp only at h
      have hx := V r
      cases hrv : opv P env r <;> rw [hrv] at h hx <;> (try simp only [invokeK] at h) <;> try exact absurd h.symm ho
      rename_i t x
      cases hm : meth P name t with
      | none => rw [hm] at h; exact absurd h.symm ho
      | some f =>
        rw [hm] at h
        simp only at h
        obtain ⟨v, s', h2, h3⟩ := outK_ok h ho
        simp only [VR] at hx
        obtain ⟨y, hy, hyr⟩ := hx
        have hl : LR β (x :: c.args.toList.map (opv P env)) (#[y] ++ c.args.map a.eval).toList := by
          rw [Array.toList_append]
          simp only [LR]
          exact ⟨_, _, rfl, hyr, by simpa using hal⟩
        have hu := hc.fn f _ s v s' (meth_ok hm).1 h2 β w _ hr hl
        have hdep : P.types.size + Made.depth = (P.types.size + 99) + 1 := rfl
        have hex : (#[Value.iface t y] ++ c.args.map a.eval).extract 1 (#[Value.iface t y] ++ c.args.map a.eval).size = c.args.map a.eval := by
          apply Array.ext'
          rw [Array.toList_extract, List.extract_eq_take_drop, Array.toList_append]
          simp only [List.singleton_append, List.drop_succ_cons, List.drop_zero]
          rw [List.take_of_length_le (by simp)]
        have h0 : (#[Value.iface t y] ++ c.args.map a.eval)[0]? = some (Value.iface t y) := by rw [Array.getElem?_append_left (by simp)]; rfl
        have hS : (execOp a.eval o).run P w = (callFunc f (#[y] ++ c.args.map a.eval)).run P w := by
          simp only [execOp, hop, resolve, hcal, hy, Sem.run_bind, Sem.run_pure, Result.andThen_ok, invoke, h0, hex, callMethod, run_program, hdep, run_method hm]
        rw [hS]
        cases hres : (callFunc f (#[y] ++ c.args.map a.eval)).run P w with
        | halt hh w' => rw [hres] at hu; exact hu.elim
        | ok nx w' =>
          rw [hres] at hu
          cases nx <;> (try simp only [UponCall] at hu) <;> try exact hu.elim
          · obtain ⟨β', q1, q2, q3⟩ := hu
            exact hn β' s' w' v _ q1 q2 q3 h3
          · refine ⟨fun hs => (by rw [hF] at hs; cases hs), ?_⟩
            refine (hu.more (Nat.zero_le _)).mono ?_
            intro e w'' he
            cases e with
            | returned u => obtain ⟨β', q1, q2, q3⟩ := he; exact hn β' s' w'' v u q1 q2 q3 h3
            | panicked ch => exact he.elim
            | outgrown => exact he.elim
    | builtin b =>
      rw [hcal] at h
      obtain ⟨hsz, h⟩ := of_bif h ho
      have hsz := beq_eq hsz
      have hS : ∀ S : Sem Value, builtin b c.argTypes o.type (c.args.map fun | .const _ => true | _ => false) (c.args.map a.eval) = (do pure (.value (← S))) → execOp a.eval o = (do pure (.value (← S))) := by
        intro S e
        have : execOp a.eval o = builtin b c.argTypes o.type (c.args.map fun | .const _ => true | _ => false) (c.args.map a.eval) := by
          simp only [execOp, hop, resolve, hcal]; rfl
        rw [this, e]
      have two : ∀ {p q : Operand}, c.args.toList = [p, q] → ∃ t u, c.args = #[p, q] ∧ c.argTypes = #[t, u] ∧ c.args.map a.eval = #[a.eval p, a.eval q] := by
        intro p q e
        have h1 : c.args = #[p, q] := by apply Array.ext'; simpa using e
        have h2 : c.argTypes.toList.length = 2 := by rw [Array.length_toList, hsz, h1]; rfl
        obtain ⟨t, u, h3⟩ := len2 h2
        exact ⟨t, u, h1, by apply Array.ext'; simpa using h3, by rw [h1]; simp⟩
      have one : ∀ {p : Operand}, c.args.toList = [p] → ∃ t, c.args = #[p] ∧ c.argTypes = #[t] ∧ c.args.map a.eval = #[a.eval p] := by
        intro p e
        have h1 : c.args = #[p] := by apply Array.ext'; simpa using e
        have h2 : c.argTypes.toList.length = 1 := by rw [Array.length_toList, hsz, h1]; rfl
        obtain ⟨t, h3⟩ := List.length_eq_one_iff.1 h2
        exact ⟨t, h1, by apply Array.ext'; simpa using h3, by rw [h1]; simp⟩
      cases hal' : c.args.toList with
      | nil => rw [hal'] at h; cases b <;> exact absurd h.symm ho
      | cons p r1 =>
        cases r1 with
        | nil =>
          obtain ⟨t, e1, e2, e3⟩ := one hal'
          rw [hal'] at h
          simp only [List.map_cons, List.map_nil, evBuiltin] at h
          have ht0 : c.argTypes.getD 0 0 = t := by rw [e2]; rfl
          have hts : c.argTypes[0]? = some t := by rw [e2]; rfl
          cases b <;> simp only at h <;> try exact absurd h.symm ho
          case cap =>
            rw [ht0] at h
            cases hu : und P t <;> rw [hu] at h <;> (try simp only at h) <;> try exact absurd h.symm ho
            refine finP (Builtin.cap_ c.argTypes o.type (c.args.map a.eval)) (hS _ rfl) ?_
            rw [e2, e3]
            have hx := V p
            have hut := und_ok hu (by simp)
            cases hxv : opv P env p <;> rw [hxv] at h hx <;> (try simp only [capK] at h) <;> try exact absurd h.symm ho
            · simp only [VR] at hx
              rw [hx]
              exact ⟨Go.goInt 0, _, by simp [Builtin.cap_, run_underlying hut], by simp [Ev.goInt, Go.goInt, VR], h⟩
            · rename_i id off len cap sz op
              cases op with
              | true => exact absurd h.symm ho
              | false =>
                simp only [VR] at hx
                obtain ⟨b1, a1, c1, hb1, hv1, g1, g2, g3, g4, g5⟩ := hx
                have := g2 trivial
                subst this
                rw [hv1]
                exact ⟨Go.goInt c1, _, by simp [Builtin.cap_, run_underlying hut], by simp [Ev.goInt, Go.goInt, VR], h⟩
          case clear =>
            rw [ht0] at h
            cases hu : und P t <;> rw [hu] at h <;> (try simp only at h) <;> try exact absurd h.symm ho
            refine finB (Builtin.clear_ c.argTypes o.type (c.args.map a.eval)) (hS _ rfl) ?_
            rw [e3]
            exact clearK_ok hts hr (und_ok hu (by simp)) (V p) h ho
          case len =>
            rw [ht0] at h
            cases hu : und P t <;> rw [hu] at h <;> (try simp only at h) <;> try exact absurd h.symm ho
            case map kt e =>
              refine finP (Builtin.len_ c.argTypes o.type (c.args.map a.eval)) (hS _ rfl) ?_
              rw [e3]
              exact lenMapK_ok hts hr (und_ok hu (by simp)) (V p) h ho
            case array m e =>
              refine finP (Builtin.len_ c.argTypes o.type (c.args.map a.eval)) (hS _ rfl) ?_
              rw [e2, e3]
              exact ⟨Go.goInt m, _, by simp [Builtin.len_, run_underlying (und_ok hu (by simp))], by simp [Ev.goInt, Go.goInt, VR], h⟩
            case slice e =>
              refine finP (Builtin.len_ c.argTypes o.type (c.args.map a.eval)) (hS _ rfl) ?_
              rw [e2, e3]
              have hx := V p
              have hut := und_ok hu (by simp)
              cases hxv : opv P env p <;> rw [hxv] at h hx <;> (try simp only [lenSlK] at h) <;> try exact absurd h.symm ho
              · simp only [VR] at hx
                rw [hx]
                exact ⟨Go.goInt 0, _, by simp [Builtin.len_, run_underlying hut], by simp [Ev.goInt, Go.goInt, VR], h⟩
              · rename_i id off len cap sz op
                simp only [VR] at hx
                obtain ⟨b1, a1, c1, hb1, hv1, _⟩ := hx
                rw [hv1]
                exact ⟨Go.goInt len, _, by simp [Builtin.len_, run_underlying hut], by simp [Ev.goInt, Go.goInt, VR], h⟩
            case string =>
              refine finP (Builtin.len_ c.argTypes o.type (c.args.map a.eval)) (hS _ rfl) ?_
              rw [e2, e3]
              have hx := V p
              have hut := und_ok hu (by simp)
              cases hxv : opv P env p <;> rw [hxv] at h hx <;> (try simp only [lenStrK] at h) <;> try exact absurd h.symm ho
              rename_i n1 p1
              simp only [VR] at hx
              obtain ⟨u1, hv1, rfl, _⟩ := hx
              rw [hv1]
              exact ⟨Go.goInt u1.size, _, by simp [Builtin.len_, run_underlying hut], by simp [Ev.goInt, Go.goInt, VR], h⟩
        | cons q r2 =>
          cases r2 with
          | cons _ _ => rw [hal'] at h; cases b <;> exact absurd h.symm ho
          | nil =>
            obtain ⟨t, u, e1, e2, e3⟩ := two hal'
            rw [hal'] at h
            simp only [List.map_cons, List.map_nil, evBuiltin] at h
            have ht0 : c.argTypes.getD 0 0 = t := by rw [e2]; rfl
            have ht1 : c.argTypes.getD 1 0 = u := by rw [e2]; rfl
            have hts : c.argTypes[0]? = some t := by rw [e2]; rfl
            cases b <;> simp only at h <;> try exact absurd h.symm ho
            case append =>
              rw [ht0] at h
              cases hu : und P t <;> rw [hu] at h <;> simp only at h <;> try exact absurd h.symm ho
              rw [ht1] at h
              cases hv : und P u <;> rw [hv] at h <;> simp only at h <;> try exact absurd h.symm ho
              all_goals
                obtain ⟨h1, h2⟩ := of_bif h ho
                refine fin (Builtin.append_ c.argTypes o.type (c.args.map a.eval)) (hS _ rfl) ?_
                rw [e2, e3]
                first
                | exact appZK_ok hr (und_ok hu (by simp)) (und_ok hv (by simp)) h1 (V p) (V q) h2 ho
                | exact appK_ok hr (und_ok hu (by simp)) (und_ok hv (by simp)) (.inl rfl) h1 (V p) (V q) h2 ho
                | exact appK_ok hr (und_ok hu (by simp)) (und_ok hv (by simp)) (.inr ⟨_, rfl⟩) h1 (V p) (V q) h2 ho
            case copy =>
              rw [ht0] at h
              cases hu : und P t <;> rw [hu] at h <;> simp only at h <;> try exact absurd h.symm ho
              obtain ⟨h1, h2⟩ := of_bif h ho
              refine fin (Builtin.copy_ c.argTypes o.type (c.args.map a.eval)) (hS _ rfl) ?_
              rw [e2, e3]
              exact copyK_ok hr (und_ok hu (by simp)) h1 (V p) (V q) h2 ho
            case delete =>
              rw [ht0] at h
              cases hu : und P t <;> rw [hu] at h <;> simp only at h <;> try exact absurd h.symm ho
              refine finB (Builtin.delete_ c.argTypes o.type (c.args.map a.eval)) (hS _ rfl) ?_
              rw [e3]
              exact deleteK_ok hts hr (und_ok hu (by simp)) (V p) (V q) h ho
            case max =>
              refine finP (Builtin.max_ c.argTypes o.type (c.args.map a.eval)) (hS _ rfl) ?_
              rw [e3]
              exact maxK_ok (V p) (V q) h ho
            case min =>
              refine finP (Builtin.min_ c.argTypes o.type (c.args.map a.eval)) (hS _ rfl) ?_
              rw [e3]
              exact minK_ok (V p) (V q) h ho
end
end Go.Ev
