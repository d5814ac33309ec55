/- Ranges over functions; functions; rounds. -/
import Derived.Test.YtneeiakpoohneaaGreatDoorEvS17
import Derived.Test.YtneeiakpoohneaaGreatDoorEvD4
import Derived.RangeFuncRecord
set_option linter.all false
set_option linter.unusedSimpArgs false
set_option linter.unusedVariables false
namespace Go.Ev

theorem allRF.imp {p q : Array Tmp → Code → Code → Prop} (h : ∀ ps a b, p ps a b → q ps a b) : ∀ {c : Code}, allRF p c → allRF q c
  | .seq a b, hc => ⟨allRF.imp h hc.1, allRF.imp h hc.2⟩
  | .cond _ a b, hc => ⟨allRF.imp h hc.1, allRF.imp h hc.2⟩
  | .block _ b, hc => allRF.imp (c := b) h hc
  | .loop b, hc => allRF.imp (c := b) h hc
  | .scope b, hc => allRF.imp (c := b) h hc
  | .rangeFunc _ ps a b, hc => ⟨h _ _ _ hc.1, allRF.imp h hc.2.1, allRF.imp h hc.2.2⟩
  | .skip, _ | .region .., _ | .exit _, _ | .goto _, _ | .label _, _ | .ret, _ | .refuse _, _ => trivial
theorem find_none {id : Nat} : ∀ {c : Code}, id ∉ keysRF c → findRF id c = none
  | .seq a b, h => by
    simp only [keysRF, List.mem_append, not_or] at h
    simp only [findRF, find_none h.1, find_none h.2]
  | .cond _ a b, h => by
    simp only [keysRF, List.mem_append, not_or] at h
    simp only [findRF, find_none h.1, find_none h.2]
  | .block _ b, h => by simp only [keysRF] at h; simp only [findRF, find_none h]
  | .loop b, h => by simp only [keysRF] at h; simp only [findRF, find_none h]
  | .scope b, h => by simp only [keysRF] at h; simp only [findRF, find_none h]
  | .rangeFunc _ ps a b, h => by
    simp only [keysRF] at h
    simp only [findRF]
    cases hf : firstReg (.seq a b) with
    | none => rfl
    | some x =>
      rw [hf] at h
      simp only [List.mem_cons, List.mem_append, not_or] at h
      simp only
      rw [if_neg (fun e => h.1 e.symm), find_none h.2.1, find_none h.2.2]
  | .skip, _ | .region .., _ | .exit _, _ | .goto _, _ | .label _, _ | .ret, _ | .refuse _, _ => rfl
theorem nodup_app {l m : List Nat} (h : (l ++ m).Nodup) {x : Nat} (hx : x ∈ m) : x ∉ l := fun hl => by
  have := (List.nodup_append.1 h).2.2 x hl x hx
  exact this rfl
theorem find_all' : ∀ (c : Code), allRF (fun ps a b => ∀ id, firstReg (.seq a b) = some id → id ∈ keysRF c ∧ ((keysRF c).Nodup → findRF id c = some (ps, a, b))) c
  | .seq a b => by
    refine ⟨allRF.imp ?_ (find_all' a), allRF.imp ?_ (find_all' b)⟩
    · intro ps x y h id hid
      obtain ⟨h1, h2⟩ := h id hid
      refine ⟨List.mem_append_left _ h1, fun hn => ?_⟩
      simp only [findRF, h2 (List.nodup_append.1 hn).1]
    · intro ps x y h id hid
      obtain ⟨h1, h2⟩ := h id hid
      refine ⟨List.mem_append_right _ h1, fun hn => ?_⟩
      simp only [findRF, find_none (nodup_app hn h1), h2 (List.nodup_append.1 hn).2.1]
  | .cond _ a b => by
    refine ⟨allRF.imp ?_ (find_all' a), allRF.imp ?_ (find_all' b)⟩
    · intro ps x y h id hid
      obtain ⟨h1, h2⟩ := h id hid
      refine ⟨List.mem_append_left _ h1, fun hn => ?_⟩
      simp only [findRF, h2 (List.nodup_append.1 hn).1]
    · intro ps x y h id hid
      obtain ⟨h1, h2⟩ := h id hid
      refine ⟨List.mem_append_right _ h1, fun hn => ?_⟩
      simp only [findRF, find_none (nodup_app hn h1), h2 (List.nodup_append.1 hn).2.1]
  | .block _ b => find_all' b
  | .loop b => find_all' b
  | .scope b => find_all' b
  | .rangeFunc g ps a b => by
    refine ⟨fun id hid => ?_, allRF.imp ?_ (find_all' a), allRF.imp ?_ (find_all' b)⟩
    · simp only [keysRF, hid]
      exact ⟨List.mem_cons_self .., fun _ => by simp only [findRF, hid, if_pos]⟩
    · intro ps x y h id hid
      obtain ⟨h1, h2⟩ := h id hid
      have hsome : ∃ i, firstReg (.seq a b) = some i := by
        cases hf : firstReg (.seq a b) with
        | some i => exact ⟨i, rfl⟩
        | none => exact absurd h1 (by rw [keys_first (by simp only [firstReg] at hf; cases ha : firstReg a <;> simp_all)]; simp)
      obtain ⟨i, hi⟩ := hsome
      simp only [keysRF, hi]
      refine ⟨List.mem_cons_of_mem _ (List.mem_append_left _ h1), fun hn => ?_⟩
      have hn' := List.nodup_cons.1 hn
      simp only [findRF, hi]
      rw [if_neg (fun e => hn'.1 (by rw [e]; exact List.mem_append_left _ h1)), h2 (List.nodup_append.1 hn'.2).1]
    · intro ps x y h id hid
      obtain ⟨h1, h2⟩ := h id hid
      have hsome : ∃ i, firstReg (.seq a b) = some i := by
        cases hf : firstReg (.seq a b) with
        | some i => exact ⟨i, rfl⟩
        | none => exact absurd h1 (by rw [keys_first (by simp only [firstReg] at hf; cases ha : firstReg a <;> simp_all)]; simp)
      obtain ⟨i, hi⟩ := hsome
      simp only [keysRF, hi]
      refine ⟨List.mem_cons_of_mem _ (List.mem_append_right _ h1), fun hn => ?_⟩
      have hn' := List.nodup_cons.1 hn
      simp only [findRF, hi]
      rw [if_neg (fun e => hn'.1 (by rw [e]; exact List.mem_append_right _ h1)), find_none (nodup_app hn'.2 h1), h2 (List.nodup_append.1 hn'.2).2.1]
  | .skip | .region .. | .exit _ | .goto _ | .label _ | .ret | .refuse _ => trivial
where
  keys_first : ∀ {c : Code}, firstReg c = none → keysRF c = []
    | .seq a b, h => by
      simp only [firstReg] at h
      cases ha : firstReg a with
      | some i => rw [ha] at h; cases h
      | none => rw [ha] at h; simp only [keysRF, keys_first ha, keys_first h, List.append_nil]
    | .cond _ a b, h => by
      simp only [firstReg] at h
      cases ha : firstReg a with
      | some i => rw [ha] at h; cases h
      | none => rw [ha] at h; simp only [keysRF, keys_first ha, keys_first h, List.append_nil]
    | .block _ b, h => keys_first (c := b) h
    | .loop b, h => keys_first (c := b) h
    | .scope b, h => keys_first (c := b) h
    | .rangeFunc _ ps a b, h => by
      simp only [firstReg] at h
      have : firstReg (.seq a b) = none := by simp only [firstReg]; exact h
      simp only [keysRF, this]
    | .skip, _ | .region .., _ | .exit _, _ | .goto _, _ | .label _, _ | .ret, _ | .refuse _, _ => rfl
theorem nodupN_ok : ∀ {l : List Nat}, nodupN l = true → l.Nodup
  | [], _ => List.nodup_nil
  | x :: l, h => by
    simp only [nodupN, Bool.and_eq_true, Bool.not_eq_true'] at h
    refine List.nodup_cons.2 ⟨fun hx => ?_, nodupN_ok h.2⟩
    rw [any_beq.2 hx] at h
    cases h.1
theorem find_all {c : Code} (h : nodupN (keysRF c) = true) : allRF (fun ps a b => ∀ id, firstReg (.seq a b) = some id → findRF id c = some (ps, a, b)) c :=
  (find_all' c).imp fun ps a b hp id hid => (hp id hid).2 (nodupN_ok h)

section
variable {P : Program} {lv : Nat → Nat → Nat → Option (List Tmp)} {F : Fence} {call : Call} {nb n : Nat} {out : Out} {β₀ : Bt} {s₀ : St} {w₀ : World} {β : Bt} {s : St} {w : World}

theorem Rel.push {w' : World} {o : Obj} (hr : Rel P lv β s w) (hh : w'.heap = w.heap.push o) (hio : w'.os = w.os ∧ w'.output = w.output := by exact ⟨rfl, rfl⟩) : Rel P lv β s w' ∧ Tr β s w β s w' := by
  have hold : ∀ x, x < w.heap.size → w'.heap[x]? = w.heap[x]? := fun x hx => by rw [hh, Array.getElem?_push, if_neg (by omega)]
  refine ⟨⟨fun i b hb => ⟨(hr.lt i b hb).1, by have := (hr.lt i b hb).2; rw [hh]; simp; omega⟩, hr.inj, fun i b hb => ?_, hr.ro, hr.fresh, hr.glob⟩, .refl _, fun i _ h => ⟨h, rfl⟩, by rw [hh]; simp, Nat.le_refl _, rfl, fun _ _ => rfl, fun _ _ h => .inl h, fun x hx _ => hold x hx, fun i b _ hb _ => hold _ (hr.lt i b hb).2, fun i b hb hd => ⟨hd, hold _ (hr.lt i b hb).2⟩, hio⟩
  exact (hr.blk i b hb).mono (.refl _) (hold _ (hr.lt i b hb).2) fun m k v bm _ hm h1 h2 => ⟨h1, h2, hold _ (hr.lt m bm hm).2⟩
/-- a block that no id stands for is changed -/
theorem Rel.other {w' : World} {r : Nat} (hr : Rel P lv β s w) (hn : ∀ i b, β i = some b → b.blk ≠ r) (hs : w'.heap.size = w.heap.size) (hh : ∀ x, x ≠ r → w'.heap[x]? = w.heap[x]?) : Rel P lv β s w' :=
  ⟨fun i b hb => ⟨(hr.lt i b hb).1, by rw [hs]; exact (hr.lt i b hb).2⟩, hr.inj, fun i b hb => (hr.blk i b hb).mono (.refl _) (hh _ (hn i b hb)) fun m k v bm _ hm h1 h2 => ⟨h1, h2, hh _ (hn m bm hm)⟩, hr.ro, hr.fresh, hr.glob⟩
theorem Tr.other {w' : World} {r : Nat} (ht : Tr β₀ s₀ w₀ β s w) (hr₀ : ∀ i b, β₀ i = some b → b.blk < w₀.heap.size) (hr : w₀.heap.size ≤ r) (hs : w'.heap.size = w.heap.size) (hh : ∀ x, x ≠ r → w'.heap[x]? = w.heap[x]?) (hio : w'.os = w.os ∧ w'.output = w.output := by exact ⟨rfl, rfl⟩) : Tr β₀ s₀ w₀ β s w' :=
  ⟨ht.le, ht.late, by rw [hs]; exact ht.size, ht.next, ht.ro, ht.old, ht.new, fun x hx hn => by rw [hh x (by omega)]; exact ht.frame x hx hn, fun i b h1 h2 h3 => by
    have := hr₀ i b h2
    rw [hh _ (by omega)]; exact ht.oldw i b h1 h2 h3, fun i b hb hd => by
    have := hr₀ i b hb
    rw [hh _ (by omega)]; exact ht.dark i b hb hd, hio.1.trans ht.io.1, hio.2.trans ht.io.2⟩

theorem overK_ok {l : Nat} {k : Jp → St → Out} (h : overK s l k = out) (ho : out ≠ .err) :
    ∃ f key st cap j, s.blk l = .loop f key st cap j ∧ s.ro ≤ l ∧ ((st = .ready ∧ k .no (s.put l (.loop f key .exhausted cap .no)) = out) ∨ (st = .done ∧ k j (s.put l (.loop f key .exhausted cap .no)) = out)) := by
  unfold overK at h
  cases hb : s.blk l <;> rw [hb] at h <;> simp only at h <;> try exact absurd h.symm ho
  rename_i f key st cap j
  cases st <;> simp only at h <;> try exact absurd h.symm ho
  · obtain ⟨h1, h2⟩ := putK_ok h ho
    exact ⟨f, key, _, cap, j, rfl, h1, .inl ⟨rfl, h2⟩⟩
  · obtain ⟨h1, h2⟩ := putK_ok h ho
    exact ⟨f, key, _, cap, j, rfl, h1, .inr ⟨rfl, h2⟩⟩

theorem rangeFunc_ok (hcs : CallSound F P lv call) (hF : F.depth = none) (hFf : ∀ f, F.fn f) (hro : F.round = none) (ho : out ≠ .err) {fid : Nat} {fn : Func} {c₀ : Code} {g : Operand} {ps : Array Tmp} {x y : Code} {id : Nat} {L : List Tmp} (hL : lv fid id 0 = some L)
    (hfn : P.funcs[fid]? = some fn) (hbody : fn.body = some c₀) (hnt : fn.ntmps = n) (hfind : findRF id c₀ = some (ps, x, y)) (hnb : nb ≤ w₀.heap.size) {Q : Exit → Act → World → Prop} {ex : Nat → K} {rt nx : K} (hx : SX P lv nb n out β₀ s₀ w₀ ex rt nx Q) :
    SK P lv nb n out β₀ s₀ w₀ (fun s env => newK s (.loop fid id .ready (L.map env) .no) fun l s => rangeK call (opv P env g) l s fun j s => jumpK j (nx s env) (rt s env) (fun i => ex i s env)) (fun a w => (Code.rangeFunc g ps x y).wpIn F 0 P Q a w) := by
  intro β s env a w hok ht h
  simp only [newK_eq] at h
  unfold rangeK at h
  have hg := opv_vr (P := P) hok.rel hok.env g
  cases hgv : opv P env g <;> rw [hgv] at h hg <;> simp only at h <;> try exact absurd h.symm ho
  rename_i gf first cap
  obtain ⟨hgl, h⟩ := of_bif h ho
  have hgl := blt_lt hgl
  obtain ⟨v, s', hcall, hover⟩ := outK_ok h ho
  simp only [VR] at hg
  obtain ⟨va, vc, hgv', lva, lvc⟩ := hg
  refine wpIn_rangeFunc fun fnv _ => ?_
  -- the blocks
  let o1 : Obj := .deferred (some [])
  let o2 : Obj := .loop { state := .ready, pending := none, fn := fnv, tmps := a.tmps, params := ps, assign := x, body := y, defers := w.heap.size }
  obtain ⟨r1, t1⟩ := hok.rel.push (w' := w.alloc o1) (o := o1) rfl
  have hB : BlkR P lv (β.add s.next ⟨w.heap.size + 1, 0, 0⟩) (s.new (.loop fid id .ready (L.map env) .no)) ((w.alloc o1).alloc o2) ⟨w.heap.size + 1, 0, 0⟩ (.loop fid id .ready (L.map env) .no) := by
    have hnew : ((w.alloc o1).alloc o2).heap[w.heap.size + 1]? = some o2 := by
      have := alloc_new' (w.alloc o1) o2
      rw [alloc_size] at this
      exact this
    refine ⟨_, L, ps, x, y, fn, c₀, hnew, hL, hfn, hbody, hfind, rfl, rfl, rfl, rfl, fun h => (by cases h), fun _ => rfl, by rw [hnt]; exact hok.env.size, by simp, fun z hz => ?_⟩
    have hn : β s.next = none := hok.rel.none_next (Nat.le_refl _)
    have : ∀ (L : List Tmp) z, z ∈ List.zip L (L.map env) → z.2 = env z.1 := by
      intro L
      induction L with
      | nil => intro z hz; cases hz
      | cons t L ih =>
        intro z hz
        simp only [List.map_cons, List.zip_cons_cons, List.mem_cons] at hz
        rcases hz with rfl | hz
        · rfl
        · exact ih z hz
    rw [this L z hz]
    exact (hok.env.env z.1).mono (Bt.le_add hn)
  obtain ⟨r2, t2⟩ := r1.new (w' := (w.alloc o1).alloc o2) (b := ⟨w.heap.size + 1, 0, 0⟩) (B := .loop fid id .ready (L.map env) .no) (by rw [alloc_size]) (alloc_size _ _) (fun y hy => alloc_old' _ _ y hy) hB
  have hn : β s.next = none := hok.rel.none_next (Nat.le_refl _)
  have hl2 : LR (β.add s.next ⟨w.heap.size + 1, 0, 0⟩) (appL first (.yield s.next :: cap)) ((va ++ #[Value.func (.yield (w.heap.size + 1)) #[] #[]]) ++ vc).toList := by
    rw [appL_eq, Array.toList_append, Array.toList_append, List.append_assoc]
    refine (LR.mono (Bt.le_add hn) _ _ lva).append ?_
    simp only [List.cons_append, List.nil_append, LR]
    refine ⟨_, _, rfl, ?_, LR.mono (Bt.le_add hn) _ _ lvc⟩
    simp only [VR]
    exact ⟨_, Bt.add_self _ _, rfl⟩
  have hu := hcs.fn gf _ _ v s' hgl hcall _ _ _ r2 hl2
  have hent := hcs.enter gf _ _ v s' hgl hcall ⟨s.next, by rw [appL_eq]; simp⟩ ((va ++ #[Value.func (.yield (w.heap.size + 1)) #[] #[]]) ++ vc) ((w.alloc o1).alloc o2)
  rw [hent] at hu
  simp only [UponCall] at hu
  refine ⟨w.heap.size + 1, [{ target := .collected w.heap.size, args := #[] }], (w.alloc o1).alloc o2, (⟨Target.fn (Fn.func gf) vc, va ++ #[Value.func (.yield (w.heap.size + 1)) #[] #[]]⟩ : Deferred), (w.alloc o1).alloc o2, gf, (va ++ #[Value.func (Fn.yield (w.heap.size + 1)) #[] #[]]) ++ vc, (w.alloc o1).alloc o2, ?_, ?_, ?_, ?_, ?_, ?_⟩
  · rw [hro]; exact run_enterLoop_outer fnv a.tmps ps x y
  · have : a.eval g = .func (.func gf) va vc := hgv'
    show Sem.run P (resolve a.eval (rangeCall g (w.heap.size + 1)) 0) _ = _
    simp only [resolve, rangeCall, this]
    simp [Deferred.ofValue, Act.eval]
  · intro f' hf'; exact hFf f'
  · simp only [invoke]; exact hent
  · intro hs; rw [hF] at hs; cases hs
  · refine hu.mono ?_
    intro e w₃ he
    cases e with
    | panicked ch => exact he.elim
    | outgrown => exact he.elim
    | returned u =>
      obtain ⟨β₃, r3, t3, _⟩ := he
      obtain ⟨f', key', st, cap', j, hbl, hrol, hj⟩ := overK_ok hover ho
      have hl3 : β₃ s.next = some ⟨w.heap.size + 1, 0, 0⟩ := t3.le _ _ (Bt.add_self _ _)
      have hB3 := r3.blk _ _ hl3
      rw [hbl] at hB3
      obtain ⟨r, L', ps', asg', body', fn', c', g1, g2, g3, g4, g5, g6, g7, g8, g9, g10, g11, g12, g13, g14⟩ := hB3
      have hnb3 : r.state ≠ .busy := by
        rw [g9]
        rcases hj with ⟨rfl, _⟩ | ⟨rfl, _⟩ <;> simp [stR]
      have hend : (Instr.endLoop (w.heap.size + 1)).run P w₃ = .ok r.pending (w₃.putObj (w.heap.size + 1) (.loop { r with state := .exhausted })) := run_endLoop (P := P) g1 hnb3
      have hsz3 : w.heap.size + 1 < w₃.heap.size := (Array.getElem?_eq_some_iff.1 g1).1
      obtain ⟨r4, t4⟩ := r3.put (w' := w₃.putObj (w.heap.size + 1) (.loop { r with state := .exhausted })) (B := .loop f' key' .exhausted cap' .no) hl3 hrol (by rw [hbl]; simp) World.putObj_size (fun x hx => World.putObj_heap_other hx)
        ⟨{ r with state := .exhausted }, L', ps', asg', body', fn', c', World.putObj_heap_same hsz3, g2, g3, g4, g5, g6, g7, g8, rfl, fun h => (by cases h), fun h => (by cases h), g12, g13, g14⟩
      generalize w₃.putObj (w.heap.size + 1) (.loop { r with state := .exhausted }) = w4 at hend r4 t4
      have tAll : Tr β s w β₃ (s'.put s.next (.loop f' key' .exhausted cap' .no)) w4 := (t1.trans t2).trans (t3.trans t4)
      have henv : EnvR β₃ n env { a with defers := [{ target := .collected w.heap.size, args := #[] }] ++ a.defers } := ⟨hok.env.size, fun t => (hok.env.env t).mono tAll.le⟩
      have hdfr2 : DefOk nb (β.add s.next ⟨w.heap.size + 1, 0, 0⟩) ((w.alloc o1).alloc o2) ([{ target := .collected w.heap.size, args := #[] }] ++ a.defers) := by
        have hd := hok.dfr.tr (t1.trans t2)
        refine ⟨fun d hd' => ?_, ?_⟩
        · rcases List.mem_append.1 hd' with hd' | hd'
          · simp only [List.mem_singleton] at hd'
            subst hd'
            refine ⟨w.heap.size, rfl, ?_, fun i b hb => ?_, Nat.le_trans hnb ht.size⟩
            · rw [alloc_old' _ _ _ (by rw [alloc_size]; omega), alloc_new']
            · simp only [Bt.add] at hb
              split at hb
              · cases hb; simp
              · exact Nat.ne_of_lt (hok.rel.lt i b hb).2
          · exact hd.1 d hd'
        · refine List.pairwise_append.2 ⟨by simp, hd.2, fun d hd1 e he1 => ?_⟩
          simp only [List.mem_singleton] at hd1
          subst hd1
          obtain ⟨re, q1, q2, _⟩ := hok.dfr.1 e he1
          intro heq
          have hq : w.heap.size = re := by
            rw [q1] at heq
            simpa using heq
          have := (Array.getElem?_eq_some_iff.1 q2).1
          omega
      have hdfr4 : DefOk nb β₃ w4 ([{ target := .collected w.heap.size, args := #[] }] ++ a.defers) := (hdfr2.tr t3).tr t4
      have hok4 : Ok P lv nb n β₃ (s'.put s.next (.loop f' key' .exhausted cap' .no)) env { a with defers := [{ target := .collected w.heap.size, args := #[] }] ++ a.defers } w4 := ⟨r4, henv, hdfr4⟩
      refine ⟨r.pending, _, hend, ?_⟩
      rcases hj with ⟨rfl, hk⟩ | ⟨rfl, hk⟩
      · rw [g11 rfl]
        simp only [jumpK] at hk
        exact hx.nx β₃ _ env _ _ hok4 (ht.trans tAll) hk
      · obtain ⟨p1, p2⟩ := g10 rfl
        cases j with
        | no => exact absurd rfl p2
        | exit i =>
          rw [p1]
          simp only [jpR, jumpK] at hk ⊢
          exact wpIn_exit (hx.ex i β₃ _ env _ _ hok4 (ht.trans tAll) hk)
        | ret =>
          rw [p1]
          simp only [jpR, jumpK] at hk ⊢
          exact wpIn_ret (hx.rt β₃ _ env _ _ hok4 (ht.trans tAll) hk)

/- what a function hands back -/
theorem loadK_var {ty : TypeId} {a : AV} {va : Value} {k : AV → Out} (hr : Rel P lv β s w) (ht : tyOk P ty = true) (ha : VR β a va) (h : loadK (tf P ty) s a k = out) (ho : out ≠ .err) :
    ∃ v x, (do loadVar ty (← asAddr va) : Sem Value).run P w = .ok v w ∧ VR β x v ∧ k x = out := by
  obtain ⟨i, o, rfl, h⟩ := ptrK_ok h ho
  obtain ⟨t, c, hb, h⟩ := rowK_ok h ho
  simp only [VR] at ha
  obtain ⟨b, hbi, rfl⟩ := ha
  have hB := hr.blk i b hbi
  rw [hb] at hB
  obtain ⟨cs, t', fr, h1, h2, h3, h4, h5, h6⟩ := hB
  obtain ⟨h7, x, h8, h9⟩ := partK_ok ht h3 h4 h5 h ho
  refine ⟨_, x, ?_, h9, h8⟩
  simp [asAddr, run_loadVar_at h1 ht h7]
theorem resK_ok {env : Env} {a : Act} (hr : Rel P lv β s w) (he : EnvR β n env a) : ∀ (rs : List ResultVar) (k : List AV → Out), resK P s env k rs = out → out ≠ .err →
    ∃ l vs, k l = out ∧ LR β l vs ∧ (rs.mapM fun (rv : ResultVar) => (match rv with
      | .tmp t => pure (a.tmps.getD t undef)
      | .cell x t => do loadVar t (← asAddr (a.tmps.getD x undef)) : Sem Value)).run P w = .ok vs w
  | [], k, h, ho => ⟨[], [], h, by simp [LR], rfl⟩
  | .tmp t :: l, k, h, ho => by
    simp only [resK] at h
    obtain ⟨l', vs, h1, h2, h3⟩ := resK_ok hr he l _ h ho
    refine ⟨_, a.tmps.getD t undef :: vs, h1, by simp only [LR]; exact ⟨_, _, rfl, he.env t, h2⟩, ?_⟩
    simp only [List.mapM_cons, Sem.run_bind, Sem.run_pure, Result.andThen_ok, h3]
  | .cell x t :: l, k, h, ho => by
    simp only [resK] at h
    obtain ⟨hty, h⟩ := of_bif h ho
    obtain ⟨v, xv, q1, q2, q3⟩ := loadK_var hr hty (he.env x) h ho
    obtain ⟨l', vs, h1, h2, h3⟩ := resK_ok hr he l _ q3 ho
    refine ⟨_, v :: vs, h1, by simp only [LR]; exact ⟨_, _, rfl, q2, h2⟩, ?_⟩
    simp only [List.mapM_cons, Sem.run_bind, Sem.run_pure, Result.andThen_ok, h3, q1]
theorem results_ok {env : Env} {a : Act} {fn : Func} {v : AV} {s' : St} (hr : Rel P lv β s w) (he : EnvR β n env a) (h : retK P fn.results.toList s env = .ret v s') :
    s' = s ∧ ∃ u, (results fn a.tmps).run P w = .ok u w ∧ VR β v u := by
  unfold retK at h
  obtain ⟨l, vs, h1, h2, h3⟩ := resK_ok (out := .ret v s') hr he fn.results.toList _ h (by simp)
  have hm : (fn.results.mapM fun (rv : ResultVar) => (match rv with
      | .tmp t => pure (a.tmps.getD t undef)
      | .cell x t => do loadVar t (← asAddr (a.tmps.getD x undef)) : Sem Value)).run P w = .ok vs.toArray w := by
    rw [Array.mapM_eq_mapM_toList]
    simp only [Sem.run_map, h3, Result.andThen_ok]
  have hres : (results fn a.tmps).run P w = .ok (if h : vs.toArray.size = 1 then vs.toArray[0] else .tuple vs.toArray) w := by
    unfold results
    simp only [Sem.run_bind]
    erw [hm]
    simp only [Result.andThen_ok, Sem.run_pure]
  cases l with
  | nil =>
    simp only [LR] at h2
    subst h2
    simp only [Out.ret.injEq] at h1
    obtain ⟨rfl, rfl⟩ := h1
    exact ⟨rfl, _, hres, by simp [VR, LR]⟩
  | cons x l =>
    simp only [LR] at h2
    obtain ⟨u, us, rfl, g1, g2⟩ := h2
    cases l with
    | nil =>
      simp only [LR] at g2
      subst g2
      simp only [Out.ret.injEq] at h1
      obtain ⟨rfl, rfl⟩ := h1
      exact ⟨rfl, _, hres, by simpa using g1⟩
    | cons y l =>
      simp only [LR] at g2
      obtain ⟨u', us', rfl, g3, g4⟩ := g2
      simp only [Out.ret.injEq] at h1
      obtain ⟨rfl, rfl⟩ := h1
      refine ⟨rfl, _, hres, ?_⟩
      rw [dif_neg (by simp)]
      simp only [VR, LR]
      exact ⟨_, rfl, _, _, rfl, g1, _, _, rfl, g3, g4⟩

/-- the marks are shut, one by one; then the results -/
theorem marks_ok {fn : Func} {env : Env} {a : Act} {v : AV} {s' : St} (hr₀ : ∀ i b, β₀ i = some b → b.blk < w₀.heap.size) (he : EnvR β n env a) (h : retK P fn.results.toList s env = .ret v s') :
    ∀ (ds : List Deferred) (w : World), DefOk w₀.heap.size β w ds → Rel P lv β s w → Tr β₀ s₀ w₀ β s w → LeavesInM F 0 P fn a.tmps (fun e w' => match e with | .returned u => ∃ β', Rel P lv β' s' w' ∧ Tr β₀ s₀ w₀ β' s' w' ∧ VR β' v u | _ => False) ds .returning w
  | [], w, hd, hr, ht => by
    obtain ⟨rfl, u, h1, h2⟩ := results_ok hr he h
    exact ⟨u, h1, β, hr, ht, h2⟩
  | d :: ds, w, hd, hr, ht => by
    obtain ⟨r, q1, q2, q3, q4⟩ := hd.1 d (List.mem_cons_self ..)
    have hne : ∀ x, x ≠ r → (w.putObj r (.deferred none)).heap[x]? = w.heap[x]? := fun x hx => World.putObj_heap_other hx
    refine ⟨by simp, .inl ⟨r, w.putObj r (.deferred none), q1, run_takeDeferred q2, ?_⟩⟩
    refine marks_ok hr₀ he h ds _ ⟨fun e he' => ?_, (List.pairwise_cons.1 hd.2).2⟩ (hr.other q3 World.putObj_size hne) (ht.other hr₀ q4 World.putObj_size hne)
    obtain ⟨r', g1, g2, g3, g4⟩ := hd.1 e (List.mem_cons_of_mem _ he')
    refine ⟨r', g1, ?_, g3, g4⟩
    rw [hne r' (fun e' => ?_)]
    · exact g2
    · exact (List.pairwise_cons.1 hd.2).1 e he' (by rw [q1, g1, e'])

theorem nthL_vr {l : List AV} {vs : List Value} (h : LR β l vs) (i : Nat) (d : Value) : VR β (nthL l i) (vs.getD i d) := by
  rw [nthL_eq]; exact h.getD i d

theorem ev_full (hcs : CallSound F P lv call) (hF : F.depth = none) (hFf : ∀ f, F.fn f) (hm : P.follows .mixedOrders = true) {f : Nat} {fn : Func} {c₀ : Code} (fu : Nat) (hfn : P.funcs[f]? = some fn) (hbody : fn.body = some c₀)
    (d : Nat) (c : Code) (Q : Exit → Act → World → Prop) (ex : Nat → K) (rt nx : K) (ho : out ≠ .err)
    (hn : (F.round = none ∧ nb ≤ w₀.heap.size ∧ allRF (fun ps a b => ∀ id, firstReg (.seq a b) = some id → findRF id c₀ = some (ps, a, b)) c) ∨ noRF c = true) (hx : SX P lv nb fn.ntmps out β₀ s₀ w₀ ex rt nx Q) :
    SK P lv nb fn.ntmps out β₀ s₀ w₀ (ev P call (lv f) fu f fn.ntmps d c ex rt nx) (fun a w => c.wpIn F 0 P Q a w) := by
  refine ev_ok (lf := lv f) hcs hF hFf fu f (fun ps a b => ∀ id, firstReg (.seq a b) = some id → findRF id c₀ = some (ps, a, b)) (fun id ops Q k out β₀ s₀ w₀ hd ho hk => draw_ok hcs hF hFf hm hd ho hk) ?_ d c Q ex rt nx out β₀ s₀ w₀ ho hn hx
  intro d g ps x y Q ex rt nx out β₀ s₀ w₀ ho hro hnb hRF hx
  have e : ev P call (lv f) fu f fn.ntmps (d + 1) (.rangeFunc g ps x y) ex rt nx = (match firstReg (.seq x y) with
      | some id => (match lv f id 0 with
        | some L => fun s env => newK s (.loop f id .ready (L.map env) .no) fun l s => rangeK call (opv P env g) l s fun j s => jumpK j (nx s env) (rt s env) (fun i => ex i s env)
        | none => fun _ _ => .err)
      | none => fun _ _ => .err) := rfl
  rw [e]
  cases hid : firstReg (.seq x y) with
  | none => exact SK.err ho
  | some id =>
    simp only
    cases hL : lv f id 0 with
    | none => exact SK.err ho
    | some L => exact rangeFunc_ok hcs hF hFf hro ho hL hfn hbody rfl (hRF id hid) hnb hx

/-- what a function's soundness is -/
def FnSound (F : Fence) (P : Program) (lv : Nat → Nat → Nat → Option (List Tmp)) (f : FuncId) (run : List AV → St → Out) : Prop := ∀ args s v s', run args s = .ret v s' → ∀ β w vals, Rel P lv β s w → LR β args vals.toList →
  UponCall F P (fun u w' => ∃ β', Rel P lv β' s' w' ∧ Tr β s w β' s' w' ∧ VR β' v u) ((callFunc f vals).run P w)
theorem fn_ok (hcs : CallSound F P lv call) (hF : F.depth = none) (hFf : ∀ f, F.fn f) (hro : F.round = none) (hm : P.follows .mixedOrders = true) {f : Nat} {fn : Func} {c : Code} (fu : Nat) (hfn : P.funcs[f]? = some fn) (hbody : fn.body = some c)
    (hcall : ∀ args w, (callFunc f args).run P w = .ok (.enter f args) w) : FnSound F P lv f (fnA P lv f fn c call fu) := by
  intro args s v s' h β w vals hr hl
  unfold fnA at h
  obtain ⟨hc, h⟩ := of_bif h (by simp)
  simp only [Bool.and_eq_true] at hc
  obtain ⟨⟨hle, hnd⟩, hlen⟩ := hc
  have hlen := beq_eq hlen
  have hle := ble_le hle
  rw [lenL_eq] at hlen
  have hvl : vals.size = args.length := by have := hl.length; simpa using this
  rw [hcall]
  simp only [UponCall]
  refine CallsIn.mono (R := fun e w' => match e with | .returned u => ∃ β', Rel P lv β' s' w' ∧ Tr β s w β' s' w' ∧ VR β' v u | _ => False) (callsIn_of_wp_marks hfn hbody (hFf f) ?_ hro) (fun e w he => by cases e <;> exact he)
  have hret : SK P lv w.heap.size fn.ntmps (.ret v s') β s w (retK P fn.results.toList) (fun a w₁ => bodyPostM F 0 P fn (fun e w' => match e with | .returned u => ∃ β', Rel P lv β' s' w' ∧ Tr β s w β' s' w' ∧ VR β' v u | _ => False) .ret a w₁) := by
    intro β₁ s₁ env a w₁ hok ht hk
    exact marks_ok (fun i b hb => (hr.lt i b hb).2) hok.env hk a.defers w₁ hok.dfr hok.rel ht
  have hsize : (vals ++ Array.replicate (fn.ntmps - vals.size) undef).size = fn.ntmps := by simp; omega
  have henv : EnvR β fn.ntmps (argEnv (fn.params.size + fn.nfree) args) { tmps := vals ++ Array.replicate (fn.ntmps - vals.size) undef, defers := [] } := by
    refine ⟨hsize, fun t => ?_⟩
    unfold argEnv
    cases hb : Nat.blt t (fn.params.size + fn.nfree) with
    | false => simp [VR]
    | true =>
      have hlt := blt_lt hb
      simp only [cond_true]
      have := nthL_vr hl t undef
      have h1 : t < vals.size := by rw [hvl, hlen]; exact hlt
      have e : (vals ++ Array.replicate (fn.ntmps - vals.size) undef).getD t undef = vals.toList.getD t undef := by
        simp [Array.getD_eq_getD_getElem?, Array.getElem?_append, h1]
      rw [e]; exact this
  have := ev_full (nb := w.heap.size) (β₀ := β) (s₀ := s) (w₀ := w) hcs hF hFf hm fu hfn hbody 10000 c (bodyPostM F 0 P fn (fun e w' => match e with | .returned u => ∃ β', Rel P lv β' s' w' ∧ Tr β s w β' s' w' ∧ VR β' v u | _ => False))
    (fun _ _ _ => .err) (retK P fn.results.toList) (retK P fn.results.toList) (out := .ret v s') (by simp) (.inl ⟨hro, Nat.le_refl _, find_all hnd⟩) ⟨fun i => SK.err (by simp), hret, hret⟩
  exact this β s _ { tmps := vals ++ Array.replicate (fn.ntmps - vals.size) undef, defers := [] } w ⟨hr, henv, ⟨fun d hd => (by cases hd), List.Pairwise.nil⟩⟩ (.refl _ _ _) h

theorem beginK_ok {l : Nat} {k : St → Out} (h : beginK s l k = out) (ho : out ≠ .err) : ∃ f key cap j, s.blk l = .loop f key .ready cap j ∧ s.ro ≤ l ∧ k (s.put l (.loop f key .busy cap .no)) = out := by
  unfold beginK at h
  cases hb : s.blk l <;> rw [hb] at h <;> (try simp only at h) <;> try exact absurd h.symm ho
  rename_i f key st cap j
  cases st <;> (try simp only at h) <;> try exact absurd h.symm ho
  obtain ⟨h1, h2⟩ := putK_ok h ho
  exact ⟨f, key, cap, j, rfl, h1, h2⟩
theorem endK_ok {l : Nat} {j : Jp} (h : endK s l j = out) (ho : out ≠ .err) : ∃ f key cap j', s.blk l = .loop f key .busy cap j' ∧ s.ro ≤ l ∧
    ((j = .no ∧ out = .ret (.bool true) (s.put l (.loop f key .ready cap .no))) ∨ (j ≠ .no ∧ out = .ret (.bool false) (s.put l (.loop f key .done cap j)))) := by
  unfold endK at h
  cases hb : s.blk l <;> rw [hb] at h <;> (try simp only at h) <;> try exact absurd h.symm ho
  rename_i f key st cap j'
  cases st <;> (try simp only at h) <;> try exact absurd h.symm ho
  cases j <;> (try simp only at h) <;> obtain ⟨h1, h2⟩ := putK_ok h ho
  · exact ⟨f, key, cap, j', rfl, h1, .inl ⟨rfl, h2.symm⟩⟩
  · exact ⟨f, key, cap, j', rfl, h1, .inr ⟨by simp, h2.symm⟩⟩
  · exact ⟨f, key, cap, j', rfl, h1, .inr ⟨by simp, h2.symm⟩⟩

theorem mkN_vr {a : Act} : ∀ {L : List Tmp} {i : Nat} {r : List AV}, (∀ j t, L[j]? = some t → VR β (nthL r (i + j)) (a.tmps.getD t undef)) → a.tmps.size = n → EnvR β n (mkN L i r) a
  | [], i, r, _, hs => ⟨hs, fun t => by simp [mkN, VR]⟩
  | t :: L, i, r, h, hs => by
    refine ⟨hs, fun u => ?_⟩
    simp only [mkN, Env.set]
    cases hb : Nat.beq u t with
    | true => have := beq_eq hb; subst this; exact h 0 u rfl
    | false => exact (mkN_vr (L := L) (i := i + 1) (r := r) (fun j t hj => by have := h (j + 1) t (by simpa using hj); rwa [show i + (j + 1) = i + 1 + j by omega] at this) hs).env u
theorem setN_vr : ∀ {ps : List Tmp} {i : Nat} {r : List AV} {vals : List Value} {e : Env} {tmps : Array Value}, (∀ j, j < ps.length → VR β (nthL r (i + j)) (vals.getD j undef)) → ps.length = vals.length → (∀ t ∈ ps, t < n) → EnvR β n e { tmps, defers := [] } →
    EnvR β n (setN ps i r e) { tmps := (ps.zip vals).foldl (fun tmps (x : Tmp × Value) => tmps.setIfInBounds x.1 x.2) tmps, defers := [] }
  | [], i, r, vals, e, tmps, _, _, _, he => he
  | t :: ps, i, r, [], e, tmps, _, hl, _, _ => by cases hl
  | t :: ps, i, r, v :: vals, e, tmps, h, hl, hlt, he => by
    simp only [setN, List.zip_cons_cons, List.foldl_cons]
    refine setN_vr (i := i + 1) (fun j hj => ?_) (by simpa using hl) (fun t ht => hlt t (List.mem_cons_of_mem _ ht)) ?_
    · have := h (j + 1) (by simpa using hj)
      rwa [show i + (j + 1) = i + 1 + j by omega] at this
    · have ht := hlt t (List.mem_cons_self ..)
      refine ⟨by simpa using he.size, fun u => ?_⟩
      simp only [Env.set]
      cases hb : Nat.beq u t with
      | true =>
        have := beq_eq hb
        subst this
        have h0 := h 0 (by simp)
        have hsz : u < tmps.size := by have : tmps.size = n := he.size; rw [this]; exact ht
        simpa [hsz] using h0
      | false =>
        have hne : t ≠ u := fun e => by subst e; rw [Nat.beq_refl] at hb; cases hb
        have := he.env u
        simp only [Array.getD_eq_getD_getElem?, Array.getElem?_setIfInBounds, if_neg hne, cond_false] at this ⊢
        exact this

theorem CallSound.inRound (h : CallSound F P lv call) (l : Nat) : CallSound (F.inRound l) P lv call := ⟨h.fn, h.round, h.enter⟩
/-- what a round's soundness is -/
def RndSound (F : Fence) (P : Program) (lv : Nat → Nat → Nat → Option (List Tmp)) (f key : Nat) (run : List AV → St → Out) : Prop :=
  ∀ l st cap pend args s v s', s.blk l = .loop f key st cap pend → run (.yield l :: appL args cap) s = .ret v s' → ∀ β w b vals, Rel P lv β s w → β l = some b → LR β args vals.toList →
    ∃ r, w.heap[b.blk]? = some (.loop r) ∧ vals.size = r.params.size ∧ RoundIn F 0 P b.blk r.fn ((r.params.zip vals).foldl (fun tmps (t, a) => tmps.setIfInBounds t a) r.tmps) r.assign r.body w fun
      | .returned u, w' => ∃ β', Rel P lv β' s' w' ∧ Tr β s w β' s' w' ∧ VR β' v u
      | _, _ => False
theorem rnd_ok (hcs : CallSound F P lv call) (hF : F.depth = none) (hFf : ∀ f, F.fn f) (hm : P.follows .mixedOrders = true) {f key : Nat} {fn : Func} {c : Code} {ps : Array Tmp} {x y : Code} (fu : Nat) (hfn : P.funcs[f]? = some fn) (hbody : fn.body = some c)
    (hfind : findRF key c = some (ps, x, y)) : RndSound F P lv f key (rndA P lv f key fn ps x y call fu) := by
  intro l st cap pend args s v s' hbl h β w b vals hr hbl' hl
  unfold rndA at h
  cases hL : lv f key 0 with
  | none => rw [hL] at h; cases h
  | some L =>
    rw [hL] at h
    simp only at h
    obtain ⟨hc, h⟩ := of_bif h (by simp)
    simp only [Bool.and_eq_true] at hc
    obtain ⟨⟨⟨hx, hy⟩, hps⟩, hlen⟩ := hc
    have hlen := beq_eq hlen
    rw [lenL_eq, appL_eq, List.length_append] at hlen
    rw [appL_eq] at h
    have hB := hr.blk l b hbl'
    rw [hbl] at hB
    obtain ⟨r, L', ps', asg', body', fn', c', g1, g2, g3, g4, g5, g6, g7, g8, g9, g10, g11, g12, g13, g14⟩ := hB
    rw [hL] at g2; cases g2
    rw [hfn] at g3; cases g3
    rw [hbody] at g4; cases g4
    rw [hfind] at g5; cases g5
    have hvl : vals.size = args.length := by have := hl.length; simpa using this
    have hps' : ∀ t ∈ ps.toList, t < fn.ntmps := fun t ht => by
      rw [Array.all_eq_true_iff_forall_mem] at hps
      exact blt_lt (hps t (by simpa using ht))
    have hal : args.length = ps.size := by omega
    refine ⟨r, g1, by rw [g6]; omega, roundIn_of_wpIn (hFf _) ?_⟩
    rw [g7, g8]
    -- the temporaries of the round
    have henv : EnvR β fn.ntmps (setN ps.toList 0 (args ++ cap) (mkN L ps.size (args ++ cap))) { tmps := (r.params.zip vals).foldl (fun tmps (x : Tmp × Value) => tmps.setIfInBounds x.1 x.2) r.tmps, defers := [] } := by
      have h1 : EnvR β fn.ntmps (mkN L ps.size (args ++ cap)) { tmps := r.tmps, defers := [] } := by
        refine mkN_vr (fun j t hj => ?_) g12
        have hjl : j < L.length := (List.getElem?_eq_some_iff.1 hj).1
        have hcj : j < cap.length := by omega
        have hz : (t, cap[j]) ∈ List.zip L cap := by
          have : (List.zip L cap)[j]? = some (t, cap[j]) := by
            rw [List.getElem?_zip_eq_some]
            exact ⟨hj, by simp [hcj]⟩
          exact List.mem_of_getElem? this
        have := g14 _ hz
        rw [nthL_eq, ← hal, List.getD_eq_getElem?_getD, List.getElem?_append_right (by omega)]
        simp only [Nat.add_sub_cancel_left]
        rw [List.getElem?_eq_getElem hcj]
        exact this
      have h2 := setN_vr (ps := ps.toList) (i := 0) (r := args ++ cap) (vals := vals.toList) (tmps := r.tmps) (fun j hj => ?_) (by simp; omega) hps' h1
      · have e : (r.params.zip vals).foldl (fun tmps (x : Tmp × Value) => tmps.setIfInBounds x.1 x.2) r.tmps = (ps.toList.zip vals.toList).foldl (fun tmps (x : Tmp × Value) => tmps.setIfInBounds x.1 x.2) r.tmps := by
          rw [g6, ← Array.foldl_toList, Array.toList_zip]
        rw [e]; exact h2
      · have hj' : j < args.length := by rw [hal]; simpa using hj
        have := nthL_vr hl j undef
        rw [nthL_eq] at this ⊢
        simp only [Nat.zero_add]
        have e : (args ++ cap).getD j AV.undef = args.getD j AV.undef := by
          simp [List.getD_eq_getElem?_getD, List.getElem?_append, hj']
        rw [e]; exact this
    have hcs' := hcs.inRound b.blk
    -- the body
    have body_ok : ∀ (β₀ : Bt) (s₀ : St) (w₀ : World), Tr β s w β₀ s₀ w₀ → SK P lv w.heap.size fn.ntmps (.ret v s') β₀ s₀ w₀
        (ev P call (lv f) fu f fn.ntmps 10000 y (fun i s _ => endK s l (.exit i)) (fun s _ => endK s l .ret) (fun s _ => endK s l .no))
        (fun a w' => y.wpIn (F.inRound b.blk) 0 P (roundPost P b.blk fun
          | .returned u, w' => ∃ β', Rel P lv β' s' w' ∧ Tr β s w β' s' w' ∧ VR β' v u
          | _, _ => False) a w') := by
      intro β₀ s₀ w₀ ht₀
      have fin : ∀ (j : Jp) (jc : Option Code), jpR j = jc → SK P lv w.heap.size fn.ntmps (.ret v s') β₀ s₀ w₀ (fun s _ => endK s l j) (fun _ w' => ∃ u w'', (Instr.endRound b.blk jc).run P w' = .ok u w'' ∧ ∃ β', Rel P lv β' s' w'' ∧ Tr β s w β' s' w'' ∧ VR β' v u) := by
        intro j jc hj β₁ s₁ env a w₁ hok ht hk
        obtain ⟨f', key', cap', j', q1, q2, q3⟩ := endK_ok hk (by simp)
        have hl1 : β₁ l = some b := ht.le _ _ (ht₀.le _ _ hbl')
        have hB1 := hok.rel.blk l b hl1
        rw [q1] at hB1
        obtain ⟨r1, L1, ps1, asg1, body1, fn1, c1, e1, e2, e3, e4, e5, e6, e7, e8, e9, e10, e11, e12, e13, e14⟩ := hB1
        have hsz : b.blk < w₁.heap.size := (Array.getElem?_eq_some_iff.1 e1).1
        have hend := run_endRound (P := P) jc e1
        rcases q3 with ⟨rfl, q3⟩ | ⟨hne, q3⟩
        · simp only [jpR] at hj
          subst hj
          cases q3
          obtain ⟨k1, k2⟩ := hok.rel.put (w' := w₁.putObj b.blk (.loop { r1 with state := .ready, pending := none })) (B := .loop f' key' .ready cap' .no) hl1 q2 (by rw [q1]; simp) World.putObj_size (fun x hx => World.putObj_heap_other hx)
            ⟨{ r1 with state := .ready, pending := none }, L1, ps1, asg1, body1, fn1, c1, World.putObj_heap_same hsz, e2, e3, e4, e5, e6, e7, e8, rfl, fun h => (by cases h), fun _ => rfl, e12, e13, e14⟩
          exact ⟨_, _, hend, β₁, k1, (ht₀.trans ht).trans k2, by simp [VR]⟩
        · obtain ⟨jj, hjj⟩ : ∃ jj, jc = some jj := by
            cases j with
            | no => exact absurd rfl hne
            | exit i => exact ⟨_, hj.symm⟩
            | ret => exact ⟨_, hj.symm⟩
          cases q3
          obtain ⟨k1, k2⟩ := hok.rel.put (w' := w₁.putObj b.blk (.loop { r1 with state := .done, pending := jc })) (B := .loop f' key' .done cap' j) hl1 q2 (by rw [q1]; simp) World.putObj_size (fun x hx => World.putObj_heap_other hx)
            ⟨{ r1 with state := .done, pending := jc }, L1, ps1, asg1, body1, fn1, c1, World.putObj_heap_same hsz, e2, e3, e4, e5, e6, e7, e8, rfl, fun _ => ⟨hj.symm, hne⟩, fun h => (by cases h), e12, e13, e14⟩
          refine ⟨_, _, hend, β₁, ?_, (ht₀.trans ht).trans ?_, by rw [hjj]; simp [VR]⟩
          · rw [hjj]; rw [hjj] at k1; exact k1
          · rw [hjj]; rw [hjj] at k2; exact k2
      refine ev_full (F := F.inRound b.blk) hcs' hF hFf hm fu hfn hbody 10000 y _ _ _ _ (by simp) (.inr hy) ⟨fun i => ?_, ?_, ?_⟩
      · exact (fin (.exit i) (some (.exit i)) rfl).imp fun a w' h => h
      · exact (fin .ret (some .ret) rfl).imp fun a w' h => h
      · exact (fin .no none rfl).imp fun a w' h => h
    refine ev_full (F := F.inRound b.blk) (nb := w.heap.size) (β₀ := β) (s₀ := s) (w₀ := w) (out := .ret v s') hcs' hF hFf hm fu hfn hbody 10000 x (Exit.then _ fun _ _ _ => False) (fun _ _ _ => .err) (fun _ _ => .err) _ (by simp) (.inr hx) ⟨fun i => SK.err (by simp), SK.err (by simp), ?_⟩ β s _ _ w
      ⟨hr, henv, ⟨fun d hd => (by cases hd), List.Pairwise.nil⟩⟩ (.refl _ _ _) h
    intro β₁ s₁ env a w₁ hok ht hk
    simp only at hk
    obtain ⟨f', key', cap', j', q1, q2, q3⟩ := beginK_ok hk (by simp)
    have hl1 : β₁ l = some b := ht.le _ _ hbl'
    have hB1 := hok.rel.blk l b hl1
    rw [q1] at hB1
    obtain ⟨r1, L1, ps1, asg1, body1, fn1, c1, e1, e2, e3, e4, e5, e6, e7, e8, e9, e10, e11, e12, e13, e14⟩ := hB1
    have hsz : b.blk < w₁.heap.size := (Array.getElem?_eq_some_iff.1 e1).1
    obtain ⟨k1, k2⟩ := hok.rel.put (w' := w₁.putObj b.blk (.loop { r1 with state := .busy })) (B := .loop f' key' .busy cap' .no) hl1 q2 (by rw [q1]; simp) World.putObj_size (fun x hx => World.putObj_heap_other hx)
      ⟨{ r1 with state := .busy }, L1, ps1, asg1, body1, fn1, c1, World.putObj_heap_same hsz, e2, e3, e4, e5, e6, e7, e8, rfl, fun h => (by cases h), fun h => (by cases h), e12, e13, e14⟩
    exact ⟨_, run_beginRound e1 e9, body_ok β₁ _ _ (ht.trans k2) β₁ _ env a _ ⟨k1, hok.env, hok.dfr.tr k2⟩ (.refl _ _ _) q3⟩
end
end Go.Ev
