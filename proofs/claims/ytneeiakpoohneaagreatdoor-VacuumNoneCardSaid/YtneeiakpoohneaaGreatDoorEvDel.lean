/- maps.DeleteFunc, as one step. -/
import Derived.Test.YtneeiakpoohneaaGreatDoorEvT
set_option linter.all false
set_option linter.unusedSimpArgs false
set_option linter.unusedVariables false
namespace Go.Ev
noncomputable section
/-- the entries that stay -/
def ME.keep (pr : Nat → Bool) : ME → ME
  | .nil => .nil
  | .cons x v b t => bif pr b then t.keep pr else .cons x v b (t.keep pr)
/-- no key twice -/
def keyNew (x : AV) : ME → Bool
  | .nil => true
  | .cons y _ _ t => match beqS x y with
    | some false => match beqS y x with
      | some false => keyNew x t
      | _ => false
    | _ => false
def keysOk : ME → Bool
  | .nil => true
  | .cons x _ _ t => match x with
    | .int _ _ => match beqS x x with
      | some true => keyNew x t && keysOk t
      | _ => false
    | _ => false
def delPred (call : Call) (g : Nat) (first cap : List AV) (s : St) (k : ME → Out) : ME → Out
  | .nil => k .nil
  | .cons x v b t => outK (call g (appL first (appL [x, v] cap)) s) fun d _ => match d with
    | .bool true => delPred call g first cap s k t
    | .bool false => delPred call g first cap s (fun r => k (.cons x v b r)) t
    | _ => .err
def delF (call : Call) (_ : Nat) (args : List AV) (s : St) : Out := match args with
  | [m, f] => match f with
    | .func g first cap => mapK s m fun id es clk => newK s .dark fun _ s => bif Nat.blt g 65536 && keysOk es then
        delPred call g first cap ⟨s.heap.put id .dark, s.next, s.next⟩ (fun es => putK s id (.map es clk) fun s => .ret (.tup []) s) es else .err
    | _ => .err
  | _ => .err
/-- a call of which nothing is kept but its answer -/
def frz (dk : Nat) (call : Call) : Call := fun f args s => bif Nat.blt f 65536 then (match s.blk dk with
  | .map _ _ => (match call f args ⟨s.heap.put dk .dark, s.next, s.next⟩ with
    | .ret d _ => (match d with
      | .bool b => .ret (.bool b) s
      | _ => .err)
    | _ => .err)
  | _ => .err) else .err

theorem Hp.put_put (h : Hp) (i : Nat) (b c : Blk) : (h.put i b).put i c = h.put i c := by
  have key : ∀ (f k : Nat) (b c : Blk) (t : Hp), k < f → Hp.set f k c (Hp.set f k b t) = Hp.set f k c t := by
    intro f
    induction f with
    | zero => intro k b c t hk; omega
    | succ f ih =>
      intro k b c t hk
      cases k with
      | zero => rw [Hp.set_zero, Hp.set_zero, Hp.set_zero]; cases t <;> rfl
      | succ k =>
        rcases Nat.mod_two_eq_zero_or_one k with h | h
        · rw [Hp.set_odd _ _ _ _ h, Hp.set_odd _ _ _ _ h, Hp.set_odd _ _ _ _ h]
          cases t <;> simp only [ih (k / 2) _ _ _ (by omega)]
        · rw [Hp.set_even _ _ _ _ h, Hp.set_even _ _ _ _ h, Hp.set_even _ _ _ _ h]
          cases t <;> simp only [ih (k / 2) _ _ _ (by omega)]
  exact key (i + 1) i b c h (Nat.lt_succ_self i)
theorem St.put_put (s : St) (i : Nat) (b c : Blk) : (s.put i b).put i c = s.put i c := by
  simp only [St.put, Hp.put_put]

section
variable {P : Program} {lv : Nat → Nat → Nat → Option (List Tmp)} {F : Fence} {call : Call} {out : Out}

theorem frz_sound (hcs : CallSound F P lv call) (dk : Nat) : CallSound F P lv (frz dk call) := by
  have inv : ∀ f args s v s', frz dk call f args s = .ret v s' → f < 65536 ∧ ∃ es clk b s'', s.blk dk = .map es clk ∧ call f args ⟨s.heap.put dk .dark, s.next, s.next⟩ = .ret (.bool b) s'' ∧ v = .bool b ∧ s' = s := by
    intro f args s v s' h
    unfold frz at h
    obtain ⟨h1, h2⟩ := of_bif h (by simp)
    refine ⟨blt_lt h1, ?_⟩
    split at h2
    · rename_i es clk hb
      split at h2
      · rename_i d s'' hc
        split at h2
        · rename_i b
          cases h2
          exact ⟨es, clk, b, s'', hb, hc, rfl, rfl⟩
        · cases h2
      · cases h2
    · cases h2
  refine ⟨fun f args s v s' hf h β w vals hr hl => ?_, fun l f key st cap pend args s v s' hb h => ?_, fun f args s v s' hf h hy => ?_⟩
  · obtain ⟨_, es, clk, b, s'', hb, hc, rfl, rfl⟩ := inv _ _ _ _ _ h
    have hdn : s'.blk dk ≠ .none := by rw [hb]; simp
    have hblk : ∀ i, (⟨s'.heap.put dk .dark, s'.next, s'.next⟩ : St).blk i = if i = dk then .dark else s'.blk i := fun i => by rw [St.blk_mk, Hp.get_put, St.blk_eq]
    have hnn : ∀ i, (⟨s'.heap.put dk .dark, s'.next, s'.next⟩ : St).blk i ≠ .none ↔ s'.blk i ≠ .none := fun i => by
      rw [hblk]
      by_cases hi : i = dk
      · subst hi; simp [hdn]
      · simp [hi]
    have hr1 : Rel P lv β ⟨s'.heap.put dk .dark, s'.next, s'.next⟩ w := by
      refine ⟨hr.lt, fun i j b c hb hc hi hj he => hr.inj i j b c hb hc ((hnn i).1 hi) ((hnn j).1 hj) he, fun i b hb => ?_, Nat.le_refl _, fun i hi => ?_, hr.glob⟩
      · rw [hblk]
        split
        · trivial
        · exact (hr.blk i b hb).mono (.refl _) rfl fun m k v bm _ hm h1 h2 => ⟨(hr.lt m bm hm).1, (hnn m).2 h2, rfl⟩
      · have hi : s'.next ≤ i := hi
        have := hr.fresh i hi
        rw [hblk, if_neg (fun e => hdn (by rw [← e]; exact this))]
        exact this
    refine UponCall_imp (hcs.fn f args _ _ _ hf hc β w vals hr1 hl) fun u w' hq => ?_
    obtain ⟨β', r2, t2, hv⟩ := hq
    have hold : ∀ i b, β i = some b → s'.blk i ≠ .none → w'.heap[b.blk]? = w.heap[b.blk]? := fun i b hb hi => t2.oldw i b (hr.lt i b hb).1 hb ((hnn i).2 hi)
    refine ⟨β, ⟨fun i b hb => ⟨(hr.lt i b hb).1, Nat.lt_of_lt_of_le (hr.lt i b hb).2 t2.size⟩, hr.inj, fun i b hb => ?_, hr.ro, hr.fresh, hr.glob⟩, ⟨.refl _, fun i _ h => ⟨h, rfl⟩, t2.size, Nat.le_refl _, rfl, fun _ _ => rfl, fun _ _ h => .inl h, t2.frame, fun i b _ hb hi => hold i b hb hi, fun i b hb hd => ⟨hd, hold i b hb (by rw [hd]; simp)⟩, t2.io⟩, by simpa [VR] using hv⟩
    by_cases hn : s'.blk i = .none
    · rw [hn]; trivial
    · exact (hr.blk i b hb).mono (.refl _) (hold i b hb hn) fun m k v bm _ hm h1 h2 => ⟨h1, h2, hold m bm hm h2⟩
  · have := (inv _ _ _ _ _ h).1
    omega
  · obtain ⟨_, es, clk, b, s'', hb, hc, _, _⟩ := inv _ _ _ _ _ h
    exact hcs.enter f args _ _ _ hf hc hy
where
  UponCall_imp {F : Fence} {P : Program} {R R' : Value → World → Prop} {r : Result Next} (h : UponCall F P R r) (hi : ∀ u w, R u w → R' u w) : UponCall F P R' r := by
    cases r with
    | halt _ _ => exact h.elim
    | ok n w =>
      cases n <;> simp only [UponCall] at h ⊢ <;> first
        | exact hi _ _ h
        | exact h.mono (fun e w he => by cases e <;> first | exact hi _ _ he | exact he)
        | exact h.elim

/- the entries -/
inductive ME.Has : ME → AV → AV → Nat → Prop
  | head {x v b t} : ME.Has (.cons x v b t) x v b
  | tail {y u c t x v b} : ME.Has t x v b → ME.Has (.cons y u c t) x v b
theorem ME.Has.born {es : ME} {x v : AV} {b : Nat} (h : es.Has x v b) : b ∈ es.borns := by
  induction h with
  | head => exact List.mem_cons_self ..
  | tail _ ih => exact List.mem_cons_of_mem _ ih
theorem ME.keep_congr {p q : Nat → Bool} : ∀ {es : ME}, (∀ b ∈ es.borns, p b = q b) → es.keep p = es.keep q
  | .nil, _ => rfl
  | .cons x v b t, h => by
    simp only [ME.keep, h b (List.mem_cons_self ..), ME.keep_congr fun c hc => h c (List.mem_cons_of_mem _ hc)]
theorem ME.keep_borns {p : Nat → Bool} : ∀ {es : ME}, (es.keep p).borns = es.borns.filter fun b => !p b
  | .nil => rfl
  | .cons x v b t => by
    simp only [ME.keep, ME.borns, List.filter_cons]
    cases hp : p b <;> simp [ME.borns, ME.keep_borns]
theorem ME.keep_has {p : Nat → Bool} {x v : AV} {b : Nat} : ∀ {es : ME}, (es.keep p).Has x v b → es.Has x v b ∧ p b = false
  | .nil, h => by cases h
  | .cons y u c t, h => by
    simp only [ME.keep] at h
    cases hp : p c with
    | true => rw [hp] at h; exact ⟨.tail (ME.keep_has h).1, (ME.keep_has h).2⟩
    | false =>
      rw [hp] at h
      cases h with
      | head => exact ⟨.head, hp⟩
      | tail h => exact ⟨.tail (ME.keep_has h).1, (ME.keep_has h).2⟩
theorem keyNew_ok {x : AV} : ∀ {es : ME}, keyNew x es = true → ∀ {y u c}, es.Has y u c → beqS x y = some false ∧ beqS y x = some false
  | .cons z _ _ t, h, y, u, c, hh => by
    simp only [keyNew] at h
    split at h
    · rename_i h1
      split at h
      · rename_i h2
        cases hh with
        | head => exact ⟨h1, h2⟩
        | tail hh => exact keyNew_ok h hh
      · cases h
    · cases h
theorem keysOk_cons {x v : AV} {b : Nat} {t : ME} (h : keysOk (.cons x v b t) = true) : (∃ k n, x = .int k n) ∧ beqS x x = some true ∧ keyNew x t = true ∧ keysOk t = true := by
  simp only [keysOk] at h
  split at h
  · rename_i k n
    split at h
    · rename_i h1
      simp only [Bool.and_eq_true] at h
      exact ⟨⟨k, n, rfl⟩, h1, h.1, h.2⟩
    · cases h
  · cases h
theorem keysOk_int : ∀ {es : ME}, keysOk es = true → ∀ {x v b}, es.Has x v b → ∃ k n, x = .int k n
  | .cons y u c t, h, x, v, b, hh => by
    obtain ⟨h1, _, _, h4⟩ := keysOk_cons h
    cases hh with
    | head => exact h1
    | tail hh => exact keysOk_int h4 hh
/-- an entry that is still there is found, and struck out -/
theorem keep_find {p : Nat → Bool} : ∀ {es : ME}, keysOk es = true → es.borns.Nodup → ∀ {x v b}, es.Has x v b → p b = false → (es.keep p).find x = some (some v) ∧ (es.keep p).erase x = es.keep (fun c => p c || Nat.beq c b)
  | .cons y u c t, h, hn, x, v, b, hh, hp => by
    obtain ⟨_, h2, h3, h4⟩ := keysOk_cons h
    have hn' := List.nodup_cons.1 hn
    cases hh with
    | head =>
      simp only [ME.keep, hp, cond_false, ME.find, h2, ME.erase, Bool.false_or, Nat.beq_refl, cond_true, true_and]
      refine ME.keep_congr fun d hd => ?_
      have : Nat.beq d c = false := by
        cases hb : Nat.beq d c with
        | false => rfl
        | true => exact absurd (by rw [← beq_eq hb]; exact hd) hn'.1
      rw [this, Bool.or_false]
    | tail hh =>
      obtain ⟨g1, g2⟩ := keep_find h4 hn'.2 hh hp
      have hc : Nat.beq c b = false := by
        cases hb : Nat.beq c b with
        | false => rfl
        | true => exact absurd (by rw [beq_eq hb]; exact hh.born) hn'.1
      cases hpc : p c with
      | true => simp only [ME.keep, hpc, cond_true, Bool.true_or]; exact ⟨g1, g2⟩
      | false =>
        have := (keyNew_ok h3 hh).2
        simp only [ME.keep, hpc, cond_false, hc, Bool.or_self, ME.find, this, ME.erase, g1, g2, and_self]
theorem delPred_ok {g : Nat} {first cap : List AV} {s : St} (ho : out ≠ .err) : ∀ {es : ME} {k : ME → Out}, es.borns.Nodup → delPred call g first cap s k es = out →
    ∃ pr : Nat → Bool, (∀ x v b, es.Has x v b → ∃ s', call g (appL first (appL [x, v] cap)) s = .ret (.bool (pr b)) s') ∧ k (es.keep pr) = out
  | .nil, k, _, h => ⟨fun _ => false, fun _ _ _ hh => (by cases hh), h⟩
  | .cons x v b t, k, hn, h => by
    simp only [delPred] at h
    obtain ⟨d, s', hc, h⟩ := outK_ok h ho
    have hn' := List.nodup_cons.1 hn
    have key : ∀ (bb : Bool) (k' : ME → Out), d = .bool bb → (∀ r, k' r = k (bif bb then r else .cons x v b r)) → delPred call g first cap s k' t = out →
        ∃ pr : Nat → Bool, (∀ y u c, (ME.cons x v b t).Has y u c → ∃ s', call g (appL first (appL [y, u] cap)) s = .ret (.bool (pr c)) s') ∧ k ((ME.cons x v b t).keep pr) = out := by
      intro bb k' hd hk' h'
      obtain ⟨pr, g1, g2⟩ := delPred_ok ho hn'.2 h'
      refine ⟨fun c => bif Nat.beq c b then bb else pr c, fun y u c hh => ?_, ?_⟩
      · cases hh with
        | head => exact ⟨s', by simp only [Nat.beq_refl, cond_true]; rw [hc, hd]⟩
        | tail hh =>
          have : Nat.beq c b = false := by
            cases hb : Nat.beq c b with
            | false => rfl
            | true => exact absurd (by rw [← beq_eq hb]; exact hh.born) hn'.1
          simp only [this, cond_false]
          exact g1 y u c hh
      · have e : t.keep (fun c => bif Nat.beq c b then bb else pr c) = t.keep pr := ME.keep_congr fun c hc => by
          have : Nat.beq c b = false := by
            cases hb : Nat.beq c b with
            | false => rfl
            | true => exact absurd (by rw [← beq_eq hb]; exact hc) hn'.1
          rw [this]; rfl
        simp only [ME.keep, Nat.beq_refl, cond_true, e]
        rw [← hk']
        exact g2
    cases d <;> (try simp only at h) <;> try exact absurd h.symm ho
    rename_i bb
    cases bb <;> (try simp only at h)
    · exact key false _ rfl (fun _ => rfl) h
    · exact key true _ rfl (fun _ => rfl) h
theorem MR.has {β : Bt} : ∀ {es : ME} {l : List MapEntry} {e : MapEntry}, MR β es l → e ∈ l → ∃ x v, es.Has x v e.born ∧ VR β x e.key ∧ VR β v e.val
  | .nil, l, e, h, he => by simp only [MR] at h; subst h; cases he
  | .cons x v b t, _, e, h, he => by
    obtain ⟨e', l', rfl, h1, h2, h3, h4⟩ := h
    rcases List.mem_cons.1 he with rfl | he
    · exact ⟨x, v, by rw [h3]; exact .head, h1, h2⟩
    · obtain ⟨y, u, g1, g2, g3⟩ := MR.has h4 he
      exact ⟨y, u, .tail g1, g2, g3⟩

theorem beta_same {β β' : Bt} {s s' : St} {w w' : World} (hr : Rel P lv β' s' w') (ht : Tr β s w β' s' w') (hn : s'.next = s.next) : β' = β := by
  funext i
  cases hb : β i with
  | some b => exact ht.le i b hb
  | none =>
    rcases Nat.lt_or_ge i s.next with h | h
    · exact (ht.late i h hb).1
    · cases hb' : β' i with
      | none => rfl
      | some b =>
        have := (hr.lt i b hb').1
        omega
/-- the code of maps.DeleteFunc -/
def delCode (ops0 ops1 ops2 : Array Oper) (X : Code) : Code := .seq (.region 0 ops0 false) (.block 0 (.loop (.seq (.region 1 ops1 false) (.seq (.cond (.tmp 9) .skip (.exit 0)) (.block 1 (.seq (.region 2 ops2 false) X))))))
def delEnv (m iid : Nat) (fv x v : AV) : Env := mk [(0, .map m), (1, fv), (4, x), (5, v), (7, .ptr iid 0)]
theorem delEnv_vr {β : Bt} {n m iid : Nat} {fv x v : AV} {a : Act} (hs : a.tmps.size = n) (h0 : VR β (.map m) (a.tmps.getD 0 undef)) (h1 : VR β fv (a.tmps.getD 1 undef)) (h4 : VR β x (a.tmps.getD 4 undef)) (h5 : VR β v (a.tmps.getD 5 undef)) (h7 : VR β (.ptr iid 0) (a.tmps.getD 7 undef)) :
    EnvR β n (delEnv m iid fv x v) a := by
  refine ⟨hs, fun t => ?_⟩
  unfold delEnv
  simp only [mk, Env.set]
  cases c0 : Nat.beq t 0 with
  | true => rw [beq_eq c0]; exact h0
  | false =>
    cases c1 : Nat.beq t 1 with
    | true => rw [beq_eq c1]; exact h1
    | false =>
      cases c4 : Nat.beq t 4 with
      | true => rw [beq_eq c4]; exact h4
      | false =>
        cases c5 : Nat.beq t 5 with
        | true => rw [beq_eq c5]; exact h5
        | false =>
          cases c7 : Nat.beq t 7 with
          | true => rw [beq_eq c7]; exact h7
          | false => simp [VR]

/-- the loop, in the midst -/
structure DI (P : Program) (lv : Nat → Nat → Nat → Option (List Tmp)) (n : Nat) (β : Bt) (s : St) (w : World) (β₁ : Bt) (S₀ : St) (m iid : Nat) (fv : AV) (es : ME) (clk : Nat) (pr : Nat → Bool) (bi bm : Bp) (seen : Array Nat) (a' : Act) (w' : World) : Prop where
  rel : Rel P lv β₁ (S₀.put m (.map (es.keep fun b => seen.contains b && pr b) clk)) w'
  tr : Tr β s w β₁ (S₀.put m (.map (es.keep fun b => seen.contains b && pr b) clk)) w'
  env : EnvR β₁ n (delEnv m iid fv .undef .undef) a'
  dfr : DefOk w.heap.size β₁ w' a'.defers
  it : w'.heap[bi.blk]? = some (.mapIter (some bm.blk) clk seen clk)

theorem del_ok (hcs : CallSound F P lv call) (hF : F.depth = none) (hFf : ∀ f, F.fn f) (hro : F.round = none) (hm : P.follows .mixedOrders = true) {f : Nat} {fn : Func} {ops0 ops1 ops2 : Array Oper} {X : Code} {T kt el : TypeId} {o1 o2 : Oper} (fu : Nat)
    (hfn : P.funcs[f]? = some fn) (hbody : fn.body = some (delCode ops0 ops1 ops2 X)) (hcall : ∀ args w, (callFunc f args).run P w = .ok (.enter f args) w) (hres : fn.results = #[]) (hnt : fn.ntmps = 19)
    (hT : P.underlying T = some (.map kt el)) (hops : ops0.toList = [o1, o2]) (hd1 : o1.dst = some 6) (hp1 : o1.op = .move (.tmp 0)) (hg1 : o1.guard = none) (hd2 : o2.dst = some 7) (hp2 : o2.op = .range T (.tmp 6)) (hg2 : o2.guard = none)
    (hhead : mapHead fn.ntmps ops1.toList 9 = some (7, 8)) (hX : noRF X = true)
    (h2 : ∀ call s env, ev P call (lv f) fu f fn.ntmps 1 (.region 2 ops2 false) (fun _ _ _ => .err) (fun _ _ => .err) (fun s env => .ret (.tup [env 0, env 1, env 4, env 5, env 7]) s) s env =
      entryK s (env 7) fun tu => extractK tu 0 fun x => extractK tu 1 fun v => .ret (.tup [env 0, env 1, x, v, env 7]) s)
    (h3 : ∀ call s env, ev P call (lv f) fu f fn.ntmps 5 X (fun _ _ _ => .err) (fun _ _ => .err) (fun s env => .ret (.tup [env 0, env 1, env 7]) s) s env =
      callVK call (env 1) [env 4, env 5] s fun b s => condK b (deleteK .map s (env 0) (env 4) fun _ s => .ret (.tup [env 0, env 1, env 7]) s) (.ret (.tup [env 0, env 1, env 7]) s)) :
    FnSound F P lv f (delF call fu) := by
  intro args s v s' h β w vals hr hl
  -- what the evaluator did
  unfold delF at h
  split at h
  rotate_left
  · cases h
  rename_i xm xf
  split at h
  rotate_left
  · cases h
  rename_i g first cap
  obtain ⟨m, es, clk, rfl, hsm, h⟩ := mapK_ok h (by simp)
  rw [newK_eq] at h
  obtain ⟨hc, h⟩ := of_bif h (by simp)
  simp only [Bool.and_eq_true] at hc
  have hg := blt_lt hc.1
  have hkeys := hc.2
  simp only [LR] at hl
  obtain ⟨vm, _, hv1, hvm, vf, _, rfl, hvf, rfl⟩ := hl
  obtain ⟨bm, ents, hbm, rfl, hmw, hmr, hgood⟩ := hr.map hvm hsm
  obtain ⟨pr, hpr, hfin⟩ := delPred_ok (by simp) hgood.1 h
  obtain ⟨hrom, hfin⟩ := putK_ok hfin (by simp)
  simp only [Out.ret.injEq] at hfin
  obtain ⟨rfl, rfl⟩ := hfin
  have hro1 : s.ro ≤ m := hrom
  have hmn : m < s.next := (hr.lt m bm hbm).1
  rw [hcall]
  simp only [UponCall]
  refine CallsIn.mono (R := fun e w' => match e with | .returned u => ∃ β', Rel P lv β' ((s.new .dark).put m (.map (es.keep pr) clk)) w' ∧ Tr β s w β' ((s.new .dark).put m (.map (es.keep pr) clk)) w' ∧ VR β' (.tup []) u | _ => False) (callsIn_of_wp_marks hfn hbody (hFf f) ?_ hro) (fun e w he => by cases e <;> exact he)
  -- region 0
  have hvl : vals = #[.map (some bm.blk), vf] := by apply Array.toList_inj.1; rw [hv1]
  subst hvl
  have hsz0 : (#[Value.map (some bm.blk), vf] ++ Array.replicate (fn.ntmps - 2) undef).size = fn.ntmps := by simp [hnt]
  have e1 : ops0[0]? = some o1 := by rw [← Array.getElem?_toList, hops]; rfl
  have e2 : ops0[1]? = some o2 := by rw [← Array.getElem?_toList, hops]; rfl
  have e0 : ops0.size = 2 := by rw [← Array.length_toList, hops]; rfl
  unfold delCode
  refine wpIn_seq (wpIn_region ?_)
  rw [e0]
  let a0 : Act := { tmps := #[Value.map (some bm.blk), vf] ++ Array.replicate (fn.ntmps - 2) undef, defers := [] }
  show wpOpsIn F 0 P ops0 _ [0, 1] a0 w
  simp only [wpOpsIn, e1, e2, wanted_none hg1, wanted_none hg2, if_true, Oper.wpIn]
  refine ⟨fun f _ => hFf f, ?_⟩
  rw [Oper.semAt_eq _ _ _ (by rw [hp1]; intro _ h; cases h)]
  have r1 : (execOp a0.eval o1).run P w = .ok (.value (.map (some bm.blk))) w := by
    have : execOp a0.eval o1 = pure (.value (a0.eval (.tmp 0))) := by simp [execOp, hp1]
    rw [this]
    simp [Act.eval, a0, Array.getElem?_append]
  rw [r1]
  simp only [Oper.uponIn, hd1]
  refine ⟨fun f _ => hFf f, ?_⟩
  rw [Oper.semAt_eq _ _ _ (by rw [hp2]; intro _ h; cases h)]
  have r2 : (execOp (a0.put (some 6) (.map (some bm.blk))).eval o2).run P w = .ok (.value (.pointer (some ⟨w.heap.size, 0, none⟩))) (w.alloc (.mapIter (some bm.blk) clk #[] clk)) := by
    have : execOp (a0.put (some 6) (.map (some bm.blk))).eval o2 = (do pure (.value (← Instr.range T ((a0.put (some 6) (.map (some bm.blk))).eval (.tmp 6))))) := by first | (simp [execOp, hp2]; done) | (simp [execOp, hp2]; rfl)
    rw [this, Sem.run_bind]
    have h6 : (a0.put (some 6) (.map (some bm.blk))).eval (.tmp 6) = .map (some bm.blk) := by simp [Act.eval, Act.put, a0, hnt]
    rw [h6, run_range_map w T kt el bm.blk ents clk hT hmw]
    rfl
  rw [r2]
  simp only [Oper.uponIn, hd2]
  -- the iterator's block
  obtain ⟨q1, q2⟩ := hr.newObj (o := .mapIter (some bm.blk) clk #[] clk) (B := .dark) trivial
  generalize hβ₁ : β.add s.next ⟨w.heap.size, 0, 0⟩ = β₁ at q1 q2
  have hbi : β₁ s.next = some ⟨w.heap.size, 0, 0⟩ := by rw [← hβ₁]; exact Bt.add_self _ _
  have hbm1 : β₁ m = some bm := q2.le _ _ hbm
  have hS0m : (s.new .dark).blk m = .map es clk := by rw [St.blk_new, if_neg (Nat.ne_of_lt hmn)]; exact hsm
  have hS0i : (s.new .dark).blk s.next = .dark := by rw [St.blk_new, if_pos rfl]
  have hmi : m ≠ s.next := Nat.ne_of_lt hmn
  have hit0 : (w.alloc (.mapIter (some bm.blk) clk #[] clk)).heap[w.heap.size]? = some (.mapIter (some bm.blk) clk #[] clk) := alloc_new' _ _
  have hmw1 : (w.alloc (.mapIter (some bm.blk) clk #[] clk)).heap[bm.blk]? = some (.map ents clk) := (alloc_old' _ _ _ (hr.lt m bm hbm).2).trans hmw
  have hkeep0 : es.keep (fun b => (#[] : Array Nat).contains b && pr b) = es := by
    have e0 : (fun b => (#[] : Array Nat).contains b && pr b) = fun _ => false := by funext b; simp
    rw [e0]
    have : ∀ e : ME, e.keep (fun _ => false) = e := by
      intro e
      induction e with
      | nil => rfl
      | cons x v b t ih => simp only [ME.keep, cond_false, ih]
    exact this es
  have hne0 : (s.new .dark).blk m ≠ .none ∧ (s.new .dark).blk m ≠ .dark := by rw [hS0m]; exact ⟨by simp, by simp⟩
  obtain ⟨p1, p2⟩ := q1.put (w' := w.alloc (.mapIter (some bm.blk) clk #[] clk)) (B := .map es clk) hbm1 hrom hne0 rfl (fun _ _ => rfl) ⟨ents, hmw1, hmr.mono q2.le, hgood⟩
  have hI0 : DI P lv fn.ntmps β s w β₁ (s.new .dark) m s.next (.func g first cap) es clk pr ⟨w.heap.size, 0, 0⟩ bm #[] ((a0.put (some 6) (.map (some bm.blk))).put (some 7) (.pointer (some ⟨w.heap.size, 0, none⟩))) (w.alloc (.mapIter (some bm.blk) clk #[] clk)) := by
    refine ⟨by rw [hkeep0]; exact p1, by rw [hkeep0]; exact q2.trans p2, ?_, ⟨fun d hd => (by cases hd), List.Pairwise.nil⟩, hit0⟩
    refine delEnv_vr (by simp [Act.put, a0, hnt]) ?_ ?_ (by simp [VR]) (by simp [VR]) ?_
    · have e : ((a0.put (some 6) (.map (some bm.blk))).put (some 7) (.pointer (some ⟨w.heap.size, 0, none⟩))).tmps.getD 0 undef = .map (some bm.blk) := by rw [put_getD_ne (by decide), put_getD_ne (by decide)]; simp [a0, Array.getElem?_append]
      rw [e]; simp only [VR]; exact ⟨bm, hbm1, rfl⟩
    · have e : ((a0.put (some 6) (.map (some bm.blk))).put (some 7) (.pointer (some ⟨w.heap.size, 0, none⟩))).tmps.getD 1 undef = vf := by rw [put_getD_ne (by decide), put_getD_ne (by decide)]; simp [a0, Array.getElem?_append]
      rw [e]; exact hvf.mono q2.le
    · have e : ((a0.put (some 6) (.map (some bm.blk))).put (some 7) (.pointer (some ⟨w.heap.size, 0, none⟩))).tmps.getD 7 undef = .pointer (some ⟨w.heap.size, 0, none⟩) := by simp [Act.put, a0, hnt]
      rw [e]; simp only [VR]; exact ⟨_, hbi, rfl⟩
  show Code.wpIn F 0 P _ _ _ _
  refine wpIn_block ?_
  let μ : Act → World → Nat := fun _ w' => match w'.heap[w.heap.size]? with
    | some (.mapIter _ _ seen _) => (es.borns.filter fun b => !seen.contains b).length
    | _ => 0
  refine wpIn_loop (fun a' w' => ∃ seen, DI P lv fn.ntmps β s w β₁ (s.new .dark) m s.next (.func g first cap) es clk pr ⟨w.heap.size, 0, 0⟩ bm seen a' w') μ ⟨#[], hI0⟩ ?_
  rintro a' w' ⟨seen, hI⟩
  have hμ : ∀ {a' w' seen}, DI P lv fn.ntmps β s w β₁ (s.new .dark) m s.next (.func g first cap) es clk pr ⟨w.heap.size, 0, 0⟩ bm seen a' w' → μ a' w' = (es.borns.filter fun b => !seen.contains b).length := by
    intro a' w' seen h
    simp only [μ, h.it]
  have hml : mapLoop? fn.ntmps (.seq (.region 1 ops1 false) (.seq (.cond (.tmp 9) .skip (.exit 0)) (.block 1 (.seq (.region 2 ops2 false) X)))) = some (7, 8, 9, 0, .block 1 (.seq (.region 2 ops2 false) X)) := by
    simp [mapLoop?, hhead]
  obtain ⟨rid, ops, hh, hcode⟩ := loopCode (P := P) (F := F) hml hFf
  obtain ⟨_, _, _, _, _, _, _, _, _, n1, n2, n3, l1, l2⟩ := mapHead_ok hh
  -- the map as it is
  obtain ⟨hIrel, hItr, hIenv, hIdfr, hIit⟩ := id hI
  have hSm : ((s.new .dark).put m (.map (es.keep fun b => seen.contains b && pr b) clk)).blk m = .map (es.keep fun b => seen.contains b && pr b) clk := by rw [St.blk_put, if_pos rfl]
  have hSi : ((s.new .dark).put m (.map (es.keep fun b => seen.contains b && pr b) clk)).blk s.next = .dark := by rw [St.blk_put, if_neg (Ne.symm hmi)]; exact hS0i
  have hSn : ((s.new .dark).put m (.map (es.keep fun b => seen.contains b && pr b) clk)).next = s.next + 1 := rfl
  have hSr : ((s.new .dark).put m (.map (es.keep fun b => seen.contains b && pr b) clk)).ro = s.ro := rfl
  have hput : ∀ D, ((s.new .dark).put m (.map (es.keep fun b => seen.contains b && pr b) clk)).put m (.map D clk) = (s.new .dark).put m (.map D clk) := fun D => St.put_put _ _ _ _
  have hheap : ((s.new .dark).put m (.map (es.keep fun b => seen.contains b && pr b) clk)).heap.put m .dark = (s.new .dark).heap.put m .dark := Hp.put_put _ _ _ _
  generalize hS : (s.new .dark).put m (.map (es.keep fun b => seen.contains b && pr b) clk) = S at hIrel hItr hSm hSi hSn hSr hput hheap
  have hB := hIrel.blk m bm hbm1
  rw [hSm] at hB
  obtain ⟨cur, hcw, hcr, hcg⟩ := hB
  have hita : a'.tmps.getD 7 undef = .pointer (some ⟨w.heap.size, 0, none⟩) := by
    have := hIenv.env 7
    have e7 : delEnv m s.next (.func g first cap) .undef .undef 7 = .ptr s.next 0 := rfl
    rw [e7] at this
    simp only [VR] at this
    obtain ⟨b', hb', hv⟩ := this
    rw [hbi] at hb'
    cases hb'
    exact hv
  have hbsz : w.heap.size < w'.heap.size := (Array.getElem?_eq_some_iff.1 hIit).1
  have hsn : S.blk m ≠ .none := by rw [hSm]; simp
  have hbne : bm.blk ≠ w.heap.size := Nat.ne_of_lt (hr.lt m bm hbm).2
  refine hcode _ a' w' ?_
  rcases next_map (P := P) (ty := 0) hIit hcw (fun x hx => hcg.2 _ (by rw [MR.borns hcr]; exact List.mem_map_of_mem hx)) with ⟨hz, hrun⟩ | ⟨en, hmem, w1, ⟨hw1, hio1⟩, hrun⟩
  · refine head_region hFf hh hIenv.size (x := .bool false) (l := []) (fun ty => by rw [hita]; exact hrun) (.inr ⟨put_getD_self (by simp only [put_size]; rw [hIenv.size]; exact l1), ?_⟩)
    have hk : es.keep (fun b => seen.contains b && pr b) = es.keep pr := ME.keep_congr fun b hb => by
      cases hpb : pr b with
      | false => simp
      | true =>
        cases hsb : seen.contains b with
        | true => rfl
        | false =>
          exfalso
          have h1 : b ∈ (es.keep fun b => seen.contains b && pr b).borns := by
            rw [ME.keep_borns]
            exact List.mem_filter.2 ⟨hb, by simp only [hsb, Bool.false_and, Bool.not_false]⟩
          rw [MR.borns hcr] at h1
          obtain ⟨e, he, heb⟩ := List.mem_map.1 h1
          have h2 : e ∈ leftOf cur seen := by
            unfold leftOf
            rw [Array.mem_filter]
            exact ⟨by simpa using he, by rw [heb, hsb]; rfl⟩
          have := Array.size_pos_of_mem h2
          omega
    rw [hk] at hS
    subst hS
    simp only [Exit.then, Exit.inBlock, if_true]
    refine marks_ok (n := fn.ntmps) (env := fun _ => .undef) (v := .tup []) (fun i b hb => (hr.lt i b hb).2) ⟨by simp only [put_size]; exact hIenv.size, fun t => by simp [VR]⟩ (by rw [hres]; rfl) _ w' (by rw [put_defers, put_defers]; exact hIdfr) hIrel hItr
  · have hen : en ∈ cur.toList := by
      have : en ∈ cur.toList.filter fun e => !seen.contains e.born := by simpa [leftOf] using hmem
      exact (List.mem_filter.1 this).1
    have hens : seen.contains en.born = false := by
      have : en ∈ cur.toList.filter fun e => !seen.contains e.born := by simpa [leftOf] using hmem
      simpa using (List.mem_filter.1 this).2
    obtain ⟨x, v, hhas, hvx, hvv⟩ := MR.has hcr hen
    obtain ⟨hhas, _⟩ := ME.keep_has hhas
    obtain ⟨sc, hcallx⟩ := hpr x v en.born hhas
    have hw1b : w1.heap[w.heap.size]? = some (.mapIter (some bm.blk) clk (seen.push en.born) clk) := by rw [hw1]; simp [hbsz]
    have hw1o : ∀ y, y ≠ w.heap.size → w1.heap[y]? = w'.heap[y]? := fun y hy => by rw [hw1]; simp [Array.getElem?_setIfInBounds, Ne.symm hy]
    have hw1s : w1.heap.size = w'.heap.size := by rw [hw1]; simp
    have hb1 : ∀ i, i ≠ s.next → (⟨S.heap.put s.next (.mitc m x v), S.next, S.next⟩ : St).blk i = S.blk i := fun i hi => by rw [St.blk_mk, Hp.get_put, if_neg hi, St.blk_eq]
    have hb2 : (⟨S.heap.put s.next (.mitc m x v), S.next, S.next⟩ : St).blk s.next = .mitc m x v := by rw [St.blk_mk, Hp.get_put, if_pos rfl]
    have hnn : ∀ i, (⟨S.heap.put s.next (.mitc m x v), S.next, S.next⟩ : St).blk i ≠ .none ↔ S.blk i ≠ .none := fun i => by
      by_cases h0 : i = s.next
      · subst h0; rw [hb2, hSi]; simp
      · rw [hb1 i h0]
    have hml' : m < S.next := by rw [hSn]; omega
    have rel1 : Rel P lv β₁ ⟨S.heap.put s.next (.mitc m x v), S.next, S.next⟩ w1 := by
      refine ⟨fun i b hb => ⟨(hIrel.lt i b hb).1, by rw [hw1s]; exact (hIrel.lt i b hb).2⟩, fun i j b c hb hc hi hj he => hIrel.inj i j b c hb hc ((hnn i).1 hi) ((hnn j).1 hj) he, fun i b hb => ?_, Nat.le_refl _, fun i hi => ?_, hIrel.glob⟩
      · by_cases h0 : i = s.next
        · subst h0
          rw [hb2]
          rw [hbi] at hb
          cases hb
          refine ⟨rfl, hml', (hnn m).2 hsn, bm, clk, seen.push en.born, clk, cur, en, hbm1, hw1b, by rw [hw1o _ hbne]; exact hcw, by simp, ?_, hvx, hvv⟩
          rw [← Array.find?_toList]
          exact find_born en _ (by rw [← MR.borns hcr]; exact hcg.1) hen
        · rw [hb1 i h0]
          by_cases hn : S.blk i = .none
          · rw [hn]; trivial
          · have hx : b.blk ≠ w.heap.size := fun e => h0 (hIrel.inj i s.next b ⟨w.heap.size, 0, 0⟩ hb hbi hn (by rw [hSi]; simp) e)
            refine (hIrel.blk i b hb).mono (.refl _) (hw1o _ hx) fun m' k' v' bm' hB hm' g1 g2 => ⟨(hIrel.lt m' bm' hm').1, (hnn m').2 g2, ?_⟩
            have hmi' : m' ≠ s.next := fun e => by
              subst e
              have := hIrel.blk i b hb
              rw [hB] at this
              obtain ⟨_, _, _, bq, _, _, _, eq, _, f1, _, f3, _⟩ := this
              rw [hbi] at f1
              cases f1
              rw [hIit] at f3
              cases f3
            exact hw1o _ (fun e => hmi' (hIrel.inj m' s.next bm' ⟨w.heap.size, 0, 0⟩ hm' hbi g2 (by rw [hSi]; simp) e))
      · have hi : S.next ≤ i := hi
        rw [hb1 i (by rw [hSn] at hi; omega)]; exact hIrel.fresh i hi
    have dfr1 : DefOk w.heap.size β₁ w1 a'.defers := by
      refine ⟨fun d hd => ?_, hIdfr.2⟩
      obtain ⟨rr, g1, g2, g3, g4⟩ := hIdfr.1 d hd
      exact ⟨rr, g1, (hw1o rr (fun e => g3 s.next ⟨w.heap.size, 0, 0⟩ hbi e.symm)).trans g2, g3, g4⟩
    refine head_region hFf hh hIenv.size (x := .bool true) (l := [en.key, en.val]) (fun ty => by rw [hita]; exact hrun) (.inl ⟨put_getD_self (by simp only [put_size]; rw [hIenv.size]; exact l1), ?_⟩)
    have henv1 : EnvR β₁ fn.ntmps (delEnv m s.next (.func g first cap) .undef .undef) ((a'.put (some 8) (.tuple (.bool true :: [en.key, en.val]).toArray)).put (some 9) (.bool true)) := by
      refine delEnv_vr (by simp only [put_size]; exact hIenv.size) ?_ ?_ (by simp [VR]) (by simp [VR]) ?_
      · rw [put_getD_ne (by decide), put_getD_ne (by decide)]; exact hIenv.env 0
      · rw [put_getD_ne (by decide), put_getD_ne (by decide)]; exact hIenv.env 1
      · rw [put_getD_ne (by decide), put_getD_ne (by decide)]; exact hIenv.env 7
    refine wpIn_block (wpIn_seq ?_)
    have ph2 := ev_full (call := call) (nb := w.heap.size) (β₀ := β₁) (s₀ := ⟨S.heap.put s.next (.mitc m x v), S.next, S.next⟩) (w₀ := w1) (out := .ret (.tup [.map m, .func g first cap, x, v, .ptr s.next 0]) ⟨S.heap.put s.next (.mitc m x v), S.next, S.next⟩) hcs hF hFf hm fu hfn hbody 1 (.region 2 ops2 false)
      (Exit.then (fun a₂ w₂ => ∃ β₂ env, Ok P lv w.heap.size fn.ntmps β₂ ⟨S.heap.put s.next (.mitc m x v), S.next, S.next⟩ env a₂ w₂ ∧ Tr β₁ ⟨S.heap.put s.next (.mitc m x v), S.next, S.next⟩ w1 β₂ ⟨S.heap.put s.next (.mitc m x v), S.next, S.next⟩ w₂ ∧ [env 0, env 1, env 4, env 5, env 7] = [.map m, .func g first cap, x, v, .ptr s.next 0]) fun _ _ _ => False)
      (fun _ _ _ => .err) (fun _ _ => .err) (fun s env => .ret (.tup [env 0, env 1, env 4, env 5, env 7]) s) (by simp) (.inr rfl) ⟨fun i => SK.err (by simp), SK.err (by simp), fun β₂ s₂ env₂ a₂ w₂ k1 k2 k3 => by
        simp only [Out.ret.injEq, AV.tup.injEq] at k3
        obtain ⟨k3, rfl⟩ := k3
        exact ⟨β₂, env₂, k1, k2, k3⟩⟩
      β₁ ⟨S.heap.put s.next (.mitc m x v), S.next, S.next⟩ (delEnv m s.next (.func g first cap) .undef .undef) _ w1 ⟨rel1, henv1, by rw [put_defers, put_defers]; exact dfr1⟩ (.refl _ _ _) (by
        rw [h2]
        have e7 : delEnv m s.next (.func g first cap) .undef .undef 7 = .ptr s.next 0 := rfl
        rw [e7]
        simp only [entryK, hb2, extractK, lenL]
        rfl)
    refine wpIn_mono ph2 fun e a₂ w₂ hq => ?_
    cases e <;> try exact hq.elim
    obtain ⟨β₂, env₂, ok2, tr2, henv2⟩ := hq
    have hβ2 := beta_same ok2.rel tr2 rfl
    subst hβ2
    simp only [List.cons.injEq, and_true] at henv2
    obtain ⟨v0, v1, v4, v5, v7⟩ := henv2
    have hit2 : w₂.heap[w.heap.size]? = some (.mapIter (some bm.blk) clk (seen.push en.born) clk) := (tr2.oldw s.next ⟨w.heap.size, 0, 0⟩ (by show s.next < S.next; rw [hSn]; omega) hbi (by rw [hb2]; simp)).trans hw1b
    have rel2 : Rel P lv β₂ S w₂ := by
      refine ⟨fun i b hb => ⟨(hIrel.lt i b hb).1, (ok2.rel.lt i b hb).2⟩, hIrel.inj, fun i b hb => ?_, hIrel.ro, hIrel.fresh, hIrel.glob⟩
      by_cases h0 : i = s.next
      · subst h0; rw [hSi]; trivial
      · have h2 := ok2.rel.blk i b hb
        rw [hb1 i h0] at h2
        exact BlkR.back (.refl _) (hIrel.blk i b hb) h2 fun _ _ _ _ h3 h4 => ⟨h3, h4⟩
    have trS2 : Tr β s w β₂ S w₂ := by
      have hsz2 : w.heap.size ≤ w₂.heap.size := Nat.le_trans hItr.size (by rw [← hw1s]; exact tr2.size)
      refine ⟨hItr.le, hItr.late, hsz2, hItr.next, hItr.ro, hItr.old, hItr.new, fun y hy hny => ?_, fun i b hi hb hn => ?_, fun i b hb hd => ?_, tr2.io.1.trans (hio1.1.trans hItr.io.1), tr2.io.2.trans (hio1.2.trans hItr.io.2)⟩
      · have hn1 : ∀ i b, β₂ i = some b → b.blk ≠ y := fun i b hb => by
          rcases hItr.new i b hb with g | g | ⟨j, c, g1, g2⟩
          · exact hny i b g
          · intro e; subst e; exact absurd hy (Nat.not_lt.2 g)
          · rw [← g2]; exact hny j c g1
        have hy1 : y < w1.heap.size := by rw [hw1s]; exact Nat.lt_of_lt_of_le hy hItr.size
        rw [tr2.frame y hy1 hn1, hw1o y (by omega), hItr.frame y hy hny]
      · have hin : i < s.next := Nat.lt_of_lt_of_le hi hr.ro
        have hbl : b.blk < w.heap.size := (hr.lt i b hb).2
        rw [tr2.oldw i b (by show i < S.next; rw [hSn]; omega) (hItr.le _ _ hb) (by rw [hb1 i (by omega), hItr.old i hi]; exact hn), hw1o _ (by omega), hItr.oldw i b hi hb hn]
      · have hin : i < s.next := (hr.lt i b hb).1
        have hbl : b.blk < w.heap.size := (hr.lt i b hb).2
        obtain ⟨k1, k2⟩ := hItr.dark i b hb hd
        exact ⟨k1, by rw [(tr2.dark i b (hItr.le _ _ hb) (by rw [hb1 i (by omega)]; exact k1)).2, hw1o _ (by omega), k2]⟩
    -- the predicate; what is struck out
    let D' : Nat → Bool := fun b => (seen.push en.born).contains b && pr b
    have hD' : (if pr en.born then (es.keep fun b => seen.contains b && pr b).erase x else es.keep fun b => seen.contains b && pr b) = es.keep D' := by
      split
      · rename_i hp
        rw [(keep_find hkeys hgood.1 hhas (by rw [hens]; rfl)).2]
        refine ME.keep_congr fun c _ => ?_
        simp only [D', Array.contains_push]
        cases hcb : Nat.beq c en.born with
        | true => rw [beq_eq hcb, hp]; simp
        | false =>
          have : (c == en.born) = false := by
            cases hx : c == en.born with
            | false => rfl
            | true => rw [beq_iff_eq.1 hx, Nat.beq_refl] at hcb; cases hcb
          have this' : (en.born == c) = false := by
            cases hx : en.born == c with
            | false => rfl
            | true => rw [beq_iff_eq.1 hx] at hcb; rw [Nat.beq_refl] at hcb; cases hcb
          simp [this, this']
      · rename_i hp
        refine ME.keep_congr fun c _ => ?_
        simp only [D', Array.contains_push]
        by_cases hcb : c = en.born
        · subst hcb
          have hp' : pr en.born = false := by simpa using hp
          rw [hp']; simp
        · have : (c == en.born) = false := by simpa using hcb
          have this' : (en.born == c) = false := by simpa using Ne.symm hcb
          simp [this, this']
    have hintx := keysOk_int hkeys hhas
    obtain ⟨kx, nx, rfl⟩ := hintx
    have hev3 : ev P (frz m call) (lv f) fu f fn.ntmps 5 X (fun _ _ _ => .err) (fun _ _ => .err) (fun s env => .ret (.tup [env 0, env 1, env 7]) s) S (delEnv m s.next (.func g first cap) (.int kx nx) v) = .ret (.tup [.map m, .func g first cap, .ptr s.next 0]) ((s.new .dark).put m (.map (es.keep D') clk)) := by
      rw [h3]
      have E0 : delEnv m s.next (.func g first cap) (.int kx nx) v 0 = .map m := rfl
      have E1 : delEnv m s.next (.func g first cap) (.int kx nx) v 1 = .func g first cap := rfl
      have E4 : delEnv m s.next (.func g first cap) (.int kx nx) v 4 = .int kx nx := rfl
      have E5 : delEnv m s.next (.func g first cap) (.int kx nx) v 5 = v := rfl
      have E7 : delEnv m s.next (.func g first cap) (.int kx nx) v 7 = .ptr s.next 0 := rfl
      rw [E0, E1, E4, E5, E7]
      have hst : (⟨S.heap.put m .dark, S.next, S.next⟩ : St) = ⟨(s.new .dark).heap.put m .dark, (s.new .dark).next, (s.new .dark).next⟩ := by rw [hheap, hSn]; rfl
      have hfz : frz m call g (appL first (appL [.int kx nx, v] cap)) S = .ret (.bool (pr en.born)) S := by
        unfold frz
        rw [hc.1, cond_true, hSm]
        simp only [hst]
        rw [hcallx]
      simp only [callVK, hc.1, cond_true, hfz, outK]
      cases hp : pr en.born with
      | false =>
        rw [hp, if_neg (by simp)] at hD'
        simp only [condK]
        rw [← hD', hS]
      | true =>
        rw [hp, if_pos rfl] at hD'
        have hf := (keep_find hkeys hgood.1 hhas (p := fun b => seen.contains b && pr b) (by rw [hens]; rfl)).1
        simp only [condK, deleteK, mapK, hSm, keyK, hf, putK_eq, hSr]
        rw [if_neg (Nat.not_lt.2 hro1), hput, hD']
    have ph3 := ev_full (call := frz m call) (nb := w.heap.size) (β₀ := β₂) (s₀ := S) (w₀ := w₂) (out := .ret (.tup [.map m, .func g first cap, .ptr s.next 0]) ((s.new .dark).put m (.map (es.keep D') clk))) (frz_sound hcs m) hF hFf hm fu hfn hbody 5 X
      (Exit.then (fun a₃ w₃ => ∃ β₃ env, Ok P lv w.heap.size fn.ntmps β₃ ((s.new .dark).put m (.map (es.keep D') clk)) env a₃ w₃ ∧ Tr β₂ S w₂ β₃ ((s.new .dark).put m (.map (es.keep D') clk)) w₃ ∧ [env 0, env 1, env 7] = [.map m, .func g first cap, .ptr s.next 0]) fun _ _ _ => False)
      (fun _ _ _ => .err) (fun _ _ => .err) (fun s env => .ret (.tup [env 0, env 1, env 7]) s) (by simp) (.inr hX) ⟨fun i => SK.err (by simp), SK.err (by simp), fun β₃ s₃ env₃ a₃ w₃ k1 k2 k3 => by
        simp only [Out.ret.injEq, AV.tup.injEq] at k3
        obtain ⟨k3, rfl⟩ := k3
        exact ⟨β₃, env₃, k1, k2, k3⟩⟩
      β₂ S (delEnv m s.next (.func g first cap) (.int kx nx) v) a₂ w₂ ⟨rel2, delEnv_vr ok2.env.size (by rw [← v0]; exact ok2.env.env 0) (by rw [← v1]; exact ok2.env.env 1) (by rw [← v4]; exact ok2.env.env 4) (by rw [← v5]; exact ok2.env.env 5) (by rw [← v7]; exact ok2.env.env 7), ok2.dfr⟩ (.refl _ _ _) hev3
    refine wpIn_mono ph3 fun e a₃ w₃ hq => ?_
    cases e <;> try exact hq.elim
    obtain ⟨β₃, env₃, ok3, tr3, henv3⟩ := hq
    have hβ3 := beta_same ok3.rel tr3 (by rw [hSn]; rfl)
    subst hβ3
    simp only [List.cons.injEq, and_true] at henv3
    obtain ⟨u0, u1, u7⟩ := henv3
    have hI3 : DI P lv fn.ntmps β s w β₃ (s.new .dark) m s.next (.func g first cap) es clk pr ⟨w.heap.size, 0, 0⟩ bm (seen.push en.born) a₃ w₃ :=
      ⟨ok3.rel, trS2.trans tr3, delEnv_vr ok3.env.size (by rw [← u0]; exact ok3.env.env 0) (by rw [← u1]; exact ok3.env.env 1) (by simp [VR]) (by simp [VR]) (by rw [← u7]; exact ok3.env.env 7), ok3.dfr,
        ((tr3.dark s.next ⟨w.heap.size, 0, 0⟩ hbi hSi).2).trans hit2⟩
    refine ⟨⟨_, hI3⟩, ?_⟩
    rw [hμ hI3, hμ hI]
    refine filter_lt _ _ ?_ en.born ?_ ?_ _ hhas.born
    · intro c hcc
      simp only [Array.contains_push, Bool.not_or, Bool.and_eq_true] at hcc
      first | exact hcc.1 | exact hcc.2
    · rw [hens]; rfl
    · simp

def delParts (fn : Func) : Array Oper × Array Oper × Array Oper × Code := match codeOf fn with
  | .seq (.region _ o0 _) (.block _ (.loop (.seq (.region _ o1 _) (.seq _ (.block _ (.seq (.region _ o2 _) X)))))) => (o0, o1, o2, X)
  | _ => (#[], #[], #[], .skip)
theorem ent_del (hF : F.depth = none) (hFf : ∀ f, F.fn f) (hro : F.round = none) (hm : P.follows .mixedOrders = true) {f : Nat} {fn : Func} {T kt el : TypeId}
    (hf : Nat.blt f 65536 = true) (hfn : P.funcs[f]? = some fn) (hbody : fn.body = some (delCode (delParts fn).1 (delParts fn).2.1 (delParts fn).2.2.1 (delParts fn).2.2.2)) (hcall : ∀ args w, (callFunc f args).run P w = .ok (.enter f args) w) (hres : fn.results = #[]) (hnt : fn.ntmps = 19)
    (hT : P.underlying T = some (.map kt el)) (hops : (delParts fn).1.toList = [(delParts fn).1.getD 0 default, (delParts fn).1.getD 1 default]) (hd1 : ((delParts fn).1.getD 0 default).dst = some 6) (hp1 : ((delParts fn).1.getD 0 default).op = .move (.tmp 0)) (hg1 : ((delParts fn).1.getD 0 default).guard = none)
    (hd2 : ((delParts fn).1.getD 1 default).dst = some 7) (hp2 : ((delParts fn).1.getD 1 default).op = .range T (.tmp 6)) (hg2 : ((delParts fn).1.getD 1 default).guard = none)
    (hhead : mapHead fn.ntmps (delParts fn).2.1.toList 9 = some (7, 8)) (hX : noRF (delParts fn).2.2.2 = true)
    (h2 : ∀ fu call s env, ev P call (lv f) fu f fn.ntmps 1 (.region 2 (delParts fn).2.2.1 false) (fun _ _ _ => .err) (fun _ _ => .err) (fun s env => .ret (.tup [env 0, env 1, env 4, env 5, env 7]) s) s env =
      entryK s (env 7) fun tu => extractK tu 0 fun x => extractK tu 1 fun v => .ret (.tup [env 0, env 1, x, v, env 7]) s)
    (h3 : ∀ fu call s env, ev P call (lv f) fu f fn.ntmps 5 (delParts fn).2.2.2 (fun _ _ _ => .err) (fun _ _ => .err) (fun s env => .ret (.tup [env 0, env 1, env 7]) s) s env =
      callVK call (env 1) [env 4, env 5] s fun b s => condK b (deleteK .map s (env 0) (env 4) fun _ s => .ret (.tup [env 0, env 1, env 7]) s) (.ret (.tup [env 0, env 1, env 7]) s)) :
    EntOk F P lv (f, ⟨delF⟩) :=
  .inl ⟨blt_lt hf, fun call fu hcs => del_ok hcs hF hFf hro hm fu hfn hbody hcall hres hnt hT hops hd1 hp1 hg1 hd2 hp2 hg2 hhead hX (h2 fu) (h3 fu), fun _ _ _ _ _ _ _ _ => hcall⟩
end
end
end Go.Ev
