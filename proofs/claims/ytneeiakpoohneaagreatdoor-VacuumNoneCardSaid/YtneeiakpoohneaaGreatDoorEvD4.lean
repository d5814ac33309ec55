/- Regions whose order is drawn: every order. -/
import Derived.Test.YtneeiakpoohneaaGreatDoorEvD3
set_option linter.all false
set_option linter.unusedSimpArgs false
set_option linter.unusedVariables false
namespace Go.Ev
section
variable {P : Program} {lv : Nat → Nat → Nat → Option (List Tmp)} {lf : Nat → Nat → Option (List Tmp)} {F : Fence} {call : Call} {nb n : Nat} {out : Out} {β₀ : Bt} {s₀ : St} {w₀ : World} {ops : Array Oper} {bef : Array Nat} {nx : K}
variable {G : Env} {E R : List Nat} {fl : Fl} {L : Array Bool} {rc : Nat → Rc} {β : Bt} {s : St} {env : Env} {a : Act} {w : World} {Q : Exit → Act → World → Prop}

theorem Sim.restr (h : Sim P lv call nb n ops bef β₀ s₀ w₀ G E R fl L rc β s env a w) (l : List Tmp) : Sim P lv call nb n ops bef β₀ s₀ w₀ G E R fl L rc β s (restrict l env) a w := by
  refine ⟨h.rel, h.tr, h.dfr, h.size, h.lsz, h.sub, h.closed, h.cover, h.chk, h.down, h.val, h.base, fun t => ?_, h.late, h.lenv, h.ids, h.inE, h.dlt⟩
  have : restrict l env t = .undef ∨ restrict l env t = env t := by
    unfold restrict
    induction l with
    | nil => exact .inl rfl
    | cons x l ih =>
      show (bif Nat.beq t x then env x else Ev.mk (l.map fun t => (t, env t)) t) = .undef ∨ (bif Nat.beq t x then env x else Ev.mk (l.map fun t => (t, env t)) t) = env t
      cases hx : Nat.beq t x with
      | true => have := beq_eq hx; subst this; exact .inr rfl
      | false => exact ih
  rcases this with e | e
  · exact .inl e
  · rw [e]; exact h.env t
theorem Sim.clear (h : Sim P lv call nb n ops bef β₀ s₀ w₀ G E R fl L rc β s env a w) (hs : ∀ x ∈ fl, ∀ e ∈ R, effAt ops e = true → Bf bef e x.1) : Sim P lv call nb n ops bef β₀ s₀ w₀ G E R [] L rc β s env a w := by
  refine ⟨h.rel, h.tr, h.dfr, h.size, h.lsz, h.sub, h.closed, h.cover, h.chk, h.down, h.val, h.base, h.env, fun i hi hn o ho => ?_, h.lenv, h.ids, h.inE, h.dlt⟩
  cases h.late i hi hn o ho with
  | skip h1 h2 h3 => exact .skip h1 h2 h3
  | pure h1 h2 h3 => exact .pure h1 h2 h3
  | load t a h1 h2 h3 h4 h5 =>
    refine .load t a h1 h2 h3 (.inr ?_) h5
    rcases h4 with h4 | h4
    · exact fun x hx he => hs _ h4 x hx he
    · exact h4
  | read h1 h2 h3 h4 => exact .read h1 h2 h3 h4
  | new m t c h1 h2 h3 h4 h5 h6 h7 h8 h9 => exact .new m t c h1 h2 h3 h4 h5 h6 h7 h8 h9

theorem Sim.advSkip (hc : Chk1 bef ops) {x : Nat} (h : Sim P lv call nb n ops bef β₀ s₀ w₀ G E (x :: R) fl L rc β s env a w) {o : Oper} (ho : ops[x]? = some o) (hs : skipE ops o env) (hd : ∀ t, o.dst = some t → t < n) :
    ∃ rc', Sim P lv call nb n ops bef β₀ s₀ w₀ G (x :: E) R fl L rc' β s (setD o.dst (.tup []) env) a w :=
  ⟨_, h.adv hc (r := ⟨.tup [], env, 0, false⟩) ho hd rfl h.rel (.refl _ _ _) (.refl _) (fun _ h => h) (.skip hs rfl rfl) (fun h => by cases h)⟩

def flOf (P : Program) (x : Nat) (o : Op) (env : Env) (v : AV) (fl : Fl) : Fl := match o with | .load t a => (x, tf P t, opv P env a, v) :: fl | _ => fl
theorem flOf_sub {x : Nat} {o : Op} {v : AV} : ∀ y ∈ fl, y ∈ flOf P x o env v fl := fun y hy => by
  unfold flOf
  split
  · exact List.mem_cons_of_mem _ hy
  · exact hy
theorem Sim.advStep (hc : Chk1 bef ops) {x : Nat} (h : Sim P lv call nb n ops bef β₀ s₀ w₀ G E (x :: R) fl L rc β s env a w) {o : Oper} {k : AV → St → Out} (ho : ops[x]? = some o) (hw : wantedE ops o env) (hk : evOp P call o.op s env k = out) (hout : out ≠ .err)
    (hd : ∀ v s', k v s' = out → ∀ t, o.dst = some t → t < n) (hf : effect o.op = false) : ∃ v s' rc', k v s' = out ∧ Sim P lv call nb n ops bef β₀ s₀ w₀ G (x :: E) R (flOf P x o.op env v fl) L rc' β s' (setD o.dst v env) a w := by
  obtain ⟨o', ho', _, _, _, hfl, _⟩ := chk2_cons h.chk
  rw [ho] at ho'
  cases ho'
  obtain ⟨h1, h2⟩ := hfl hf
  simp only [floatOk, Bool.or_eq_true] at h1
  cases hp : pureOp P o.op with
  | true =>
    obtain ⟨v, g1, g2⟩ := pureR env hp s k out hk hout
    exact ⟨v, s, _, g1, h.adv hc (r := ⟨v, env, 0, false⟩) ho (hd _ _ g1) rfl h.rel (.refl _ _ _) (.refl _) flOf_sub (.pure hw g2 rfl) (fun h => by cases h)⟩
  | false =>
    cases hn : newOp o.op with
    | true =>
      obtain ⟨m, t, c, g1, g2⟩ := newR env hn s k out hk hout
      obtain ⟨r1, r2⟩ := h.rel.newId (.row t c)
      exact ⟨_, _, _, g1, h.adv hc (r := ⟨m.at s.next, env, s.next, true⟩) ho (hd _ _ g1) rfl r1 r2 (Ext.new h.rel.fresh _) flOf_sub
        (.new m t c hw hn rfl (h.rel.none_next (Nat.le_refl _)) (Nat.lt_succ_self _) h.tr.next (by rw [St.blk_new, if_pos rfl]) g2 rfl) (fun _ => rfl)⟩
    | false =>
      rw [hp, hn] at h1
      have hr : readOp P o.op = true := by simpa using h1
      obtain ⟨v, g1, g2⟩ := readR env hr s k out hk hout
      refine ⟨v, s, _, g1, h.adv hc (r := ⟨v, env, 0, false⟩) ho (hd _ _ g1) rfl h.rel (.refl _ _ _) (.refl _) flOf_sub ?_ (fun h => by cases h)⟩
      cases hl : isLoad o.op with
      | true =>
        cases hop : o.op <;> rw [hop] at hl <;> simp only [isLoad, reduceCtorEq] at hl
        rename_i t a
        refine .load t a hw hop g2 (.inl ?_) rfl
        simp [flOf]
      | false =>
        refine .read hw g2 ?_ rfl
        rcases h2 with h2 | h2
        · simp only [lateOk, hp, hn, hl, Bool.or_self] at h2; cases h2
        · exact h2

theorem execLate (hc : Chk1 bef ops) (hcs : CallSound F P lv call) (hF : F.depth = none) (hFf : ∀ f, F.fn f) (h : Sim P lv call nb n ops bef β₀ s₀ w₀ G E R fl L rc β s env a w) {i : Nat} {o : Oper} (hi : i ∈ E) (hn : ¬ lst L i) (ho : ops[i]? = some o)
    (hready : ∀ e ∈ o.after, Region.binds .any e = true → lst L e.on) {N : Act → World → Prop} (hN : ∀ β' a' w', Sim P lv call nb n ops bef β₀ s₀ w₀ G E R fl (L.setIfInBounds i true) rc β' s env a' w' → N a' w') : wpOpIn F 0 P ops Q i N a w := by
  have hB := listedB hc h.closed i o ho hready
  have he := h.lateEnv hc hi hn ho hB
  unfold wpOpIn
  simp only [ho]
  have run : wantedE ops o (rc i).e → (∀ k2, evOp P call o.op s (rc i).e k2 = k2 (rc i).v s) → (if Region.wanted o (yielded ops a.tmps) = true then Oper.wpIn F 0 P o a w N Q else (∀ f, o.about P w a.eval = some f → F.fn f) ∧ N (a.put o.dst undef) w) := by
    intro hw hrep
    rw [wanted_of he hw, if_pos rfl]
    refine ⟨fun f _ => hFf f, evOp_sound (env := only (o.looksAt ops) (rc i).e) (k := fun v s => .ret v s) (out := .ret (rc i).v s) hcs hF h.rel he (by rw [evOp_only, hrep]) (by simp) ?_⟩
    intro β' s' w' v u hr' ht' hv hk
    cases hk
    exact hN β' _ w' (h.exec hc hi hn ho hready hr' (h.tr.trans ht') ht'.le (h.dfr.tr ht') hv (fun j _ _ _ _ h1 h2 _ => (ht'.late _ h2 h1).1))
  cases h.late i hi hn o ho with
  | skip h1 h2 h3 =>
    rw [unwanted_of he h1, if_neg (by simp)]
    exact ⟨fun f _ => hFf f, hN β _ w (h.exec hc hi hn ho hready h.rel h.tr (.refl _) h.dfr (by rw [h2]; simp only [VR]; exact ⟨#[], rfl, by simp [LR]⟩) (fun _ _ _ _ _ h _ _ => h))⟩
  | pure h1 h2 h3 => exact run h1 (h2 s)
  | load t a h1 h2 h3 h4 h5 => exact run h1 (h3 s (.refl _))
  | read h1 h2 h3 h4 => exact run h1 (h2 s (.refl _))
  | new m t c h1 h2 h3 h4 h5 h6 h7 h8 h9 =>
    rw [wanted_of he h1, if_pos rfl]
    obtain ⟨m', t', c', cs, v, w', g1, ⟨g2, gio⟩, g3, g4, g5, g6, g7⟩ := newCore (k := fun v s => .ret v s) (out := .ret (m.at s.next) (s.new (.row t c))) h.rel he h2 (by rw [evOp_only, h8]) (by simp)
    simp only [Out.ret.injEq] at g7
    obtain ⟨g7, g8⟩ := g7
    obtain rfl := Mk.inj g7
    have g9 : (s.new (.row t' c')).blk s.next = (s.new (.row t c)).blk s.next := by rw [g8]
    rw [St.blk_new, St.blk_new, if_pos rfl, if_pos rfl] at g9
    cases g9
    refine ⟨fun f _ => hFf f, ?_⟩
    rw [Oper.semAt_eq _ _ _ (by intro c hop; rw [hop] at h2; cases h2), g1]
    simp only [Oper.uponIn]
    have hle := Bt.le_add (b := ⟨w.heap.size, 0, cs.size⟩) h4
    have hold : ∀ x, x < w.heap.size → w'.heap[x]? = w.heap[x]? := fun x hx => by rw [g2, Array.getElem?_push, if_neg (by omega)]
    have hsz : w.heap.size ≤ w'.heap.size := by rw [g2]; simp
    have hadd : ∀ j b, (β.add (rc i).id ⟨w.heap.size, 0, cs.size⟩) j = some b → β j = some b ∨ b.blk = w.heap.size := by
      intro j b hb
      simp only [Bt.add] at hb
      split at hb
      · cases hb; exact .inr rfl
      · exact .inl hb
    refine hN (β.add (rc i).id ⟨w.heap.size, 0, cs.size⟩) _ w' (h.exec hc hi hn ho hready (h.rel.addRow h5 h4 h7 g2 g3 g4 g5 (.inl (Nat.le_refl _))) ?_ hle ?_ ?_ ?_)
    · refine ⟨h.tr.le.trans hle, fun j hj hjn => ⟨?_, (h.tr.late j hj hjn).2⟩, Nat.le_trans h.tr.size hsz, h.tr.next, h.tr.ro, h.tr.old, fun j b hb => ?_, fun x hx hxn => ?_, fun j b h1 h2 h3 => ?_, fun j b hb hd => ⟨(h.tr.dark j b hb hd).1, by rw [hold b.blk ((h.rel.lt j b (h.tr.le _ _ hb)).2)]; exact (h.tr.dark j b hb hd).2⟩, gio.1.trans h.tr.io.1, gio.2.trans h.tr.io.2⟩
      · simp only [Bt.add]
        rw [if_neg (fun e => by rw [e] at hj; exact absurd h6 (Nat.not_le.2 hj))]
        exact (h.tr.late j hj hjn).1
      · rcases hadd j b hb with g | g
        · exact h.tr.new j b g
        · right; left; rw [g]; exact h.tr.size
      · rw [hold x (Nat.lt_of_lt_of_le hx h.tr.size), h.tr.frame x hx hxn]
      · rw [hold b.blk (Nat.lt_of_lt_of_le ((h.rel.lt j b (h.tr.le _ _ h2)).2) (Nat.le_refl _)), h.tr.oldw j b h1 h2 h3]
    · refine ⟨fun d hd => ?_, h.dfr.2⟩
      obtain ⟨r, q1, q2, q3, q4⟩ := h.dfr.1 d hd
      have hr : r < w.heap.size := (Array.getElem?_eq_some_iff.1 q2).1
      refine ⟨r, q1, (hold r hr).trans q2, fun j b hb => ?_, q4⟩
      rcases hadd j b hb with g | g
      · exact q3 j b g
      · rw [g]; omega
    · rw [h3]; exact g6 _ _ (Bt.add_self _ _)
    · intro j hj hnj hji hw hjn _ _
      simp only [Bt.add]
      rw [if_neg]
      · exact hjn
      · intro e
        exact hji (h.ids j i hj hi hnj hn hw h9 e)

theorem Late.eff {nx₀ j i : Nat} {o : Oper} {r : Rc} {β' : Bt} {s' : St} {w' : World} (h : Late P call ops bef (i :: R) fl β s nx₀ j o r) (hnb : ¬ Bf bef i j) (hei : effAt ops i = true)
    (hag : ∀ x ∈ fl, ¬ Bf bef i x.1 → ∀ k2, loadK x.2.1 s' x.2.2.1 k2 = k2 x.2.2.2) (ht : Tr β s w β' s' w') : Late P call ops bef R fl β' s' nx₀ j o r := by
  cases h with
  | skip h1 h2 h3 => exact .skip h1 h2 h3
  | pure h1 h2 h3 => exact .pure h1 h2 h3
  | load t a h1 h2 h3 h4 h5 =>
    rcases h4 with h4 | h4
    · have hl := hag _ h4 hnb
      refine .load t a h1 h2 (fun s2 hs k2 => ?_) (.inl h4) h5
      have hty : tyOk P t = true := by
        have := h3 s (.refl _) (fun v s => .ret v s)
        rw [h2] at this
        simp only [evOp] at this
        cases hy : tyOk P t with
        | true => rfl
        | false => rw [hy] at this; cases this
      obtain ⟨v', q1, q2⟩ := Step2.load (tf P t) (opv P r.e a) s' (fun v => .ret v s') (.ret r.v s') (hl _) (by simp)
      simp only [Out.ret.injEq, and_true] at q1
      subst q1
      rw [h2]
      simp only [evOp, hty, cond_true]
      exact q2 s2 hs _
    · exact absurd (h4 i (List.mem_cons_self ..) hei) hnb
  | read h1 h2 h3 h4 => exact absurd (h3 i (List.mem_cons_self ..) hei) hnb
  | new m t c h1 h2 h3 h4 h5 h6 h7 h8 h9 => exact .new m t c h1 h2 h3 (ht.late _ h5 h4).1 (Nat.lt_of_lt_of_le h5 ht.next) h6 ((ht.late _ h5 h4).2.trans h7) h8 h9

theorem execEff (hc : Chk1 bef ops) (hcs : CallSound F P lv call) (hF : F.depth = none) (hFf : ∀ f, F.fn f) {i : Nat} (h : Sim P lv call nb n ops bef β₀ s₀ w₀ G E (i :: R) fl L rc β s env a w) {o : Oper} {k : AV → St → Out} (ho : ops[i]? = some o)
    (hn : ¬ lst L i) (hw : wantedE ops o env) (hk : evOp P call o.op s env k = out) (hout : out ≠ .err) (hd : ∀ v s', k v s' = out → ∀ t, o.dst = some t → t < n) (heff : effect o.op = true)
    (hag : ∀ v s', k v s' = out → ∀ x ∈ fl, ¬ Bf bef i x.1 → ∀ k2, loadK x.2.1 s' x.2.2.1 k2 = k2 x.2.2.2)
    (hready : ∀ e ∈ o.after, Region.binds .any e = true → lst L e.on) {N : Act → World → Prop}
    (hN : ∀ β' v s' a' w' rc', k v s' = out → Sim P lv call nb n ops bef β₀ s₀ w₀ G (i :: E) R fl (L.setIfInBounds i true) rc' β' s' (setD o.dst v env) a' w' → N a' w') : wpOpIn F 0 P ops Q i N a w := by
  have hB := listedB hc h.closed i o ho hready
  have he := h.headEnv hc ho hB
  obtain ⟨o', ho', hnE, hbE, _, _, hchk⟩ := chk2_cons h.chk
  have his := (Array.getElem?_eq_some_iff.1 ho).1
  have hgi := guardT_of (ops := ops) ho
  have hiL : i < L.size := by rw [h.lsz]; exact his
  have hset := lst_set hiL
  have hei : effAt ops i = true := by
    have : ops.getD i default = o := by simp [Array.getD_eq_getD_getElem?, ho]
    unfold effAt; rw [this]; exact heff
  unfold wpOpIn
  simp only [ho]
  rw [wanted_of he hw, if_pos rfl]
  refine ⟨fun f _ => hFf f, evOp_sound (env := only (o.looksAt ops) env) (k := k) (out := out) hcs hF h.rel he (by rw [evOp_only, hk]) hout ?_⟩
  intro β' s' w' v u hr' ht' hv hkv
  have hrcE : ∀ j ∈ E, (if j = i then (⟨v, env, 0, false⟩ : Rc) else rc j) = rc j := fun j hj => if_neg fun e => hnE (by rw [← e]; exact hj)
  refine hN β' v s' _ w' (fun j => if j = i then ⟨v, env, 0, false⟩ else rc j) hkv ⟨hr', h.tr.trans ht', by rw [put_defers]; exact h.dfr.tr ht', by rw [put_size]; exact h.size, by simpa using h.lsz, fun j hj => ?_, fun j oj hj hoj e he' hb => ?_, fun j hj => ?_, hchk, fun j hj y hy hb => ?_, fun j t hj ht => ?_, fun t ht => ?_, fun t => ?_, fun j hj hnj oj hoj => ?_, fun j hj hnj oj hoj t ht => ?_, fun j y hj hy hnj hny h1 h2 h3 => ?_, fun j hj => ?_, fun j hj t ht => ?_⟩
  · rcases (hset j).1 hj with rfl | hj
    · exact List.mem_cons_self ..
    · exact List.mem_cons_of_mem _ (h.sub j hj)
  · rcases (hset j).1 hj with rfl | hj
    · rw [ho] at hoj; cases hoj
      exact (hset _).2 (.inr (hready e he' hb))
    · exact (hset _).2 (.inr (h.closed j oj hj hoj e he' hb))
  · rcases h.cover j hj with g | g
    · exact .inl (List.mem_cons_of_mem _ g)
    · rcases List.mem_cons.1 g with rfl | g
      · exact .inl (List.mem_cons_self ..)
      · exact .inr g
  · rcases List.mem_cons.1 hj with rfl | hj
    · exact List.mem_cons_of_mem _ (hbE y hy hb)
    · exact List.mem_cons_of_mem _ (h.down j hj y hy hb)
  · by_cases hji : j = i
    · subst hji
      rw [hgi] at ht
      rw [ht, put_getD_self (by rw [h.size]; exact hd v s' hkv t ht)]
      simp only [if_true]
      exact hv
    · have hj' : lst L j := ((hset j).1 hj).resolve_left hji
      rw [put_getD_of (hc.one i j o t ho (Ne.symm hji) ht), if_neg hji]
      exact (h.val j t hj' ht).mono ht'.le
  · have h1 : o.dst ≠ some t := by rw [← hgi]; exact ht i ((hset i).2 (.inl rfl))
    rw [put_getD_of h1]
    exact (h.base t fun j hj => ht j ((hset j).2 (.inr hj))).mono ht'.le
  · by_cases ht : o.dst = some t
    · right; left
      refine ⟨i, List.mem_cons_self .., by rw [hgi]; exact ht, ?_⟩
      rw [ht, setD_self, if_pos rfl]
    · rw [setD_of ht]
      rcases h.env t with he | ⟨j, hj, hg, he⟩ | ⟨hno, he⟩
      · exact .inl he
      · exact .inr (.inl ⟨j, List.mem_cons_of_mem _ hj, hg, by rw [hrcE j hj]; exact he⟩)
      · refine .inr (.inr ⟨fun j hj => ?_, he⟩)
        rcases List.mem_cons.1 hj with rfl | hj
        · rw [hgi]; exact ht
        · exact hno j hj
  · have hji : j ≠ i := fun e => hnj ((hset j).2 (.inl e))
    have hjE : j ∈ E := (List.mem_cons.1 hj).resolve_left hji
    have hnj' : ¬ lst L j := fun e => hnj ((hset j).2 (.inr e))
    rw [hrcE j hjE]
    exact (h.late j hjE hnj' oj hoj).eff (fun hb => hnj' (hB j (h.inE j hjE) hb)) hei (hag v s' hkv) ht'
  · have hji : j ≠ i := fun e => hnj ((hset j).2 (.inl e))
    have hjE : j ∈ E := (List.mem_cons.1 hj).resolve_left hji
    have hnj' : ¬ lst L j := fun e => hnj ((hset j).2 (.inr e))
    have hkeep : ∀ y, Bf bef j y → guardT ops y = some t → (if y = i then (⟨v, env, 0, false⟩ : Rc) else rc y) = rc y := fun y hb hg => hrcE y (h.down j hjE y (guardT_lt hg) hb)
    rw [hrcE j hjE]
    rcases h.lenv j hjE hnj' oj hoj t ht with he | ⟨y, hb, hg, he⟩ | he
    · exact .inl he
    · exact .inr (.inl ⟨y, hb, hg, by rw [hkeep y hb hg]; exact he⟩)
    · exact .inr (.inr he)
  · have hji : j ≠ i := fun e => hnj ((hset j).2 (.inl e))
    have hyi : y ≠ i := fun e => hny ((hset y).2 (.inl e))
    have hjE : j ∈ E := (List.mem_cons.1 hj).resolve_left hji
    have hyE : y ∈ E := (List.mem_cons.1 hy).resolve_left hyi
    rw [hrcE j hjE] at h1 h3
    rw [hrcE y hyE] at h2 h3
    exact h.ids j y hjE hyE (fun e => hnj ((hset j).2 (.inr e))) (fun e => hny ((hset y).2 (.inr e))) h1 h2 h3
  · rcases List.mem_cons.1 hj with rfl | hj
    · exact his
    · exact h.inE j hj
  · rcases List.mem_cons.1 hj with rfl | hj
    · exact hd v s' hkv t (by rw [← hgi]; exact ht)
    · exact h.dlt j hj t ht

/-- the head of what remains -/
inductive HeadR (P : Program) (call : Call) (n : Nat) (ops : Array Oper) (bef : Array Nat) (out : Out) (nx : K) (i : Nat) (R : List Nat) (fl : Fl) (s : St) (env : Env) : Prop
  | step (o : Oper) (k : AV → St → Out) : ops[i]? = some o → wantedE ops o env → evOp P call o.op s env k = out → (∀ v s', k v s' = out → ∀ t, o.dst = some t → t < n) →
      (effect o.op = true → ∀ v s', k v s' = out → ∀ x ∈ fl, ¬ Bf bef i x.1 → ∀ k2, loadK x.2.1 s' x.2.2.1 k2 = k2 x.2.2.2) →
      (effect o.op = true → ∀ v s', k v s' = out → Run P call n ops bef out nx R fl s' (setD o.dst v env)) →
      (effect o.op = false → ∀ v s', k v s' = out → Run P call n ops bef out nx R (flOf P i o.op env v fl) s' (setD o.dst v env)) → HeadR P call n ops bef out nx i R fl s env
  | skip (o : Oper) : ops[i]? = some o → skipE ops o env → (∀ t, o.dst = some t → t < n) → Run P call n ops bef out nx R fl s (setD o.dst (.tup []) env) → HeadR P call n ops bef out nx i R fl s env

theorem toHead (hc : Chk1 bef ops) (hout : out ≠ .err) {i : Nat} (hr : Run P call n ops bef out nx R fl s env) : ∀ {E : List Nat} {rc : Nat → Rc}, Sim P lv call nb n ops bef β₀ s₀ w₀ G E R fl L rc β s env a w → i ∈ R → (∀ j, j < ops.size → Bf bef i j → lst L j) →
    ∃ E' R' fl' rc' s' env', Sim P lv call nb n ops bef β₀ s₀ w₀ G E' (i :: R') fl' L rc' β s' env' a w ∧ HeadR P call n ops bef out nx i R' fl' s' env' := by
  induction hr with
  | nil _ => intro E rc _ hi; cases hi
  | restr l _ ih => intro E rc h hi hb; exact ih (h.restr l) hi hb
  | clear hs _ ih => intro E rc h hi hb; exact ih (h.clear hs) hi hb
  | @step R fl s env x o k h1 h2 h3 h4 h5 h6 h7 ih1 ih2 =>
    intro E rc h hi hb
    by_cases hix : i = x
    · subst hix
      exact ⟨E, R, fl, rc, s, env, h, .step o k h1 h2 h3 h4 h5 h6 h7⟩
    · have hiR : i ∈ R := (List.mem_cons.1 hi).resolve_left hix
      obtain ⟨o', ho', hnE, _, heR, _, _⟩ := chk2_cons h.chk
      rw [h1] at ho'
      cases ho'
      have hxs := (Array.getElem?_eq_some_iff.1 h1).1
      cases hf : effect o.op with
      | true => exact absurd (h.sub x (hb x hxs (heR hf i hiR))) hnE
      | false =>
        obtain ⟨v, s', rc', hk, h'⟩ := h.advStep hc h1 h2 h3 hout h4 hf
        exact ih2 hf v s' hk h' hiR hb
  | @skip R fl s env x o h1 h2 h3 h4 ih =>
    intro E rc h hi hb
    by_cases hix : i = x
    · subst hix
      exact ⟨E, R, fl, rc, s, env, h, .skip o h1 h2 h3 h4⟩
    · have hiR : i ∈ R := (List.mem_cons.1 hi).resolve_left hix
      obtain ⟨rc', h'⟩ := h.advSkip hc h1 h2 h3
      exact ih h' hiR hb

theorem allDone (hk : SK P lv nb n out β₀ s₀ w₀ nx (Q .normal)) (hr : Run P call n ops bef out nx R fl s env) : ∀ {rc : Nat → Rc} {E : List Nat}, Sim P lv call nb n ops bef β₀ s₀ w₀ G E R fl L rc β s env a w → (∀ i, i < ops.size → lst L i) → Q .normal a w := by
  induction hr with
  | nil hnx =>
    intro rc E h hall
    refine hk β _ _ a w ⟨h.rel, ⟨h.size, fun t => ?_⟩, h.dfr⟩ h.tr hnx
    rcases h.env t with he | ⟨j, hj, ht, he⟩ | ⟨hno, he⟩
    · rw [he]; simp [VR]
    · rw [he]; exact h.val j t (hall j (h.inE j hj)) ht
    · rw [he]; exact h.base t fun j hj => hno j (h.sub j hj)
  | restr l _ ih => intro rc E h hall; exact ih (h.restr l) hall
  | clear hs _ ih => intro rc E h hall; exact ih (h.clear hs) hall
  | step o k h1 h2 h3 h4 h5 h6 h7 ih1 ih2 =>
    intro rc E h hall
    obtain ⟨o', ho', hnE, _, _, _, _⟩ := chk2_cons h.chk
    exact absurd (h.sub _ (hall _ (Array.getElem?_eq_some_iff.1 h1).1)) hnE
  | skip o h1 h2 h3 h4 ih =>
    intro rc E h hall
    obtain ⟨o', ho', hnE, _, _, _, _⟩ := chk2_cons h.chk
    exact absurd (h.sub _ (hall _ (Array.getElem?_eq_some_iff.1 h1).1)) hnE

def unl (ops : Array Oper) (L : Array Bool) : List Nat := (List.range ops.size).filter fun i => !L.getD i false
theorem notlst {i : Nat} (hi : i < L.size) (h : ¬ lst L i) : L.getD i true = false := by
  simp only [lst, Array.getD_eq_getD_getElem?, Array.getElem?_eq_getElem hi, Option.getD_some] at h ⊢
  simpa using h
theorem lstnot {i : Nat} (h : L.getD i true = false) : i < L.size ∧ ¬ lst L i := by
  rcases Nat.lt_or_ge i L.size with g | g
  · refine ⟨g, ?_⟩
    simp only [lst, Array.getD_eq_getD_getElem?, Array.getElem?_eq_getElem g, Option.getD_some] at h ⊢
    simp [h]
  · simp [Array.getD_eq_getD_getElem?, Array.getElem?_eq_none g] at h
theorem unl_set {i : Nat} (hs : L.size = ops.size) (hi : i < ops.size) (h : ¬ lst L i) : (unl ops (L.setIfInBounds i true)).length < (unl ops L).length := by
  have hset := lst_set (L := L) (i := i) (by rw [hs]; exact hi)
  refine filter_lt _ _ ?_ i ?_ ?_ _ (List.mem_range.2 hi)
  · intro j hj
    simp only [Bool.not_eq_true'] at hj ⊢
    cases hv : L.getD j false with
    | false => rfl
    | true =>
      have := (hset j).2 (.inr hv)
      simp only [lst] at this
      rw [this] at hj
      cases hj
  · simp only [lst] at h
    cases hv : L.getD i false with
    | false => rfl
    | true => exact absurd hv h
  · have := (hset i).2 (.inl rfl)
    simp only [lst] at this
    rw [this]; rfl
theorem ready_some (hc : Chk1 bef ops) (hs : L.size = ops.size) (h : Region.ready .any ops L = []) : ∀ i, i < ops.size → lst L i := by
  intro i
  induction i using Nat.strongRecOn with
  | _ i ih =>
    intro hi
    by_cases hl : lst L i
    · exact hl
    · exfalso
      have : i ∈ Region.ready .any ops L := by
        rw [mem_ready]
        refine ⟨notlst (by rw [hs]; exact hi) hl, ops[i], Array.getElem?_eq_getElem hi, fun e he hb => ?_⟩
        have := hc.lt i _ (Array.getElem?_eq_getElem hi) e he hb
        exact ih e.on this (Nat.lt_trans this hi)
      rw [h] at this
      cases this

theorem drawMain (hc : Chk1 bef ops) (hcs : CallSound F P lv call) (hF : F.depth = none) (hFf : ∀ f, F.fn f) (hout : out ≠ .err) (hk : SK P lv nb n out β₀ s₀ w₀ nx (Q .normal)) :
    ∀ (fuel : Nat) (L : Array Bool) (rc : Nat → Rc) (E R : List Nat) (fl : Fl) (s : St) (env : Env) (β : Bt) (a : Act) (w : World), Sim P lv call nb n ops bef β₀ s₀ w₀ G E R fl L rc β s env a w → Run P call n ops bef out nx R fl s env → (unl ops L).length ≤ fuel →
      wpAnyIn F 0 P .any ops Q fuel L a w
  | 0, L, rc, E, R, fl, s, env, β, a, w, h, hr, hle => by
    have h0 : unl ops L = [] := List.length_eq_zero_iff.1 (Nat.le_zero.1 hle)
    have hall : ∀ i, i < ops.size → lst L i := fun i hi => by
      unfold unl at h0
      rw [List.filter_eq_nil_iff] at h0
      have := h0 i (List.mem_range.2 hi)
      simpa [lst] using this
    refine ⟨?_, allDone hk hr h hall⟩
    cases hrd : Region.ready .any ops L with
    | nil => rfl
    | cons x l =>
      have : x ∈ Region.ready .any ops L := by rw [hrd]; exact List.mem_cons_self ..
      have h1 := lstnot (mem_ready.1 this).1
      exact absurd (hall x (by rw [← h.lsz]; exact h1.1)) h1.2
  | fuel + 1, L, rc, E, R, fl, s, env, β, a, w, h, hr, hle => by
    refine ⟨fun h0 => allDone hk hr h (ready_some hc h.lsz h0), fun i hi => ?_⟩
    obtain ⟨h1, o, ho, hready⟩ := mem_ready.1 hi
    obtain ⟨hiL, hn⟩ := lstnot h1
    have his : i < ops.size := by rw [← h.lsz]; exact hiL
    have hB := listedB hc h.closed i o ho hready
    have hdec : (unl ops (L.setIfInBounds i true)).length ≤ fuel := by
      have := unl_set h.lsz his hn
      omega
    rcases h.cover i his with hE | hR
    · exact execLate hc hcs hF hFf h hE hn ho hready fun β' a' w' h' => drawMain hc hcs hF hFf hout hk fuel _ _ _ _ _ _ _ _ _ _ h' hr hdec
    · obtain ⟨E', R', fl', rc', s', env', h', hd⟩ := toHead hc hout hr h hR hB
      cases hd with
      | step o' k g1 g2 g3 g4 g5 g6 g7 =>
        rw [ho] at g1
        cases g1
        cases hf : effect o.op with
        | true =>
          exact execEff hc hcs hF hFf h' ho hn g2 g3 hout g4 hf (g5 hf) hready fun β' v s'' a' w' rc'' hkv h'' => drawMain hc hcs hF hFf hout hk fuel _ _ _ _ _ _ _ _ _ _ h'' (g6 hf v s'' hkv) hdec
        | false =>
          obtain ⟨v, s'', rc'', hkv, h''⟩ := h'.advStep hc ho g2 g3 hout g4 hf
          exact execLate hc hcs hF hFf h'' (List.mem_cons_self ..) hn ho hready fun β' a' w' h3 => drawMain hc hcs hF hFf hout hk fuel _ _ _ _ _ _ _ _ _ _ h3 (g7 hf v s'' hkv) hdec
      | skip o' g1 g2 g3 g4 =>
        rw [ho] at g1
        cases g1
        obtain ⟨rc'', h''⟩ := h'.advSkip hc ho g2 g3
        exact execLate hc hcs hF hFf h'' (List.mem_cons_self ..) hn ho hready fun β' a' w' h3 => drawMain hc hcs hF hFf hout hk fuel _ _ _ _ _ _ _ _ _ _ h3 g4 hdec

/- the evaluator's text, as a run -/
theorem againsK_ok {b e : Nat} {s : St} {k : Out} (ho : out ≠ .err) : ∀ {fl : Fl}, againsK b e s k fl = out → k = out ∧ ∀ x ∈ fl, ¬ b.testBit x.1 = true → ∀ k2, loadK x.2.1 s x.2.2.1 k2 = k2 x.2.2.2
  | [], h => ⟨h, fun x hx => by cases hx⟩
  | (i, f, a, v) :: l, h => by
    simp only [againsK] at h
    cases hb : b.testBit i with
    | true =>
      rw [hb] at h
      obtain ⟨h1, h2⟩ := againsK_ok ho h
      refine ⟨h1, fun x hx hn => ?_⟩
      rcases List.mem_cons.1 hx with rfl | hx
      · exact absurd hb hn
      · exact h2 x hx hn
    | false =>
      rw [hb] at h
      simp only [cond_false, againK] at h
      obtain ⟨v', g1, g2⟩ := Step2.load f a s _ out h ho
      obtain ⟨g3, g4⟩ := of_bif g1 ho
      obtain rfl := sameV_eq g3
      obtain ⟨h1, h2⟩ := againsK_ok ho g4
      refine ⟨h1, fun x hx hn => ?_⟩
      rcases List.mem_cons.1 hx with rfl | hx
      · exact g2 s (.refl _)
      · exact h2 x hx hn
theorem leaves_set {t : Tmp} {l : List Oper} (h : leaves t l = true) {o : Oper} (ho : o ∈ l) (e : Env) (v : AV) : setD o.dst v e t = e t := by
  refine setD_of fun hd => ?_
  simp only [leaves, List.all_eq_true] at h
  have := h o ho
  rw [hd] at this
  simp [Nat.beq_refl] at this
theorem evFree_run (ho : out ≠ .err) {k : Fl → K} {R : List Nat} (J : Env → Prop) (M : Nat → Prop) : ∀ (l : List Nat) (fl : Fl) (s : St) (env : Env), (∀ i ∈ l, ∀ o, ops[i]? = some o → ∀ e, J e → wantedE ops o e) → (∀ i ∈ l, ∀ o, ops[i]? = some o → ∀ e v, J e → J (setD o.dst v e)) →
    (∀ i ∈ l, ∀ o, ops[i]? = some o → isLoad o.op = true → M i) → (∀ fl s env, k fl s env = out → (∀ x ∈ fl, M x.1) → Run P call n ops bef out nx R fl s env) → J env → (∀ x ∈ fl, M x.1) → evFree P call n bef ops k l fl s env = out → Run P call n ops bef out nx (l ++ R) fl s env
  | [], fl, s, env, _, _, _, hk, _, hM, h => hk fl s env h hM
  | i :: l, fl, s, env, hw, hJ, hL, hk, hj, hM, h => by
    simp only [evFree] at h
    cases hi : ops[i]? with
    | none => rw [hi] at h; exact absurd h.symm ho
    | some o =>
      rw [hi] at h
      simp only at h
      have ih := fun fl s env => evFree_run ho (k := k) (R := R) J M l fl s env (fun i hi => hw i (List.mem_cons_of_mem _ hi)) (fun i hi => hJ i (List.mem_cons_of_mem _ hi)) (fun i hi => hL i (List.mem_cons_of_mem _ hi)) hk
      have hjs : ∀ v, J (setD o.dst v env) := fun v => hJ i (List.mem_cons_self ..) o hi env v hj
      refine .step o _ hi (hw i (List.mem_cons_self ..) o hi env hj) h (fun v s' hv => (dstK_setD hv ho).1) (fun hf v s' hv => ?_) (fun hf v s' hv => ?_) (fun hf v s' hv => ?_)
      · obtain ⟨g1, g2⟩ := dstK_setD hv ho
        rw [hf] at g2
        exact (againsK_ok ho g2).2
      · obtain ⟨g1, g2⟩ := dstK_setD hv ho
        rw [hf] at g2
        exact ih _ _ _ (hjs v) hM (againsK_ok ho g2).1
      · obtain ⟨g1, g2⟩ := dstK_setD hv ho
        rw [hf] at g2
        cases hop : o.op <;> rw [hop] at g2
        case load t a =>
          refine ih _ _ _ (hjs v) (fun x hx => ?_) g2
          rcases List.mem_cons.1 hx with rfl | hx
          · exact hL i (List.mem_cons_self ..) o hi (by rw [hop]; rfl)
          · exact hM x hx
        all_goals exact ih _ _ _ (hjs v) hM g2
theorem undef_run (ho : out ≠ .err) {k : Env → Out} {R : List Nat} {s : St} {fl : Fl} (J : Env → Prop) : ∀ (l : List Nat) (env : Env), (∀ i ∈ l, i < ops.size) → (∀ i ∈ l, ∀ o, ops[i]? = some o → ∀ e, J e → skipE ops o e) → (∀ i ∈ l, ∀ o, ops[i]? = some o → ∀ e v, J e → J (setD o.dst v e)) →
    (∀ env, k env = out → Run P call n ops bef out nx R fl s env) → J env → undefK n (l.map fun i => ops.getD i default) env k = out → Run P call n ops bef out nx (l ++ R) fl s env
  | [], env, _, _, _, hk, _, h => hk env h
  | i :: l, env, hs, hw, hJ, hk, hj, h => by
    have hi : ops[i]? = some (ops.getD i default) := by
      have := hs i (List.mem_cons_self ..)
      simp [Array.getD_eq_getD_getElem?, this]
    simp only [List.map_cons, undefK] at h
    obtain ⟨g1, g2⟩ := dstK_setD h ho
    exact .skip _ hi (hw i (List.mem_cons_self ..) _ hi env hj) g1
      (undef_run ho J l _ (fun i hi => hs i (List.mem_cons_of_mem _ hi)) (fun i hi => hw i (List.mem_cons_of_mem _ hi)) (fun i hi => hJ i (List.mem_cons_of_mem _ hi)) hk (hJ i (List.mem_cons_self ..) _ hi env _ hj) g2)

def GsOk (ops : Array Oper) (gs : List (Option (Nat × Bool) × List Nat × Nat)) : Prop := ∀ g ∈ gs, ∀ i ∈ g.2.1, (ops.getD i default).guard = g.1
theorem dgroups_ok (ops : Array Oper) : ∀ (l : List Nat) (c : Nat), GsOk ops (dgroups ops c l) ∧ (dgroups ops c l).flatMap (fun g => g.2.1) = l
  | [], c => ⟨fun g hg => (by cases hg), rfl⟩
  | i :: l, c => by
    obtain ⟨h1, h2⟩ := dgroups_ok ops l (c + 1)
    simp only [dgroups]
    cases hd : dgroups ops (c + 1) l with
    | nil =>
      rw [hd] at h2
      simp only [List.flatMap_nil] at h2
      subst h2
      refine ⟨fun g hg j hj => ?_, by simp⟩
      simp only [List.mem_singleton] at hg
      subst hg
      simp only [List.mem_singleton] at hj
      rw [hj]
    | cons x r =>
      obtain ⟨g, is, j⟩ := x
      rw [hd] at h1 h2
      simp only
      split
      · rename_i hg
        have hg := guardEq_eq hg
        refine ⟨fun y hy k hk => ?_, ?_⟩
        · rcases List.mem_cons.1 hy with rfl | hy
          · rcases List.mem_cons.1 hk with rfl | hk
            · exact hg.symm
            · exact h1 _ (List.mem_cons_self ..) k hk
          · exact h1 y (List.mem_cons_of_mem _ hy) k hk
        · rw [← h2]; simp
      · refine ⟨fun y hy k hk => ?_, ?_⟩
        · rcases List.mem_cons.1 hy with rfl | hy
          · simp only [List.mem_singleton] at hk
            rw [hk]
          · exact h1 y hy k hk
        · rw [← h2]; simp
theorem settled_ok {ls es : List Nat} (h : settled bef ops ls es = true) {e l : Nat} (he : e ∈ es) (hl : l ∈ ls) (hef : effAt ops e = true) (hld : isLoad (ops.getD l default).op = true) : Bf bef e l := by
  have h1 := List.all_eq_true.1 h e he
  simp only [effAt] at hef
  rw [hef] at h1
  simp only [Bool.not_true, Bool.false_or] at h1
  have h2 := List.all_eq_true.1 h1 l hl
  rw [hld] at h2
  simp only [Bool.not_true, Bool.false_or, Bool.or_eq_true] at h2
  rcases h2 with h2 | h2
  · exact h2
  · have := beq_eq h2
    subst this
    cases hop : (ops.getD e default).op <;> rw [hop] at hef hld <;> simp_all [isLoad, effect]
theorem evDraw_run (ho : out ≠ .err) {id : Nat} : ∀ (gs : List (Option (Nat × Bool) × List Nat × Nat)) (fl : Fl) (s : St) (env : Env), GsOk ops gs → (∀ g ∈ gs, ∀ i ∈ g.2.1, i < ops.size) → (∀ x ∈ fl, isLoad (ops.getD x.1 default).op = true) →
    evDraw P call lf n id bef ops nx gs fl s env = out → Run P call n ops bef out nx (gs.flatMap fun g => g.2.1) fl s env
  | [], fl, s, env, _, _, _, h => .nil h
  | (g, l, c) :: r, fl, s, env, hg, hs, hfl, h => by
    have getD_of : ∀ {i o}, ops[i]? = some o → ops.getD i default = o := fun h => by simp [Array.getD_eq_getD_getElem?, h]
    have hgr : GsOk ops r := fun y hy => hg y (List.mem_cons_of_mem _ hy)
    have hsr : ∀ g ∈ r, ∀ i ∈ g.2.1, i < ops.size := fun y hy => hs y (List.mem_cons_of_mem _ hy)
    have hgl : ∀ i ∈ l, ∀ o, ops[i]? = some o → o.guard = g := fun i hi o ho' => by
      have := hg _ (List.mem_cons_self ..) i hi
      rw [getD_of ho'] at this
      exact this
    rw [List.flatMap_cons]
    cases g with
    | none =>
      simp only [evDraw] at h
      exact evFree_run ho (fun _ => True) (fun i => isLoad (ops.getD i default).op = true) l fl s env (fun i hi o ho' e _ => .inl (hgl i hi o ho')) (fun _ _ _ _ _ _ _ => trivial) (fun i hi o ho' hl => by rw [getD_of ho']; exact hl)
        (fun fl s env hk hM => evDraw_run ho r fl s env hgr hsr hM hk) trivial hfl h
    | some g =>
      obtain ⟨j, w⟩ := g
      simp only [evDraw] at h
      cases hgt : guardT ops j with
      | none => rw [hgt] at h; exact absurd h.symm ho
      | some t =>
        rw [hgt] at h
        simp only at h
        cases hlv : (leaves t (l.map fun i => ops.getD i default) && settled bef ops (fl.map (·.1) ++ l) (r.flatMap fun g => g.2.1)) with
        | false => rw [hlv] at h; exact absurd h.symm ho
        | true =>
          rw [hlv] at h
          simp only [cond_true] at h
          simp only [Bool.and_eq_true] at hlv
          obtain ⟨hlv, hst⟩ := hlv
          have hkeep : ∀ i ∈ l, ∀ o, ops[i]? = some o → ∀ e v, setD o.dst v e t = e t := fun i hi o ho' e v => leaves_set hlv (List.mem_map.2 ⟨i, hi, getD_of ho'⟩) e v
          have cont : ∀ (fl' : Fl) (s : St) (env : Env), (∀ x ∈ fl', x.1 ∈ fl.map (·.1) ++ l ∧ isLoad (ops.getD x.1 default).op = true) → jn lf id (1000 + c) (evDraw P call lf n id bef ops nx r []) s env = out → Run P call n ops bef out nx (r.flatMap fun g => g.2.1) fl' s env := by
            intro fl' s env hM hj
            unfold Ev.jn at hj
            cases hl : lf id (1000 + c) with
            | none => rw [hl] at hj; exact absurd hj.symm ho
            | some L =>
              rw [hl] at hj
              exact .restr L (.clear (fun x hx e he hef => settled_ok hst he (hM x hx).1 hef (hM x hx).2) (evDraw_run ho r [] s _ hgr hsr (fun x hx => by cases hx) hj))
          have hfl' : ∀ x ∈ fl, x.1 ∈ fl.map (·.1) ++ l ∧ isLoad (ops.getD x.1 default).op = true := fun x hx => ⟨List.mem_append_left _ (List.mem_map.2 ⟨x, hx, rfl⟩), hfl x hx⟩
          have no : ((∃ b, env t = .bool b ∧ b ≠ w) ∨ ∃ l, env t = .tup l) → undefK n (l.map fun i => ops.getD i default) env (fun env => jn lf id (1000 + c) (evDraw P call lf n id bef ops nx r []) s env) = out → Run P call n ops bef out nx (l ++ r.flatMap fun g => g.2.1) fl s env := by
            intro hv hu
            refine undef_run ho (fun e => (∃ b, e t = .bool b ∧ b ≠ w) ∨ ∃ l, e t = .tup l) l env (hs _ (List.mem_cons_self ..)) (fun i hi o ho' e he => ⟨j, w, t, hgl i hi o ho', hgt, he⟩) (fun i hi o ho' e v he => ?_) (fun env hk => cont fl s env hfl' hk) hv hu
            rw [hkeep i hi o ho' e v]; exact he
          have yes : env t = .bool w → evFree P call n bef ops (fun _ => jn lf id (1000 + c) (evDraw P call lf n id bef ops nx r [])) l fl s env = out → Run P call n ops bef out nx (l ++ r.flatMap fun g => g.2.1) fl s env := by
            intro hv hu
            refine evFree_run ho (fun e => e t = .bool w) (fun i => i ∈ fl.map (·.1) ++ l ∧ isLoad (ops.getD i default).op = true) l fl s env (fun i hi o ho' e he => .inr ⟨j, w, t, hgl i hi o ho', hgt, he⟩) (fun i hi o ho' e v he => ?_)
              (fun i hi o ho' hld => ⟨List.mem_append_right _ hi, by rw [getD_of ho']; exact hld⟩) (fun fl s env hk hM => cont fl s env hM hk) hv hfl' hu
            show setD o.dst v e t = .bool w
            rw [hkeep i hi o ho' e v]; exact he
          cases hev : env t <;> rw [hev] at h <;> simp only [guardK] at h <;> try exact absurd h.symm ho
          · rename_i b
            cases hx : Bool.xor b w with
            | true => rw [hx] at h; exact no (.inl ⟨b, hev, by intro e; subst e; simp at hx⟩) h
            | false => rw [hx] at h; exact yes (by rw [hev]; congr 1; cases b <;> cases w <;> simp_all) h
          · exact no (.inr ⟨_, hev⟩) h

/-- a region whose order is drawn -/
theorem draw_ok (hcs : CallSound F P lv call) (hF : F.depth = none) (hFf : ∀ f, F.fn f) (hm : P.follows .mixedOrders = true) {id : Nat} (hd : drawOk P (Region.before ops) ops (canon ops) = true) (hout : out ≠ .err) (hk : SK P lv nb n out β₀ s₀ w₀ nx (Q .normal)) :
    SK P lv nb n out β₀ s₀ w₀ (evDraw P call lf n id (Region.before ops) ops nx (dgroups ops 0 (canon ops)) []) (fun a w => (Code.region id ops true).wpIn F 0 P Q a w) := by
  intro β s env a w hok ht h
  simp only [drawOk, Bool.and_eq_true] at hd
  obtain ⟨⟨hc1, hc2⟩, hc3⟩ := hd
  have hc := chk1_ok hc1
  obtain ⟨hg1, hg2⟩ := dgroups_ok ops (canon ops) 0
  have hmem : ∀ E R, chk2 P (Region.before ops) ops E R = true → ∀ i ∈ R, i < ops.size := by
    intro E R
    induction R generalizing E with
    | nil => intro _ i hi; cases hi
    | cons x R ih =>
      intro h i hi
      obtain ⟨o, ho, _, _, _, _, h'⟩ := chk2_cons h
      rcases List.mem_cons.1 hi with rfl | hi
      · exact (Array.getElem?_eq_some_iff.1 ho).1
      · exact ih _ h' i hi
  have hrun := evDraw_run (P := P) (call := call) (n := n) (bef := Region.before ops) (nx := nx) (lf := lf) hout (id := id) _ [] s env hg1 (fun g hg i hi => hmem _ _ hc2 i (by rw [← hg2]; exact List.mem_flatMap.2 ⟨g, hg, hi⟩)) (fun x hx => by cases hx) h
  rw [hg2] at hrun
  have hl0 : ∀ i, ¬ lst (Array.replicate ops.size false) i := fun i hi => by
    simp only [lst, Array.getD_eq_getD_getElem?, Array.getElem?_replicate] at hi
    split at hi <;> simp at hi
  refine wpIn_region_any hm (drawMain (L := Array.replicate ops.size false) (rc := fun _ => ⟨.undef, env, 0, false⟩) (E := []) (R := canon ops) (fl := []) (s := s) (env := env) (β := β) (G := env) hc hcs hF hFf hout hk ops.size a _
    ⟨hok.rel.heap rfl, ht.heap rfl, hok.dfr, hok.env.size, by simp, fun i hi => absurd hi (hl0 i), fun i o hi => absurd hi (hl0 i), fun i hi => .inr ?_, hc2, fun i hi => (by cases hi), fun i t hi => absurd hi (hl0 i), fun t _ => hok.env.env t, fun t => .inr (.inr ⟨fun i hi => (by cases hi), rfl⟩),
      fun i hi => (by cases hi), fun i hi => (by cases hi), fun i j hi => (by cases hi), fun i hi => (by cases hi), fun i hi => (by cases hi)⟩ hrun ?_)
  · exact any_beq.1 (List.all_eq_true.1 hc3 i (List.mem_range.2 hi))
  · unfold unl
    exact Nat.le_trans (List.length_filter_le ..) (by simp)
end
end Go.Ev
