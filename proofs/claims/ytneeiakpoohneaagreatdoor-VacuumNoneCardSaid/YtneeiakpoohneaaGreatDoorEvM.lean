/- Loops over maps. -/
import Derived.Test.YtneeiakpoohneaaGreatDoorEvS16
import Derived.Laws.IdiomRangeMap
set_option linter.all false
set_option linter.unusedSimpArgs false
set_option linter.unusedVariables false
namespace Go.Ev
theorem sameV_go {a b : List AV} (hf : ∀ x y, sameV.flat x y = true → x = y) (h : sameV.go a b = true) : a = b := by
  induction a generalizing b with
  | nil => cases b <;> simp_all [sameV.go]
  | cons x a ih =>
    cases b with
    | nil => simp [sameV.go] at h
    | cons y b =>
      simp only [sameV.go, Bool.and_eq_true] at h
      rw [hf _ _ h.1, ih h.2]
theorem sameV_flat : ∀ x y, sameV.flat x y = true → x = y := by
  intro x y h
  cases x <;> cases y <;> simp only [sameV.flat, Bool.and_eq_true, decide_eq_true_eq, beq_iff_eq, reduceCtorEq] at h <;> (try rfl) <;>
    (first
      | (obtain ⟨⟨⟨⟨⟨h1, h2⟩, h3⟩, h4⟩, h5⟩, h6⟩ := h; rw [Nat.eq_of_beq_eq_true h1, Nat.eq_of_beq_eq_true h2, Nat.eq_of_beq_eq_true h3, Nat.eq_of_beq_eq_true h4, Nat.eq_of_beq_eq_true h5, h6])
      | (obtain ⟨h1, h2⟩ := h; first | (rw [Nat.eq_of_beq_eq_true h1, Nat.eq_of_beq_eq_true h2]) | (rw [h1, h2]))
      | (rw [h])
      | (rw [Nat.eq_of_beq_eq_true h]))
theorem sameV_eq {x y : AV} (h : sameV x y = true) : x = y := by
  unfold sameV at h
  split at h
  case h_1 | h_2 | h_8 | h_9 | h_10 | h_11 | h_12 => first
    | (simp only [Bool.and_eq_true, decide_eq_true_eq, beq_iff_eq] at h; obtain ⟨⟨⟨⟨⟨h1, h2⟩, h3⟩, h4⟩, h5⟩, h6⟩ := h; rw [Nat.eq_of_beq_eq_true h1, Nat.eq_of_beq_eq_true h2, Nat.eq_of_beq_eq_true h3, Nat.eq_of_beq_eq_true h4, Nat.eq_of_beq_eq_true h5, h6])
    | (simp only [Bool.and_eq_true, decide_eq_true_eq, beq_iff_eq] at h; obtain ⟨h1, h2⟩ := h; first | (rw [Nat.eq_of_beq_eq_true h1, Nat.eq_of_beq_eq_true h2]) | (rw [h1, h2]))
    | (simp only [beq_iff_eq] at h; rw [h])
    | (rw [Nat.eq_of_beq_eq_true h])
  case h_3 | h_4 | h_5 | h_6 | h_7 => rfl
  all_goals first
    | (rw [sameV_go sameV_flat h]; done)
    | (simp only [Bool.and_eq_true] at h; obtain ⟨h1, h2⟩ := h; rw [Nat.eq_of_beq_eq_true h1, sameV_go sameV_flat h2]; done)
    | (simp only [Bool.and_eq_true] at h; obtain ⟨⟨h1, h2⟩, h3⟩ := h; rw [Nat.eq_of_beq_eq_true h1, Nat.eq_of_beq_eq_true h2, Nat.eq_of_beq_eq_true h3]; done)
    | cases h

theorem MR.back {β β' : Bt} (hle : BtLe β β') : ∀ {es : ME} {l l0 : List MapEntry}, MR β es l0 → MR β' es l → MR β es l
  | .nil, _, _, _, h => h
  | .cons _ _ _ _, _, _, h0, h => by
    obtain ⟨e0, l0', rfl, h01, h02, h03, h04⟩ := h0
    obtain ⟨e, l', rfl, h1, h2, h3, h4⟩ := h
    exact ⟨e, l', rfl, VR.back hle _ _ _ h01 h1, VR.back hle _ _ _ h02 h2, h3, MR.back hle h04 h4⟩
section
variable {P : Program} {lv : Nat → Nat → Nat → Option (List Tmp)} {lf : Nat → Nat → Option (List Tmp)} {F : Fence} {call : Call} {nb n : Nat} {out : Out} {β₀ : Bt} {s₀ : St} {w₀ : World}

theorem BlkR.back {β β' : Bt} {s s' s'' : St} {w w' : World} {b : Bp} {B : Blk} (hle : BtLe β β') (h : BlkR P lv β s w b B) (h' : BlkR P lv β' s' w' b B)
    (hm : ∀ m k v, B = .mitc m k v → m < s.ro → s.blk m ≠ .none → m < s''.ro ∧ s''.blk m ≠ .none) : BlkR P lv β s'' w' b B := by
  cases B with
  | none => trivial
  | dark => trivial
  | row t c =>
    obtain ⟨_, _, _, _, _, _, g4, _⟩ := h
    obtain ⟨cs, t', fr, h1, h2, h3, h4, h5, h6⟩ := h'
    exact ⟨cs, t', fr, h1, h2, h3, RowR.back hle g4 h4, h5, h6⟩
  | map es clk =>
    obtain ⟨_, _, g2, _⟩ := h
    obtain ⟨ents, h1, h2, h3⟩ := h'
    exact ⟨ents, h1, MR.back hle g2 h2, h3⟩
  | sit n p pos =>
    obtain ⟨h0, t, h1, h2⟩ := h'
    exact ⟨h0, t, h1, h2⟩
  | mit m clk =>
    obtain ⟨_, bm, g1, _⟩ := h
    obtain ⟨h0, bm', h1, h2⟩ := h'
    have := hle _ _ g1
    rw [h1] at this
    obtain rfl : bm' = bm := by simpa using this
    exact ⟨h0, _, g1, h2⟩
  | mitc m k v =>
    obtain ⟨_, g0, g0', bm, _, _, _, _, _, g1, _, _, _, _, g6, g7⟩ := h
    obtain ⟨hz, _, _, bm', since, seen, clk, ents, e, h1, h2, h3, h4, h5, h6, h7⟩ := h'
    have := hle _ _ g1
    rw [h1] at this
    obtain rfl : bm' = bm := by simpa using this
    obtain ⟨k1, k2⟩ := hm m k v rfl g0 g0'
    exact ⟨hz, k1, k2, _, since, seen, clk, ents, e, g1, h2, h3, h4, h5, VR.back hle _ _ _ g6 h6, VR.back hle _ _ _ g7 h7⟩
  | loop f key st cap pend =>
    obtain ⟨_, _, _, _, _, _, _, _, f1, _, _, _, _, _, _, _, _, _, _, _, f2⟩ := h
    obtain ⟨r, L, ps, asg, body, fn, c, h1, g1, g2, g3, g4, g6, g7, g8, g9, g10, g11, g12, g13, g14⟩ := h'
    refine ⟨r, L, ps, asg, body, fn, c, h1, g1, g2, g3, g4, g6, g7, g8, g9, g10, g11, g12, g13, fun x hx => ?_⟩
    rw [f1] at g1
    cases g1
    exact VR.back hle _ _ _ (f2 x hx) (g14 x hx)

/-- old ids, in what the world has become; one is struck out -/
theorem Rel.back {β β' : Bt} {s s' : St} {w w' : World} {iid : Nat} (h : Rel P lv β s w) (h' : Rel P lv β' s' w') (hle : BtLe β β') (hold : ∀ i, i < s.next → i ≠ iid → s'.blk i = s.blk i)
    (hne : ∀ i b k v, β i = some b → s.blk i ≠ .mitc iid k v) : Rel P lv β (s.put iid .none) w' where
  lt i b hb := ⟨(h.lt i b hb).1, (h'.lt i b (hle _ _ hb)).2⟩
  inj i j b c hb hc hi hj he := by
    rw [St.blk_put] at hi hj
    split at hi
    · exact absurd rfl hi
    · split at hj
      · exact absurd rfl hj
      · rename_i n1 n2
        exact h'.inj i j b c (hle _ _ hb) (hle _ _ hc) (by rw [hold i (h.lt i b hb).1 n1]; exact hi) (by rw [hold j (h.lt j c hc).1 n2]; exact hj) he
  blk i b hb := by
    rw [St.blk_put]
    split
    · trivial
    · rename_i n1
      have h2 := h'.blk i b (hle _ _ hb)
      rw [hold i (h.lt i b hb).1 n1] at h2
      refine BlkR.back hle (h.blk i b hb) h2 fun m k v hB h3 h4 => ⟨h3, ?_⟩
      rw [St.blk_put, if_neg]
      · exact h4
      · intro e; subst e; exact hne i b k v hb hB
  ro := h.ro
  fresh i hi := by
    rw [St.blk_put]
    split
    · rfl
    · exact h.fresh i hi
  glob := h.glob

theorem next_map {w : World} {ty : TypeId} {ib bm clk : Nat} {seen : Array Nat} {ents : Array MapEntry} (hi : w.heap[ib]? = some (.mapIter (some bm) clk seen clk)) (hb : w.heap[bm]? = some (.map ents clk)) (hold : ∀ x ∈ ents.toList, x.born < clk) :
    ((leftOf ents seen).size = 0 ∧ (Instr.next (.pointer (some ⟨ib, 0, none⟩)) false ty).run P w = .ok (.tuple #[.bool false]) w) ∨
    ∃ e ∈ (leftOf ents seen).toList, ∃ w1 : World, (w1.heap = w.heap.setIfInBounds ib (.mapIter (some bm) clk (seen.push e.born) clk) ∧ w1.os = w.os ∧ w1.output = w.output) ∧ (Instr.next (.pointer (some ⟨ib, 0, none⟩)) false ty).run P w = .ok (.tuple #[.bool true, e.key, e.val]) w1 := by
  simp only [Instr.next, getObj, Sem.run_bind, Sem.run, hi, hb, Result.andThen, next_test_false seen ents clk clk hold (Nat.le_refl _), Bool.false_eq_true, if_false]
  unfold leftOf
  have hmem : ∀ x ∈ (Array.filter (fun e => !seen.contains e.born) ents).toList, x.born < clk := fun x hx => hold x (by simp at hx ⊢; exact hx.1)
  generalize Array.filter (fun e => !seen.contains e.born) ents = L at hmem ⊢
  have e1 : L.filter (fun x => decide (x.born < clk)) = L := Array.filter_eq_self.2 (fun x hx => by simpa using hmem x (by simpa using hx))
  have e2 : L.filter (fun x => decide (x.born ≥ clk)) = #[] := by
    rw [Array.filter_eq_empty_iff]
    intro x hx
    have := hmem x (by simpa using hx)
    simp
    omega
  simp only [e1, e2, Array.append_empty]
  by_cases h0 : L.size = 0
  · left
    have : L = #[] := Array.eq_empty_of_size_eq_zero h0
    subst this
    refine ⟨rfl, ?_⟩
    simp [choose, Sem.run, Question.forced]
  · right
    have hne : L.isEmpty = false := by simp [Array.isEmpty, h0]
    simp only [hne, Bool.false_eq_true, if_false, Array.empty_append, Array.size_map]
    have hch : ∃ (j : Nat) (w1 : World), j < L.size ∧ (w1.heap = w.heap ∧ w1.os = w.os ∧ w1.output = w.output) ∧ (choose (Question.mapNext L.size)).run P w = .ok j w1 := by
      by_cases hf : L.size ≤ 1
      · exact ⟨0, w, by omega, ⟨rfl, rfl, rfl⟩, by simp [choose, Sem.run, Question.forced, hf]⟩
      · exact ⟨_, w.drew, Nat.mod_lt _ (by omega), ⟨rfl, rfl, rfl⟩, by
          simp only [choose, Sem.run, Question.forced, decide_eq_true_eq, hf, if_false, Question.cut]
          rfl⟩
    obtain ⟨j, w1, hj, hal, hrun⟩ := hch
    refine ⟨L[j], by simp, { w1 with heap := w1.heap.setIfInBounds ib (.mapIter (some bm) clk (seen.push L[j].born) clk) }, ⟨by rw [hal.1], hal.2.1, hal.2.2⟩, ?_⟩
    have hset : ∀ (o' : Obj), (setObj ib o').run P w1 = .ok () { w1 with heap := w1.heap.setIfInBounds ib o' } := fun o' => by
      simp only [setObj, Sem.run, hal.1, hi]
    simp only [hrun, Array.getElem?_map, Array.getElem?_eq_getElem hj, Option.map_some, Sem.run_bind, hset, Result.andThen]
    rfl
theorem find_entry (e : MapEntry) : ∀ (l : List MapEntry), (l.map (·.born)).Nodup → e ∈ l → l.find? (·.born == e.born) = some e := find_born e
theorem MR.borns {β : Bt} : ∀ {es : ME} {l : List MapEntry}, MR β es l → es.borns = l.map (·.born)
  | .nil, l, h => by simp only [MR] at h; subst h; rfl
  | .cons _ _ _ _, _, h => by
    obtain ⟨e, l', rfl, _, _, h3, h4⟩ := h
    simp only [ME.borns, List.map_cons, h3, MR.borns h4]
theorem MR.mem {β : Bt} : ∀ {es : ME} {l : List MapEntry} {e : MapEntry}, MR β es l → e ∈ l → ∀ (s : St) (id m : Nat) (vs : List AV) (body : St → Out), mapRounds s id m vs body es = true →
    ∃ x v l' s', VR β x e.key ∧ VR β v e.val ∧ body ⟨s.heap.put id (.mitc m x v), s.next, s.next⟩ = .ret (.tup l') s' ∧ sameL vs l' = true
  | .nil, l, e, h, he, _, _, _, _, _, _ => by simp only [MR] at h; subst h; cases he
  | .cons x v b t, _, e, h, he, s, id, m, vs, body, hr => by
    obtain ⟨e', l', rfl, h1, h2, h3, h4⟩ := h
    simp only [mapRounds] at hr
    have hb : ∃ l' s', body ⟨s.heap.put id (.mitc m x v), s.next, s.next⟩ = .ret (.tup l') s' ∧ sameL vs l' = true ∧ mapRounds s id m vs body t = true := by
      split at hr
      · rename_i l'' s'' heq
        cases hs : sameL vs l'' with
        | true => rw [hs] at hr; exact ⟨_, _, heq, hs, hr⟩
        | false => rw [hs] at hr; cases hr
      · cases hr
    obtain ⟨l1, s1, q1, q2, q3⟩ := hb
    rcases List.mem_cons.1 he with rfl | he
    · exact ⟨x, v, l1, s1, h1, h2, q1, q2⟩
    · exact MR.mem h4 he s id m vs body q3
theorem sameL_vr {β : Bt} {n : Nat} {env env' : Env} {a : Act} : ∀ {L : List Tmp}, sameL (L.map env) (L.map env') = true → EnvR β n env' a → EnvR β n (restrict L env) a := by
  intro L h he
  refine ⟨he.size, fun t => ?_⟩
  unfold restrict
  induction L with
  | nil => simp [mk, VR]
  | cons x L ih =>
    simp only [List.map_cons, sameL, Bool.and_eq_true] at h
    simp only [List.map_cons, mk, Env.set]
    cases hx : Nat.beq t x with
    | true =>
      have := beq_eq hx
      subst this
      have h1 := h.1
      simp only [cond_true]
      by_cases hu : env t = .undef
      · rw [hu]; simp [VR]
      · have : sameV (env t) (env' t) = true := by
          cases hv : env t <;> rw [hv] at h1 <;> first | exact h1 | exact absurd hv hu
        rw [sameV_eq this]
        exact he.env t
    | false => exact ih h.2

theorem mapHead_ok {ops : List Oper} {c it tu : Tmp} (h : mapHead n ops c = some (it, tu)) :
    ∃ o1 o2, ops = [o1, o2] ∧ o1.dst = some tu ∧ o1.op = .next (.tmp it) false ∧ o1.guard = none ∧ o2.dst = some c ∧ o2.op = .extract (.tmp tu) 0 ∧ o2.guard = none ∧ it ≠ tu ∧ it ≠ c ∧ tu ≠ c ∧ c < n ∧ tu < n := by
  unfold mapHead at h
  split at h
  · rename_i o1 o2
    split at h
    · rename_i tu1 it1 c1 tu2 e1 e2 e3 e4 e5 e6
      split at h
      · rename_i hc
        cases h
        simp only [Bool.and_eq_true, decide_eq_true_eq, Bool.not_eq_true', beq_eq_false_iff_ne, ne_eq] at hc
        obtain ⟨⟨⟨⟨⟨⟨h1, h2⟩, h3⟩, h4⟩, h5⟩, h6⟩, h7⟩ := hc
        subst h1 h2
        exact ⟨o1, o2, rfl, e1, e2, e3, e4, e5, e6, h3, h4, h5, blt_lt h6, blt_lt h7⟩
      · cases h
    · cases h
  · cases h
theorem head_region (hFf : ∀ f, F.fn f) {rid : Nat} {ops : Array Oper} {c it tu : Tmp} (hh : mapHead n ops.toList c = some (it, tu)) {Q : Exit → Act → World → Prop} {a : Act} {w w1 : World} (hsz : a.tmps.size = n)
    {x : Value} {l : List Value} (hn : ∀ ty, (Instr.next (a.tmps.getD it undef) false ty).run P w = .ok (.tuple (x :: l).toArray) w1)
    (hQ : Q .normal ((a.put (some tu) (.tuple (x :: l).toArray)).put (some c) x) w1) : (Code.region rid ops false).wpIn F 0 P Q a w := by
  obtain ⟨o1, o2, e, d1, p1, g1, d2, p2, g2, n1, n2, n3, l1, l2⟩ := mapHead_ok hh
  have e1 : ops[0]? = some o1 := by rw [← Array.getElem?_toList, e]; rfl
  have e2 : ops[1]? = some o2 := by rw [← Array.getElem?_toList, e]; rfl
  have es : ops.size = 2 := by rw [← Array.length_toList, e]; rfl
  refine wpIn_region ?_
  rw [es]
  show wpOpsIn F 0 P ops Q [0, 1] a w
  simp only [wpOpsIn, e1, e2, wanted_none g1, wanted_none g2, if_true, Oper.wpIn]
  refine ⟨fun f _ => hFf f, ?_⟩
  rw [Oper.semAt_eq _ _ _ (by rw [p1]; intro _ h; cases h)]
  have r1 : (execOp a.eval o1).run P w = .ok (.value (.tuple (x :: l).toArray)) w1 := by
    have : execOp a.eval o1 = (do pure (.value (← Instr.next (a.eval (.tmp it)) false o1.type))) := by first | (simp [execOp, p1]; done) | (simp [execOp, p1]; rfl)
    rw [this, Sem.run_bind]
    show ((Instr.next (a.tmps.getD it undef) false o1.type).run P w).andThen _ = _
    rw [hn]; rfl
  rw [r1]
  simp only [Oper.uponIn, d1]
  refine ⟨fun f _ => hFf f, ?_⟩
  rw [Oper.semAt_eq _ _ _ (by rw [p2]; intro _ h; cases h)]
  have htu : (a.put (some tu) (.tuple (x :: l).toArray)).eval (.tmp tu) = .tuple (x :: l).toArray := by
    simp [Act.eval, Act.put, hsz, l2]
  have r2 : (execOp (a.put (some tu) (.tuple (x :: l).toArray)).eval o2).run P w1 = .ok (.value x) w1 := by
    have : execOp (a.put (some tu) (.tuple (x :: l).toArray)).eval o2 = (do pure (.value (← Instr.extract ((a.put (some tu) (.tuple (x :: l).toArray)).eval (.tmp tu)) 0))) := by first | (simp [execOp, p2]; done) | (simp [execOp, p2]; rfl)
    rw [this, Sem.run_bind, htu]
    simp [Instr.extract]
  rw [r2]
  simp only [Oper.uponIn, d2]
  exact hQ

theorem loopCode {b : Code} {it tu c : Tmp} {e : Nat} {r : Code} (h : mapLoop? n b = some (it, tu, c, e, r)) (hFf : ∀ f, F.fn f) : ∃ rid ops, mapHead n ops.toList c = some (it, tu) ∧
    ∀ (Q : Exit → Act → World → Prop) (a : Act) (w : World), (Code.region rid ops false).wpIn F 0 P (Exit.then (fun a w => (a.tmps.getD c undef = .bool true ∧ r.wpIn F 0 P Q a w) ∨ (a.tmps.getD c undef = .bool false ∧ Q (.exit e) a w)) Q) a w → b.wpIn F 0 P Q a w := by
  have hcond : ∀ (Q' : Exit → Act → World → Prop) (Y : Act → World → Prop) (a : Act) (w : World), ((a.tmps.getD c undef = .bool true ∧ Y a w) ∨ (a.tmps.getD c undef = .bool false ∧ Q' (.exit e) a w)) → (Code.cond (.tmp c) .skip (.exit e)).wpIn F 0 P (Exit.then Y Q') a w := by
    intro Q' Y a w hd
    rcases hd with ⟨h1, h2⟩ | ⟨h1, h2⟩
    · exact wpIn_cond_true h1 (wpIn_skip h2)
    · exact wpIn_cond_false h1 (wpIn_exit h2)
  unfold mapLoop? at h
  split at h
  · rename_i rid ops c' e' r'
    cases hm : mapHead n ops.toList c' with
    | none => rw [hm] at h; cases h
    | some x =>
      rw [hm] at h
      cases h
      refine ⟨rid, ops, by rw [hm], fun Q a w hw => wpIn_seq (wpIn_mono hw fun e a w hq => ?_)⟩
      cases e <;> try exact hq
      exact wpIn_seq (hcond _ _ _ _ hq)
  · rename_i rid ops c' e' r'
    cases hm : mapHead n ops.toList c' with
    | none => rw [hm] at h; cases h
    | some x =>
      rw [hm] at h
      cases h
      refine ⟨rid, ops, by rw [hm], fun Q a w hw => wpIn_seq (wpIn_seq (wpIn_mono hw fun e a w hq => ?_))⟩
      cases e <;> try exact hq
      exact hcond Q (r.wpIn F 0 P Q) _ _ hq
  · cases h

theorem put_getD_self {a : Act} {t : Tmp} {v : Value} (h : t < a.tmps.size) : (a.put (some t) v).tmps.getD t undef = v := by
  simp [Act.put, h]
theorem put_getD_ne {a : Act} {t u : Tmp} {v : Value} (h : t ≠ u) : (a.put (some t) v).tmps.getD u undef = a.tmps.getD u undef := by
  simp only [Act.put, Array.getD_eq_getD_getElem?, Array.getElem?_setIfInBounds, if_neg h]
theorem EnvR.set2 {β : Bt} {env : Env} {a : Act} {tu c : Tmp} {x y : AV} {u v : Value} (he : EnvR β n env a) (h1 : tu < n) (h2 : c < n) (hx : VR β x u) (hy : VR β y v) :
    EnvR β n ((env.set tu x).set c y) ((a.put (some tu) u).put (some c) v) := by
  have hs : (a.put (some tu) u).tmps.size = n := by simp [Act.put, he.size]
  refine ⟨by simp [Act.put, he.size], fun t => ?_⟩
  simp only [Env.set]
  cases hc : Nat.beq t c with
  | true =>
    have := beq_eq hc
    subst this
    rw [put_getD_self (by rw [hs]; exact h2)]
    exact hy
  | false =>
    have hne : c ≠ t := fun e => by subst e; rw [Nat.beq_refl] at hc; cases hc
    rw [put_getD_ne hne]
    simp only [cond_false]
    cases ht : Nat.beq t tu with
    | true =>
      have := beq_eq ht
      subst this
      rw [put_getD_self (by rw [he.size]; exact h1)]
      exact hx
    | false =>
      have hne : tu ≠ t := fun e => by subst e; rw [Nat.beq_refl] at ht; cases ht
      rw [put_getD_ne hne]
      exact he.env t

/-- what has become of the loop's start -/
structure MI (P : Program) (lv : Nat → Nat → Nat → Option (List Tmp)) (nb n : Nat) (β : Bt) (s : St) (w : World) (env : Env) (iid : Nat) (bi bm : Bp) (clk : Nat) (ents : Array MapEntry) (seen : Array Nat) (a' : Act) (w' : World) : Prop where
  rel : Rel P lv β (s.put iid .none) w'
  tr : Tr β s w β (s.put iid .none) w'
  env : EnvR β n env a'
  dfr : DefOk nb β w' a'.defers
  it : w'.heap[bi.blk]? = some (.mapIter (some bm.blk) clk seen clk)
  mp : w'.heap[bm.blk]? = some (.map ents clk)

theorem left_push {ents : Array MapEntry} {seen : Array Nat} {e : MapEntry} (he : e ∈ (leftOf ents seen).toList) : (leftOf ents (seen.push e.born)).size < (leftOf ents seen).size := by
  have h1 : (leftOf ents seen).toList = ents.toList.filter fun e => !seen.contains e.born := by simp [leftOf]
  have h2 : (leftOf ents (seen.push e.born)).toList = ents.toList.filter fun x => !(seen.push e.born).contains x.born := by simp [leftOf]
  rw [← Array.length_toList, ← Array.length_toList, h1, h2]
  rw [h1] at he
  refine filter_lt _ _ ?_ e ?_ ?_ ents.toList (List.mem_filter.1 he).1
  · intro x hx
    simp only [Array.contains_push, Bool.not_or, Bool.and_eq_true] at hx
    first | exact hx.1 | exact hx.2
  · exact (List.mem_filter.1 he).2
  · simp

theorem mapLoop_ok (hFf : ∀ f, F.fn f) (ho : out ≠ .err) {b r : Code} {it tu c : Tmp} {e : Nat} {Q : Exit → Act → World → Prop} {exk : K} {body : K} {L : List Tmp} (hl : mapLoop? n b = some (it, tu, c, e, r))
    (hbody : ∀ (s' : St) (lr : List AV) (β₁ : Bt) (s₁ : St) (w₁ : World), SK P lv nb n (.ret (.tup lr) s') β₁ s₁ w₁ body (fun a w => r.wpIn F 0 P (Exit.then (fun a' w' => ∃ β env, Ok P lv nb n β s' env a' w' ∧ Tr β₁ s₁ w₁ β s' w' ∧ L.map env = lr) (fun _ _ _ => False)) a w))
    (hex : SK P lv nb n out β₀ s₀ w₀ exk (Q (.exit e))) :
    SK P lv nb n out β₀ s₀ w₀ (fun s env => rangeMapLoopK s (restrict L env it) (L.map env) (fun s' => body s' (((restrict L env).set tu .undef).set c (.bool true)))
      (fun s => exk s (((restrict L env).set tu .undef).set c .undef))) (fun a w => (Code.loop b).wpIn F 0 P Q a w) := by
  intro β s env a w hok ht h
  obtain ⟨rid, ops, hh, hcode⟩ := loopCode (P := P) (F := F) hl hFf
  obtain ⟨_, _, _, _, _, _, _, _, _, n1, n2, n3, l1, l2⟩ := mapHead_ok hh
  simp only [rangeMapLoopK] at h
  cases hit : restrict L env it <;> rw [hit] at h <;> simp only at h <;> try exact absurd h.symm ho
  rename_i iid io
  obtain ⟨hml, h⟩ := of_bif h ho
  obtain ⟨hro, hk⟩ := putK_ok h ho
  simp only [mapLoop] at hml
  cases io with
  | succ io => cases hml
  | zero =>
  simp only at hml
  cases hbi : s.blk iid <;> rw [hbi] at hml <;> simp only at hml <;> try cases hml
  rename_i m clk
  cases hbm : s.blk m <;> rw [hbm] at hml <;> simp only at hml <;> try cases hml
  rename_i es clk'
  simp only [Bool.and_eq_true, Bool.not_eq_true'] at hml
  obtain ⟨⟨hck, hnm⟩, hrounds⟩ := hml
  obtain rfl := beq_eq hck
  have hvt := (restrict_vr L hok.env).env it
  rw [hit] at hvt
  simp only [VR] at hvt
  obtain ⟨bi, hbib, hvt⟩ := hvt
  have hB := hok.rel.blk iid bi hbib
  rw [hbi] at hB
  obtain ⟨hbase, bm, hbmb, hitw⟩ := hB
  have hB := hok.rel.blk m bm hbmb
  rw [hbm] at hB
  obtain ⟨ents, hmw, hmr, hgood⟩ := hB
  have hnmi : ∀ i b k v, β i = some b → s.blk i ≠ .mitc iid k v := by
    intro i bx k v hbx hi
    have := hok.rel.blk i bx hbx
    rw [hi] at this
    obtain ⟨_, _, _, bm', _, _, _, ents', _, g1, _, g3, _⟩ := this
    rw [hbib] at g1
    cases g1
    rw [hitw] at g3
    cases g3
  have hne : s.blk iid ≠ .none := by rw [hbi]; simp
  have hnem : s.blk m ≠ .none := by rw [hbm]; simp
  have hmi : m ≠ iid := fun e => by subst e; rw [hbi] at hbm; cases hbm
  have hbne : bm.blk ≠ bi.blk := fun e => hmi (hok.rel.inj m iid bm bi hbmb hbib hnem hne e)
  have hlt : bi.blk < w.heap.size := (hok.rel.lt iid bi hbib).2
  obtain ⟨r1, r2⟩ := hok.rel.put (B := .none) hbib hro ⟨hne, by rw [hbi]; simp⟩ rfl (fun _ _ => rfl) trivial
  have hu2 : ∀ {β' : Bt} {a' : Act}, EnvR β' n (restrict L env) a' → EnvR β' n (((restrict L env).set tu .undef).set c .undef) a' := by
    intro β' a' he
    refine ⟨he.size, fun t => ?_⟩
    simp only [Env.set]
    cases Nat.beq t c <;> simp only [cond_true, cond_false]
    · cases Nat.beq t tu <;> simp only [cond_true, cond_false]
      · exact he.env t
      · simp [VR]
    · simp [VR]
  let μ : Act → World → Nat := fun _ w => match w.heap[bi.blk]? with
    | some (.mapIter _ _ seen _) => (leftOf ents seen).size
    | _ => 0
  have hμ : ∀ {a' w' seen}, MI P lv nb n β s w (restrict L env) iid bi bm clk ents seen a' w' → μ a' w' = (leftOf ents seen).size := by
    intro a' w' seen h
    simp only [μ, h.it]
  refine wpIn_loop (fun a' w' => ∃ seen, MI P lv nb n β s w (restrict L env) iid bi bm clk ents seen a' w') μ ⟨#[], r1, r2, restrict_vr L hok.env, hok.dfr, hitw, hmw⟩ ?_
  rintro a' w' ⟨seen, hI⟩
  have hita : a'.tmps.getD it undef = .pointer (some ⟨bi.blk, 0, none⟩) := by
    have := hI.env.env it
    rw [hit] at this
    simp only [VR] at this
    obtain ⟨b', hb', hv⟩ := this
    rw [hbib] at hb'
    cases hb'
    rw [hv, hbase]
  have hborn : ∀ x ∈ ents.toList, x.born < clk := fun x hx => hgood.2 _ (by rw [MR.borns hmr]; exact List.mem_map_of_mem hx)
  refine hcode _ a' w' ?_
  rcases next_map (P := P) (ty := 0) hI.it hI.mp hborn with ⟨hz, hrun⟩ | ⟨en, hmem, w1, ⟨hw1, hio1⟩, hrun⟩
  · refine head_region hFf hh hI.env.size (x := .bool false) (l := []) (fun ty => by rw [hita]; exact hrun) (.inr ⟨put_getD_self (by simp [Act.put, hI.env.size, l1]), ?_⟩)
    refine hex β (s.put iid .none) _ _ w' ⟨hI.rel, hI.env.set2 l2 l1 (by simp [VR]) (by simp [VR]), hI.dfr⟩ (ht.trans hI.tr) hk
  · refine head_region hFf hh hI.env.size (x := .bool true) (l := [en.key, en.val]) (fun ty => by rw [hita]; exact hrun) (.inl ⟨put_getD_self (by simp [Act.put, hI.env.size, l1]), ?_⟩)
    have hen : en ∈ ents.toList := by
      have : en ∈ ents.toList.filter fun e => !seen.contains e.born := by simpa [leftOf] using hmem
      exact (List.mem_filter.1 this).1
    obtain ⟨x, v, lr, s2, q1, q2, q3, q4⟩ := MR.mem hmr hen s iid m _ _ hrounds
    have hlt' : bi.blk < w'.heap.size := Nat.lt_of_lt_of_le hlt hI.tr.size
    have hw1b : w1.heap[bi.blk]? = some (.mapIter (some bm.blk) clk (seen.push en.born) clk) := by rw [hw1]; simp [hlt']
    have hw1o : ∀ y, y ≠ bi.blk → w1.heap[y]? = w'.heap[y]? := fun y hy => by rw [hw1]; simp [Array.getElem?_setIfInBounds, Ne.symm hy]
    have hb1 : ∀ i, i ≠ iid → (⟨s.heap.put iid (.mitc m x v), s.next, s.next⟩ : St).blk i = s.blk i := fun i hi => by rw [St.blk_mk, Hp.get_put, if_neg hi, St.blk_eq]
    have hb2 : (⟨s.heap.put iid (.mitc m x v), s.next, s.next⟩ : St).blk iid = .mitc m x v := by rw [St.blk_mk, Hp.get_put, if_pos rfl]
    have hp1 : ∀ i, i ≠ iid → (s.put iid .none).blk i = s.blk i := fun i hi => by rw [St.blk_put, if_neg hi]
    have rel1 : Rel P lv β ⟨s.heap.put iid (.mitc m x v), s.next, s.next⟩ w1 := by
      refine ⟨fun i b hb => ⟨(hok.rel.lt i b hb).1, by rw [hw1]; simpa using (hI.rel.lt i b hb).2⟩, fun i j b c hb hc hi hj he => ?_, fun i b hb => ?_, Nat.le_refl _, fun i hi => ?_, hok.rel.glob⟩
      · have hx : ∀ i, (⟨s.heap.put iid (.mitc m x v), s.next, s.next⟩ : St).blk i ≠ .none → s.blk i ≠ .none := by
          intro i hi
          by_cases h0 : i = iid
          · subst h0; exact hne
          · rw [hb1 i h0] at hi; exact hi
        exact hok.rel.inj i j b c hb hc (hx i hi) (hx j hj) he
      · by_cases h0 : i = iid
        · subst h0
          rw [hb2]
          rw [hbib] at hb
          cases hb
          have hml := (hok.rel.lt m bm hbmb).1
          refine ⟨hbase, hml, ?_, bm, clk, seen.push en.born, clk, ents, en, hbmb, hw1b, by rw [hw1o _ hbne]; exact hI.mp, by simp, ?_, q1, q2⟩
          · rw [hb1 m hmi]; exact hnem
          · rw [← Array.find?_toList]
            exact find_born en _ (by rw [← MR.borns hmr]; exact hgood.1) hen
        · have h2 := hI.rel.blk i b hb
          rw [hp1 i h0] at h2
          rw [hb1 i h0]
          by_cases hn : s.blk i = .none
          · rw [hn]; trivial
          · have hx : b.blk ≠ bi.blk := fun e => h0 (hok.rel.inj i iid b bi hb hbib hn hne e)
            refine h2.mono (.refl _) (hw1o _ hx) fun m' k' v' bm' hB hm' g1 g2 => ⟨(hok.rel.lt m' bm' hm').1, ?_, ?_⟩
            · have hmi' : m' ≠ iid := fun e => by subst e; exact hnmi i b k' v' hb hB
              rw [hb1 m' hmi']
              rw [hp1 m' hmi'] at g2
              exact g2
            · have hmi' : m' ≠ iid := fun e => by subst e; exact hnmi i b k' v' hb hB
              rw [hp1 m' hmi'] at g2
              exact hw1o _ (fun e => hmi' (hok.rel.inj m' iid bm' bi hm' hbib g2 hne e))
      · have hi : s.next ≤ i := hi
        have h0 : i ≠ iid := fun e => by subst e; exact absurd (hok.rel.lt _ bi hbib).1 (Nat.not_lt.2 hi)
        rw [hb1 i h0]; exact hok.rel.fresh i hi
    have dfr1 : DefOk nb β w1 a'.defers := by
      refine ⟨fun d hd => ?_, hI.dfr.2⟩
      obtain ⟨rr, g1, g2, g3, g4⟩ := hI.dfr.1 d hd
      exact ⟨rr, g1, (hw1o rr (fun e => g3 iid bi hbib e.symm)).trans g2, g3, g4⟩
    refine wpIn_mono (hbody s2 lr β ⟨s.heap.put iid (.mitc m x v), s.next, s.next⟩ w1 β ⟨s.heap.put iid (.mitc m x v), s.next, s.next⟩ (((restrict L env).set tu .undef).set c (.bool true)) _ w1
      ⟨rel1, hI.env.set2 l2 l1 (by simp [VR]) (by simp [VR]), dfr1⟩ (.refl _ _ _) q3) ?_
    intro ex a'' w'' hq
    cases ex <;> try exact hq.elim
    obtain ⟨β', env', hok', tr', hlr⟩ := hq
    have hro' : ∀ i, i < s.next → s2.blk i = (⟨s.heap.put iid (.mitc m x v), s.next, s.next⟩ : St).blk i := fun i hi => tr'.old i hi
    have hli := (hok.rel.lt iid bi hbib).1
    have hit'' : w''.heap[bi.blk]? = some (.mapIter (some bm.blk) clk (seen.push en.born) clk) := (tr'.oldw iid bi hli hbib (by rw [hb2]; simp)).trans hw1b
    have hmp'' : w''.heap[bm.blk]? = some (.map ents clk) := (tr'.oldw m bm (hok.rel.lt m bm hbmb).1 hbmb (by rw [hb1 m hmi]; exact hnem)).trans ((hw1o _ hbne).trans hI.mp)
    have rel'' : Rel P lv β (s.put iid .none) w'' := Rel.back hok.rel hok'.rel tr'.le (fun i hi h0 => (hro' i hi).trans (hb1 i h0)) hnmi
    have hI'' : MI P lv nb n β s w (restrict L env) iid bi bm clk ents (seen.push en.born) a'' w'' := by
      have hszw : w.heap.size ≤ w''.heap.size := Nat.le_trans hI.tr.size (Nat.le_trans (by rw [hw1]; simp) tr'.size)
      refine ⟨rel'', ⟨.refl _, hI.tr.late, hszw, hI.tr.next, hI.tr.ro, hI.tr.old, fun _ _ h => .inl h, fun y hy hny => ?_, fun i b hi hb hn => ?_, fun i b hb hd => ?_, tr'.io.1.trans (hio1.1.trans hI.tr.io.1), tr'.io.2.trans (hio1.2.trans hI.tr.io.2)⟩, ?_, ?_, hit'', hmp''⟩
      · have h1 : y < w1.heap.size := by rw [hw1]; simpa using Nat.lt_of_lt_of_le hy hI.tr.size
        rw [tr'.frame y h1 hny, hw1o y (fun e => hny iid bi hbib e.symm), hI.tr.frame y hy hny]
      · have h0 : i ≠ iid := fun e => by subst e; exact absurd hi (Nat.not_lt.2 hro)
        have hx : b.blk ≠ bi.blk := fun e => h0 (hok.rel.inj i iid b bi hb hbib hn hne e)
        rw [tr'.oldw i b (hok.rel.lt i b hb).1 hb (by rw [hb1 i h0]; exact hn), hw1o _ hx, hI.tr.oldw i b hi hb hn]
      · have h0 : i ≠ iid := fun e => by subst e; rw [hbi] at hd; cases hd
        have hx : b.blk ≠ bi.blk := fun e => h0 (hok.rel.inj i iid b bi hb hbib (by rw [hd]; simp) hne e)
        exact ⟨by rw [hp1 i h0]; exact hd, by rw [tr'.oldw i b (hok.rel.lt i b hb).1 hb (by rw [hb1 i h0, hd]; simp), hw1o _ hx, (hI.tr.dark i b hb hd).2]⟩
      · rw [← hlr] at q4
        have he := sameL_vr q4 hok'.env
        refine ⟨he.size, fun t => ?_⟩
        exact VR.back tr'.le _ _ _ (hI.env.env t) (he.env t)
      · refine ⟨fun d hd => ?_, hok'.dfr.2⟩
        obtain ⟨rr, g1, g2, g3, g4⟩ := hok'.dfr.1 d hd
        exact ⟨rr, g1, g2, fun i b hb => g3 i b (tr'.le _ _ hb), g4⟩
    refine ⟨⟨_, hI''⟩, ?_⟩
    rw [hμ hI'', hμ hI]
    exact left_push hmem
end
end Go.Ev
