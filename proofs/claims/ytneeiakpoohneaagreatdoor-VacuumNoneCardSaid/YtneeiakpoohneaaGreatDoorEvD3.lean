/- Regions whose order is drawn. -/
import Derived.Test.YtneeiakpoohneaaGreatDoorEvD2
set_option linter.all false
set_option linter.unusedSimpArgs false
set_option linter.unusedVariables false
namespace Go.Ev

/-- what the evaluator recorded of an operation: the value, what it looked at, the id of a row it made -/
structure Rc where
  v : AV
  e : Env
  id : Nat
  nw : Bool
def setD (d : Option Tmp) (v : AV) (e : Env) : Env := match d with
  | none => e
  | some t => e.set t v
def only (l : List Tmp) (e : Env) : Env := fun t => if t ∈ l then e t else .undef
def lst (L : Array Bool) (i : Nat) : Prop := L.getD i false = true
def Bf (bef : Array Nat) (i j : Nat) : Prop := (bef.getD i 0).testBit j = true
def effAt (ops : Array Oper) (x : Nat) : Bool := effect (ops.getD x default).op
def wantedE (ops : Array Oper) (o : Oper) (e : Env) : Prop := o.guard = none ∨ ∃ j w t, o.guard = some (j, w) ∧ guardT ops j = some t ∧ e t = .bool w
def skipE (ops : Array Oper) (o : Oper) (e : Env) : Prop := ∃ j w t, o.guard = some (j, w) ∧ guardT ops j = some t ∧ ((∃ b, e t = .bool b ∧ b ≠ w) ∨ ∃ l, e t = .tup l)

abbrev Fl := List (Nat × TF × AV × AV)
section
variable {P : Program} {lv : Nat → Nat → Nat → Option (List Tmp)} {lf : Nat → Nat → Option (List Tmp)} {F : Fence} {call : Call} {nb n : Nat} {out : Out} {β₀ : Bt} {s₀ : St} {w₀ : World} {ops : Array Oper} {bef : Array Nat} {nx : K}

theorem dstK_setD {d : Option Tmp} {v : AV} {e : Env} {k : Env → Out} (h : dstK n d e v k = out) (ho : out ≠ .err) : (∀ t, d = some t → t < n) ∧ k (setD d v e) = out := by
  cases d with
  | none => exact ⟨fun _ h => (by cases h), h⟩
  | some t =>
    obtain ⟨h1, h2⟩ := of_bif h ho
    exact ⟨fun _ h => (by cases h; exact blt_lt h1), h2⟩

/- the static check -/
structure Chk1 (bef : Array Nat) (ops : Array Oper) : Prop where
  lt : ∀ i o, ops[i]? = some o → ∀ e ∈ o.after, Region.binds .any e = true → e.on < i
  min : ∀ i o j, ops[i]? = some o → j < ops.size → Bf bef i j → ∃ e ∈ o.after, Region.binds .any e = true ∧ (e.on = j ∨ Bf bef e.on j)
  one : ∀ i j o t, ops[i]? = some o → i ≠ j → guardT ops j = some t → o.dst ≠ some t
  ord : ∀ i j o t, ops[i]? = some o → i ≠ j → guardT ops j = some t → t ∈ o.looksAt ops → Bf bef i j ∨ Bf bef j i
theorem guardT_lt {j : Nat} {t : Tmp} (h : guardT ops j = some t) : j < ops.size := by
  unfold guardT at h
  rcases Nat.lt_or_ge j ops.size with g | g
  · exact g
  · rw [Array.getElem?_eq_none g] at h; cases h
theorem guardT_of {j : Nat} {o : Oper} (h : ops[j]? = some o) : guardT ops j = o.dst := by simp [guardT, h]
theorem chk1_ok (h : chk1 bef ops = true) : Chk1 bef ops := by
  simp only [chk1, List.all_eq_true, List.mem_range] at h
  have key : ∀ i o, ops[i]? = some o → (o.after.all (fun e => !Region.binds .any e || Nat.blt e.on i) = true) ∧ ∀ j, j < ops.size → ((!(bef.getD i 0).testBit j || o.after.any fun e => Region.binds .any e && (Nat.beq e.on j || (bef.getD e.on 0).testBit j)) &&
      (Nat.beq i j || match guardT ops j with
        | none => true
        | some t => (match o.dst with | some d => !(Nat.beq d t) | none => true) && (!((o.looksAt ops).any (Nat.beq t)) || (bef.getD i 0).testBit j || (bef.getD j 0).testBit i))) = true := by
    intro i o ho
    have := h i (Array.getElem?_eq_some_iff.1 ho).1
    rw [ho] at this
    simp only [Bool.and_eq_true, List.all_eq_true, List.mem_range] at this
    exact ⟨this.1, fun j hj => by have := this.2 j hj; simp only [Bool.and_eq_true]; exact this⟩
  refine ⟨fun i o ho e he hb => ?_, fun i o j ho hj hbf => ?_, fun i j o t ho hij ht => ?_, fun i j o t ho hij ht hl => ?_⟩
  · have := (key i o ho).1
    rw [Array.all_eq_true_iff_forall_mem] at this
    have := this e he
    rw [hb] at this
    exact blt_lt (by simpa using this)
  · have := (key i o ho).2 j hj
    simp only [Bool.and_eq_true, Bool.or_eq_true] at this
    rcases this.1 with h1 | h1
    · simp only [Bf] at hbf
      rw [hbf] at h1
      cases h1
    · rw [← Array.any_toList, List.any_eq_true] at h1
      obtain ⟨e, he, h2⟩ := h1
      have he : e ∈ o.after := by simpa using he
      simp only [Bool.and_eq_true, Bool.or_eq_true] at h2
      exact ⟨e, he, h2.1, h2.2.imp beq_eq id⟩
  · have := (key i o ho).2 j (guardT_lt ht)
    simp only [Bool.and_eq_true, Bool.or_eq_true] at this
    rcases this.2 with h1 | h1
    · exact absurd (beq_eq h1) hij
    · rw [ht] at h1
      simp only [Bool.and_eq_true] at h1
      intro hd
      rw [hd] at h1
      have := h1.1
      simp [Nat.beq_refl] at this
  · have := (key i o ho).2 j (guardT_lt ht)
    simp only [Bool.and_eq_true, Bool.or_eq_true] at this
    rcases this.2 with h1 | h1
    · exact absurd (beq_eq h1) hij
    · rw [ht] at h1
      simp only [Bool.and_eq_true, Bool.or_eq_true] at h1
      rcases h1.2 with (h2 | h2) | h2
      · exfalso
        have : (o.looksAt ops).any (Nat.beq t) = true := List.any_eq_true.2 ⟨t, hl, Nat.beq_refl t⟩
        rw [this] at h2
        cases h2
      · exact .inl h2
      · exact .inr h2
theorem any_beq {l : List Nat} {i : Nat} : l.any (Nat.beq i) = true ↔ i ∈ l := by
  rw [List.any_eq_true]
  constructor
  · rintro ⟨x, hx, h⟩; rw [beq_eq h]; exact hx
  · intro h; exact ⟨i, h, Nat.beq_refl i⟩
theorem chk2_cons {E R : List Nat} {i : Nat} (h : chk2 P bef ops E (i :: R) = true) : ∃ o, ops[i]? = some o ∧ i ∉ E ∧ (∀ j, j < ops.size → Bf bef i j → j ∈ E) ∧
    (effect o.op = true → ∀ x ∈ R, Bf bef x i) ∧ (effect o.op = false → floatOk P o.op = true ∧ (lateOk P o.op = true ∨ ∀ x ∈ R, effAt ops x = true → Bf bef x i)) ∧ chk2 P bef ops (i :: E) R = true := by
  simp only [chk2] at h
  cases ho : ops[i]? with
  | none => rw [ho] at h; cases h
  | some o =>
    rw [ho] at h
    simp only [Bool.and_eq_true, Bool.not_eq_true'] at h
    obtain ⟨⟨⟨h1, h2⟩, h3⟩, h4⟩ := h
    refine ⟨o, rfl, fun hm => (by rw [any_beq.2 hm] at h1; cases h1), fun j hj hb => ?_, fun he x hx => ?_, fun he => ?_, h4⟩
    · have := List.all_eq_true.1 h2 j (List.mem_range.2 hj)
      simp only [Bf] at hb
      rw [hb] at this
      exact any_beq.1 (by simpa using this)
    · rw [he] at h3
      exact List.all_eq_true.1 h3 x hx
    · rw [he] at h3
      simp only [Bool.and_eq_true, Bool.or_eq_true] at h3
      refine ⟨h3.1, h3.2.imp id fun h x hx hex => ?_⟩
      have := List.all_eq_true.1 h x hx
      simp only [effAt] at hex
      rw [hex] at this
      simp only [Bool.not_true, Bool.false_or] at this
      exact this

/-- what has run and is not yet listed -/
inductive Late (P : Program) (call : Call) (ops : Array Oper) (bef : Array Nat) (R : List Nat) (fl : Fl) (β : Bt) (s : St) (nx₀ : Nat) (i : Nat) (o : Oper) (r : Rc) : Prop
  | skip : skipE ops o r.e → r.v = .tup [] → r.nw = false → Late P call ops bef R fl β s nx₀ i o r
  | pure : wantedE ops o r.e → (∀ s2 k2, evOp P call o.op s2 r.e k2 = k2 r.v s2) → r.nw = false → Late P call ops bef R fl β s nx₀ i o r
  | load (t : TypeId) (a : Operand) : wantedE ops o r.e → o.op = .load t a → (∀ s2, Ext s s2 → ∀ k2, evOp P call o.op s2 r.e k2 = k2 r.v s2) → ((i, tf P t, opv P r.e a, r.v) ∈ fl ∨ ∀ x ∈ R, effAt ops x = true → Bf bef x i) → r.nw = false → Late P call ops bef R fl β s nx₀ i o r
  | read : wantedE ops o r.e → (∀ s2, Ext s s2 → ∀ k2, evOp P call o.op s2 r.e k2 = k2 r.v s2) → (∀ x ∈ R, effAt ops x = true → Bf bef x i) → r.nw = false → Late P call ops bef R fl β s nx₀ i o r
  | new (m : Mk) (t : TypeId) (c : AV) : wantedE ops o r.e → newOp o.op = true → r.v = m.at r.id → β r.id = none → r.id < s.next → nx₀ ≤ r.id → s.blk r.id = .row t c →
      (∀ s2 k2, evOp P call o.op s2 r.e k2 = k2 (m.at s2.next) (s2.new (.row t c))) → r.nw = true → Late P call ops bef R fl β s nx₀ i o r

structure Sim (P : Program) (lv : Nat → Nat → Nat → Option (List Tmp)) (call : Call) (nb n : Nat) (ops : Array Oper) (bef : Array Nat) (β₀ : Bt) (s₀ : St) (w₀ : World) (G : Env) (E R : List Nat) (fl : Fl) (L : Array Bool) (rc : Nat → Rc) (β : Bt) (s : St) (env : Env) (a : Act) (w : World) : Prop where
  rel : Rel P lv β s w
  tr : Tr β₀ s₀ w₀ β s w
  dfr : DefOk nb β w a.defers
  size : a.tmps.size = n
  lsz : L.size = ops.size
  sub : ∀ i, lst L i → i ∈ E
  closed : ∀ i o, lst L i → ops[i]? = some o → ∀ e ∈ o.after, Region.binds .any e = true → lst L e.on
  cover : ∀ i, i < ops.size → i ∈ E ∨ i ∈ R
  chk : chk2 P bef ops E R = true
  down : ∀ i ∈ E, ∀ j, j < ops.size → Bf bef i j → j ∈ E
  val : ∀ i t, lst L i → guardT ops i = some t → VR β (rc i).v (a.tmps.getD t undef)
  base : ∀ t, (∀ i, lst L i → guardT ops i ≠ some t) → VR β (G t) (a.tmps.getD t undef)
  env : ∀ t, env t = .undef ∨ (∃ i ∈ E, guardT ops i = some t ∧ env t = (rc i).v) ∨ ((∀ i ∈ E, guardT ops i ≠ some t) ∧ env t = G t)
  late : ∀ i ∈ E, ¬ lst L i → ∀ o, ops[i]? = some o → Late P call ops bef R fl β s s₀.next i o (rc i)
  lenv : ∀ i ∈ E, ¬ lst L i → ∀ o, ops[i]? = some o → ∀ t ∈ o.looksAt ops, (rc i).e t = .undef ∨ (∃ j, Bf bef i j ∧ guardT ops j = some t ∧ (rc i).e t = (rc j).v) ∨ ((∀ j, Bf bef i j → guardT ops j ≠ some t) ∧ (rc i).e t = G t)
  ids : ∀ i j, i ∈ E → j ∈ E → ¬ lst L i → ¬ lst L j → (rc i).nw = true → (rc j).nw = true → (rc i).id = (rc j).id → i = j
  inE : ∀ i ∈ E, i < ops.size
  dlt : ∀ i ∈ E, ∀ t, guardT ops i = some t → t < n

/-- the evaluator's run along the canonical order -/
inductive Run (P : Program) (call : Call) (n : Nat) (ops : Array Oper) (bef : Array Nat) (out : Out) (nx : K) : List Nat → Fl → St → Env → Prop
  | nil {fl : Fl} {s : St} {env : Env} : nx s env = out → Run P call n ops bef out nx [] fl s env
  | restr {R : List Nat} {fl : Fl} {s : St} {env : Env} (l : List Tmp) : Run P call n ops bef out nx R fl s (restrict l env) → Run P call n ops bef out nx R fl s env
  | clear {R : List Nat} {fl : Fl} {s : St} {env : Env} : (∀ x ∈ fl, ∀ e ∈ R, effAt ops e = true → Bf bef e x.1) → Run P call n ops bef out nx R [] s env → Run P call n ops bef out nx R fl s env
  | step {R : List Nat} {fl : Fl} {s : St} {env : Env} {i : Nat} (o : Oper) (k : AV → St → Out) : ops[i]? = some o → wantedE ops o env → evOp P call o.op s env k = out → (∀ v s', k v s' = out → ∀ t, o.dst = some t → t < n) →
      (effect o.op = true → ∀ v s', k v s' = out → ∀ x ∈ fl, ¬ Bf bef i x.1 → ∀ k2, loadK x.2.1 s' x.2.2.1 k2 = k2 x.2.2.2) →
      (effect o.op = true → ∀ v s', k v s' = out → Run P call n ops bef out nx R fl s' (setD o.dst v env)) →
      (effect o.op = false → ∀ v s', k v s' = out → Run P call n ops bef out nx R (match o.op with | .load t a => (i, tf P t, opv P env a, v) :: fl | _ => fl) s' (setD o.dst v env)) → Run P call n ops bef out nx (i :: R) fl s env
  | skip {R : List Nat} {fl : Fl} {s : St} {env : Env} {i : Nat} (o : Oper) : ops[i]? = some o → skipE ops o env → (∀ t, o.dst = some t → t < n) → Run P call n ops bef out nx R fl s (setD o.dst (.tup []) env) → Run P call n ops bef out nx (i :: R) fl s env

theorem listedB {L : Array Bool} (hc : Chk1 bef ops) (cl : ∀ i o, lst L i → ops[i]? = some o → ∀ e ∈ o.after, Region.binds .any e = true → lst L e.on) :
    ∀ i o, ops[i]? = some o → (∀ e ∈ o.after, Region.binds .any e = true → lst L e.on) → ∀ j, j < ops.size → Bf bef i j → lst L j := by
  intro i
  induction i using Nat.strongRecOn with
  | _ i ih =>
    intro o ho he j hj hb
    obtain ⟨e, h1, h2, h3⟩ := hc.min i o j ho hj hb
    have hl := he e h1 h2
    rcases h3 with h3 | h3
    · rw [← h3]; exact hl
    · have hlt := hc.lt i o ho e h1 h2
      have hs : e.on < ops.size := Nat.lt_trans hlt (Array.getElem?_eq_some_iff.1 ho).1
      exact ih e.on hlt _ (Array.getElem?_eq_getElem hs) (cl e.on _ hl (Array.getElem?_eq_getElem hs)) j hj h3

theorem lst_set {L : Array Bool} {i : Nat} (hi : i < L.size) (j : Nat) : lst (L.setIfInBounds i true) j ↔ j = i ∨ lst L j := by
  simp only [lst, Array.getD_eq_getD_getElem?, Array.getElem?_setIfInBounds]
  by_cases h : i = j
  · subst h; simp [hi]
  · simp [h, Ne.symm h]
theorem put_getD_of {a : Act} {d : Option Tmp} {u : Value} {t : Tmp} (h : d ≠ some t) : (a.put d u).tmps.getD t undef = a.tmps.getD t undef := by
  cases d with
  | none => rfl
  | some x => exact put_getD_ne (fun e => h (by rw [e]))
theorem put_size (a : Act) (d : Option Tmp) (u : Value) : (a.put d u).tmps.size = a.tmps.size := by cases d <;> simp [Act.put]
theorem setD_of {d : Option Tmp} {v : AV} {e : Env} {t : Tmp} (h : d ≠ some t) : setD d v e t = e t := by
  cases d with
  | none => rfl
  | some x =>
    simp only [setD, Env.set]
    cases hb : Nat.beq t x with
    | false => rfl
    | true => exact absurd (by rw [beq_eq hb]) h
theorem setD_self {v : AV} {e : Env} {t : Tmp} : setD (some t) v e t = v := by simp [setD, Env.set, Nat.beq_refl]
theorem only_of {l : List Tmp} {e : Env} {t : Tmp} (h : t ∈ l) : only l e t = e t := if_pos h
theorem looks_op {o : Oper} {t : Tmp} (h : Operand.tmp t ∈ o.op.operands) : t ∈ o.looksAt ops := by
  unfold Oper.looksAt
  refine List.mem_append_left _ (List.mem_filterMap.2 ⟨.tmp t, by simpa using h, rfl⟩)
theorem looks_guard {o : Oper} {j : Nat} {b : Bool} {t : Tmp} (h : o.guard = some (j, b)) (ht : guardT ops j = some t) : t ∈ o.looksAt ops := by
  unfold Oper.looksAt
  refine List.mem_append_right _ ?_
  rw [h]
  simp only
  unfold guardT at ht
  cases ho : ops[j]? with
  | none => rw [ho] at ht; cases ht
  | some o => rw [ho] at ht; simp only at ht; simp [ht]
theorem evOp_only {o : Oper} {s : St} {e : Env} {k : AV → St → Out} : evOp P call o.op s (only (o.looksAt ops) e) k = evOp P call o.op s e k :=
  evOp_congr fun t ht => only_of (looks_op ht)
theorem getD_bool {a : Act} {t : Tmp} {b : Bool} (h : a.tmps.getD t undef = .bool b) : a.tmps[t]? = some (.bool b) := by
  cases hq : a.tmps[t]? with
  | none => simp [Array.getD_eq_getD_getElem?, hq, undef] at h
  | some v => simp [Array.getD_eq_getD_getElem?, hq] at h; rw [h]
theorem wanted_of {β : Bt} {o : Oper} {e : Env} {a : Act} (he : EnvR β n (only (o.looksAt ops) e) a) (h : wantedE ops o e) : Region.wanted o (yielded ops a.tmps) = true := by
  rcases h with h | ⟨j, w, t, hg, ht, hv⟩
  · exact wanted_none h
  · have h1 := he.env t
    rw [only_of (looks_guard hg ht), hv] at h1
    simp only [VR] at h1
    rw [wanted_some hg, yielded_of ht, getD_bool h1]
    simp
theorem unwanted_of {β : Bt} {o : Oper} {e : Env} {a : Act} (he : EnvR β n (only (o.looksAt ops) e) a) (h : skipE ops o e) : Region.wanted o (yielded ops a.tmps) = false := by
  obtain ⟨j, w, t, hg, ht, hv⟩ := h
  have h1 := he.env t
  rw [only_of (looks_guard hg ht)] at h1
  rw [wanted_some hg, yielded_of ht]
  rcases hv with ⟨b, hb, hne⟩ | ⟨l, hb⟩
  · rw [hb] at h1
    simp only [VR] at h1
    rw [getD_bool h1]
    simp [hne]
  · rw [hb] at h1
    simp only [VR] at h1
    obtain ⟨ar, har, _⟩ := h1
    cases hv : a.tmps[t]? with
    | none => simp
    | some v =>
      simp [Array.getD_eq_getD_getElem?, hv] at har
      subst har
      simp

variable {G : Env} {E R : List Nat} {fl : Fl} {L : Array Bool} {rc : Nat → Rc} {β : Bt} {s : St} {env : Env} {a : Act} {w : World}
theorem Late.id_lt {nx₀ i : Nat} {o : Oper} {r : Rc} (h : Late P call ops bef R fl β s nx₀ i o r) (hn : r.nw = true) : r.id < s.next := by
  cases h with
  | skip _ _ h => rw [h] at hn; cases hn
  | pure _ _ h => rw [h] at hn; cases hn
  | load _ _ _ _ _ _ h => rw [h] at hn; cases hn
  | read _ _ _ h => rw [h] at hn; cases hn
  | new m t c _ _ _ _ h => exact h
theorem Late.mono {nx₀ i : Nat} {o : Oper} {r : Rc} {R' : List Nat} {fl' : Fl} {β' : Bt} {s' : St} (h : Late P call ops bef R fl β s nx₀ i o r) (hR : ∀ x ∈ R', x ∈ R) (hfl : ∀ x ∈ fl, x ∈ fl') (hs : Ext s s') (hn : s.next ≤ s'.next)
    (hid : r.nw = true → β r.id = none → r.id < s.next → nx₀ ≤ r.id → β' r.id = none) : Late P call ops bef R' fl' β' s' nx₀ i o r := by
  cases h with
  | skip h1 h2 h3 => exact .skip h1 h2 h3
  | pure h1 h2 h3 => exact .pure h1 h2 h3
  | load t a h1 h2 h3 h4 h5 => exact .load t a h1 h2 (fun s2 h k2 => h3 s2 (hs.trans h) k2) (h4.imp (hfl _) fun h x hx => h x (hR x hx)) h5
  | read h1 h2 h3 h4 => exact .read h1 (fun s2 h k2 => h2 s2 (hs.trans h) k2) (fun x hx => h3 x (hR x hx)) h4
  | new m t c h1 h2 h3 h4 h5 h6 h7 h8 h9 => exact .new m t c h1 h2 h3 (hid h9 h4 h5 h6) (Nat.lt_of_lt_of_le h5 hn) h6 ((hs _ (by rw [h7]; simp)).trans h7) h8 h9

theorem Sim.lateEnv (hc : Chk1 bef ops) (h : Sim P lv call nb n ops bef β₀ s₀ w₀ G E R fl L rc β s env a w) {i : Nat} {o : Oper} (hi : i ∈ E) (hn : ¬ lst L i) (ho : ops[i]? = some o) (hb : ∀ j, j < ops.size → Bf bef i j → lst L j) :
    EnvR β n (only (o.looksAt ops) (rc i).e) a := by
  refine ⟨h.size, fun t => ?_⟩
  unfold only
  split
  · rename_i hm
    rcases h.lenv i hi hn o ho t hm with he | ⟨j, h1, h2, he⟩ | ⟨h1, he⟩
    · rw [he]; simp [VR]
    · rw [he]; exact h.val j t (hb j (guardT_lt h2) h1) h2
    · rw [he]
      refine h.base t fun j hj ht => ?_
      have hne : i ≠ j := fun e => hn (by rw [e]; exact hj)
      rcases hc.ord i j o t ho hne ht hm with b | b
      · exact h1 j b ht
      · have hjs := guardT_lt ht
        exact hn (listedB hc h.closed j _ (Array.getElem?_eq_getElem hjs) (h.closed j _ hj (Array.getElem?_eq_getElem hjs)) i (h.inE i hi) b)
  · simp [VR]
theorem Sim.headEnv (hc : Chk1 bef ops) {i : Nat} (h : Sim P lv call nb n ops bef β₀ s₀ w₀ G E (i :: R) fl L rc β s env a w) {o : Oper} (ho : ops[i]? = some o) (hb : ∀ j, j < ops.size → Bf bef i j → lst L j) :
    EnvR β n (only (o.looksAt ops) env) a := by
  obtain ⟨o', ho', hnE, hbE, _, _, _⟩ := chk2_cons h.chk
  have his := (Array.getElem?_eq_some_iff.1 ho).1
  refine ⟨h.size, fun t => ?_⟩
  unfold only
  split
  · rename_i hm
    rcases h.env t with he | ⟨j, hj, ht, he⟩ | ⟨h1, he⟩
    · rw [he]; simp [VR]
    · rw [he]
      have hne : i ≠ j := fun e => hnE (by rw [e]; exact hj)
      rcases hc.ord i j o t ho hne ht hm with b | b
      · exact h.val j t (hb j (guardT_lt ht) b) ht
      · exact absurd (h.down j hj i his b) hnE
    · rw [he]; exact h.base t fun j hj => h1 j (h.sub j hj)
  · simp [VR]

/-- a late one is run -/
theorem Sim.exec (hc : Chk1 bef ops) (h : Sim P lv call nb n ops bef β₀ s₀ w₀ G E R fl L rc β s env a w) {i : Nat} {o : Oper} {u : Value} {β' : Bt} {w' : World} (hi : i ∈ E) (hn : ¬ lst L i) (ho : ops[i]? = some o)
    (hready : ∀ e ∈ o.after, Region.binds .any e = true → lst L e.on) (hrel : Rel P lv β' s w') (htr : Tr β₀ s₀ w₀ β' s w') (hle : BtLe β β') (hdfr : DefOk nb β' w' a.defers) (hv : VR β' (rc i).v u)
    (hids : ∀ j ∈ E, ¬ lst L j → j ≠ i → (rc j).nw = true → β (rc j).id = none → (rc j).id < s.next → s₀.next ≤ (rc j).id → β' (rc j).id = none) :
    Sim P lv call nb n ops bef β₀ s₀ w₀ G E R fl (L.setIfInBounds i true) rc β' s env (a.put o.dst u) w' := by
  have hiL : i < L.size := by rw [h.lsz]; exact h.inE i hi
  have hset := lst_set hiL
  have hgi := guardT_of (ops := ops) ho
  refine ⟨hrel, htr, by rw [put_defers]; exact hdfr, by rw [put_size]; exact h.size, by simpa using h.lsz, fun j hj => ?_, fun j oj hj hoj e he hb => ?_, h.cover, h.chk, h.down, fun j t hj ht => ?_, fun t ht => ?_, h.env, fun j hj hnj oj hoj => ?_, fun j hj hnj oj hoj t ht => ?_, fun j k hj hk hnj hnk => ?_, h.inE, h.dlt⟩
  · rcases (hset j).1 hj with rfl | hj
    · exact hi
    · exact h.sub j hj
  · rcases (hset j).1 hj with rfl | hj
    · rw [ho] at hoj; cases hoj
      exact (hset _).2 (.inr (hready e he hb))
    · exact (hset _).2 (.inr (h.closed j oj hj hoj e he hb))
  · rcases (hset j).1 hj with rfl | hj
    · rw [hgi] at ht
      rw [ht, put_getD_self (by rw [h.size]; exact h.dlt j hi t (by rw [hgi]; exact ht))]
      exact hv
    · have hne : i ≠ j := fun e => hn (by rw [e]; exact hj)
      rw [put_getD_of (hc.one i j o t ho hne ht)]
      exact (h.val j t hj ht).mono hle
  · have h1 : o.dst ≠ some t := by rw [← hgi]; exact ht i ((hset i).2 (.inl rfl))
    rw [put_getD_of h1]
    exact (h.base t fun j hj => ht j ((hset j).2 (.inr hj))).mono hle
  · have h1 : ¬ lst L j := fun e => hnj ((hset j).2 (.inr e))
    have hne : j ≠ i := fun e => hnj ((hset j).2 (.inl e))
    exact (h.late j hj h1 oj hoj).mono (fun _ h => h) (fun _ h => h) (.refl _) (Nat.le_refl _) (hids j hj h1 hne)
  · exact h.lenv j hj (fun e => hnj ((hset j).2 (.inr e))) oj hoj t ht
  · exact h.ids j k hj hk (fun e => hnj ((hset j).2 (.inr e))) (fun e => hnk ((hset k).2 (.inr e)))

/-- the evaluator goes one operation ahead -/
theorem Sim.adv (hc : Chk1 bef ops) {x : Nat} (h : Sim P lv call nb n ops bef β₀ s₀ w₀ G E (x :: R) fl L rc β s env a w) {o : Oper} {r : Rc} {s' : St} {fl' : Fl} (ho : ops[x]? = some o) (hd : ∀ t, o.dst = some t → t < n) (hre : r.e = env)
    (hrel : Rel P lv β s' w) (htr : Tr β s w β s' w) (hs : Ext s s') (hfl : ∀ y ∈ fl, y ∈ fl') (hlate : Late P call ops bef R fl' β s' s₀.next x o r) (hid : r.nw = true → r.id = s.next) :
    Sim P lv call nb n ops bef β₀ s₀ w₀ G (x :: E) R fl' L (fun j => if j = x then r else rc j) β s' (setD o.dst r.v env) a w := by
  obtain ⟨o', ho', hnE, hbE, _, _, hchk⟩ := chk2_cons h.chk
  have hxs := (Array.getElem?_eq_some_iff.1 ho).1
  have hgx := guardT_of (ops := ops) ho
  have hrcE : ∀ j ∈ E, (if j = x then r else rc j) = rc j := fun j hj => if_neg fun e => hnE (by rw [← e]; exact hj)
  have hnL : ¬ lst L x := fun e => hnE (h.sub x e)
  refine ⟨hrel, h.tr.trans htr, h.dfr, h.size, h.lsz, fun i hi => List.mem_cons_of_mem _ (h.sub i hi), h.closed, fun i hi => ?_, hchk, fun i hi j hj hb => ?_, fun i t hi ht => ?_, h.base, fun t => ?_, fun i hi hni oi hoi => ?_, fun i hi hni oi hoi t ht => ?_, fun i j hi hj hni hnj h1 h2 h3 => ?_, fun i hi => ?_, fun i hi t ht => ?_⟩
  · rcases h.cover i hi with g | g
    · exact .inl (List.mem_cons_of_mem _ g)
    · rcases List.mem_cons.1 g with rfl | g
      · exact .inl (List.mem_cons_self ..)
      · exact .inr g
  · rcases List.mem_cons.1 hi with rfl | hi
    · exact List.mem_cons_of_mem _ (hbE j hj hb)
    · exact List.mem_cons_of_mem _ (h.down i hi j hj hb)
  · rw [hrcE i (h.sub i hi)]; exact h.val i t hi ht
  · by_cases ht : o.dst = some t
    · right; left
      refine ⟨x, List.mem_cons_self .., by rw [hgx]; exact ht, ?_⟩
      rw [ht, setD_self, if_pos rfl]
    · rw [setD_of ht]
      rcases h.env t with he | ⟨j, hj, hg, he⟩ | ⟨hno, he⟩
      · exact .inl he
      · exact .inr (.inl ⟨j, List.mem_cons_of_mem _ hj, hg, by rw [hrcE j hj]; exact he⟩)
      · refine .inr (.inr ⟨fun j hj => ?_, he⟩)
        rcases List.mem_cons.1 hj with rfl | hj
        · rw [hgx]; exact ht
        · exact hno j hj
  · rcases List.mem_cons.1 hi with rfl | hi
    · rw [ho] at hoi; cases hoi
      rw [if_pos rfl]; exact hlate
    · rw [hrcE i hi]
      exact (h.late i hi hni oi hoi).mono (fun y hy => List.mem_cons_of_mem _ hy) hfl hs htr.next (fun _ h1 _ _ => h1)
  · rcases List.mem_cons.1 hi with rfl | hi
    · rw [ho] at hoi; cases hoi
      rw [if_pos rfl, hre]
      rcases h.env t with he | ⟨j, hj, hg, he⟩ | ⟨hno, he⟩
      · exact .inl he
      · have hne : i ≠ j := fun e => hnE (by rw [e]; exact hj)
        rcases hc.ord i j _ t ho hne hg ht with hb | hb
        · exact .inr (.inl ⟨j, hb, hg, by rw [hrcE j hj]; exact he⟩)
        · exact absurd (h.down j hj i hxs hb) hnE
      · exact .inr (.inr ⟨fun j hb hg => hno j (hbE j (guardT_lt hg) hb) hg, he⟩)
    · have hkeep : ∀ j, Bf bef i j → guardT ops j = some t → (if j = x then r else rc j) = rc j := fun j hb hg => hrcE j (h.down i hi j (guardT_lt hg) hb)
      rw [hrcE i hi]
      rcases h.lenv i hi hni oi hoi t ht with he | ⟨j, hb, hg, he⟩ | he
      · exact .inl he
      · exact .inr (.inl ⟨j, hb, hg, by rw [hkeep j hb hg]; exact he⟩)
      · exact .inr (.inr he)
  · have old : ∀ k ∈ E, ¬ lst L k → (rc k).nw = true → (rc k).id < s.next := fun k hk hnk hw => (h.late k hk hnk _ (Array.getElem?_eq_getElem (h.inE k hk))).id_lt hw
    rcases List.mem_cons.1 hi with ei | hi <;> rcases List.mem_cons.1 hj with ej | hj
    · rw [ei, ej]
    · rw [if_pos ei] at h1 h3
      rw [hrcE j hj] at h2 h3
      have := old j hj hnj h2
      rw [hid h1] at h3
      omega
    · rw [hrcE i hi] at h1 h3
      rw [if_pos ej] at h2 h3
      have := old i hi hni h1
      rw [hid h2] at h3
      omega
    · rw [hrcE i hi] at h1 h3
      rw [hrcE j hj] at h2 h3
      exact h.ids i j hi hj hni hnj h1 h2 h3
  · rcases List.mem_cons.1 hi with rfl | hi
    · exact hxs
    · exact h.inE i hi
  · rcases List.mem_cons.1 hi with rfl | hi
    · exact hd t (by rw [← hgx]; exact ht)
    · exact h.dlt i hi t ht
end
end Go.Ev
