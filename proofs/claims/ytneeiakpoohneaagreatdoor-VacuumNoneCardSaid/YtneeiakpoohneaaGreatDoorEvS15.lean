/- Regions whose order is not drawn. -/
import Derived.Test.YtneeiakpoohneaaGreatDoorEvS14
set_option linter.all false
set_option linter.unusedSimpArgs false
set_option linter.unusedVariables false
namespace Go.Ev

/-- the marks of loops over functions: their blocks hold nothing, and no id stands for them -/
def DefOk (nb : Nat) (β : Bt) (w : World) (ds : List Deferred) : Prop :=
  (∀ d ∈ ds, ∃ r, d.target = .collected r ∧ w.heap[r]? = some (.deferred (some [])) ∧ (∀ i b, β i = some b → b.blk ≠ r) ∧ nb ≤ r) ∧ ds.Pairwise fun d e => d.target ≠ e.target
theorem DefOk.tr {nb : Nat} {β β' : Bt} {s s' : St} {w w' : World} {ds : List Deferred} (h : DefOk nb β w ds) (ht : Tr β s w β' s' w') : DefOk nb β' w' ds := by
  refine ⟨fun d hd => ?_, h.2⟩
  obtain ⟨r, h1, h2, h3, h4⟩ := h.1 d hd
  have hlt : r < w.heap.size := (Array.getElem?_eq_some_iff.1 h2).1
  refine ⟨r, h1, (ht.frame r hlt h3).trans h2, fun i b hb => ?_, h4⟩
  rcases ht.new i b hb with g | g | ⟨j, c, g1, g2⟩
  · exact h3 i b g
  · intro e; subst e; exact absurd hlt (Nat.not_lt.2 g)
  · rw [← g2]; exact h3 j c g1

structure Ok (P : Program) (lv : Nat → Nat → Nat → Option (List Tmp)) (nb n : Nat) (β : Bt) (s : St) (env : Env) (a : Act) (w : World) : Prop where
  rel : Rel P lv β s w
  env : EnvR β n env a
  dfr : DefOk nb β w a.defers

theorem EnvR.mono {β β' : Bt} {n : Nat} {env : Env} {a : Act} (h : EnvR β n env a) (hle : BtLe β β') : EnvR β' n env a := ⟨h.size, fun t => (h.env t).mono hle⟩
theorem put_defers (a : Act) (d : Option Tmp) (v : Value) : (a.put d v).defers = a.defers := by cases d <;> rfl
theorem dstK_ok {β : Bt} {n : Nat} {env : Env} {a : Act} {d : Option Tmp} {v : AV} {u : Value} {k : Env → Out} {out : Out} (he : EnvR β n env a) (hv : VR β v u) (h : dstK n d env v k = out) (ho : out ≠ .err) :
    ∃ env', EnvR β n env' (a.put d u) ∧ k env' = out := by
  cases d with
  | none => exact ⟨env, he, h⟩
  | some t =>
    simp only [dstK] at h
    obtain ⟨h1, h2⟩ := of_bif h ho
    have h1 := blt_lt h1
    refine ⟨_, ⟨by simp [Act.put, he.size], fun x => ?_⟩, h2⟩
    simp only [Env.set, Act.put]
    cases hx : Nat.beq x t with
    | true =>
      have := beq_eq hx
      subst this
      have hlt : x < a.tmps.size := by rw [he.size]; exact h1
      simpa [hlt] using hv
    | false =>
      have hne : t ≠ x := fun e => by subst e; rw [Nat.beq_refl] at hx; cases hx
      have := he.env x
      simp only [cond_false]
      have e : (a.tmps.setIfInBounds t u).getD x undef = a.tmps.getD x undef := by
        simp only [Array.getD_eq_getD_getElem?, Array.getElem?_setIfInBounds, if_neg hne]
      rw [e]; exact this
theorem restrict_vr {β : Bt} {n : Nat} {env : Env} {a : Act} (L : List Tmp) (he : EnvR β n env a) : EnvR β n (restrict L env) a := by
  refine ⟨he.size, fun t => ?_⟩
  unfold restrict
  induction L with
  | nil => simp [mk, VR]
  | cons x L ih =>
    simp only [List.map_cons, mk, Env.set]
    cases hx : Nat.beq t x with
    | true => have := beq_eq hx; subst this; exact he.env t
    | false => exact ih

section
variable {P : Program} {lv : Nat → Nat → Nat → Option (List Tmp)} {lf : Nat → Nat → Option (List Tmp)} {F : Fence} {call : Call} {nb n : Nat} {out : Out} {β₀ : Bt} {s₀ : St} {w₀ : World}

/-- what comes behind is sound -/
def SK (P : Program) (lv : Nat → Nat → Nat → Option (List Tmp)) (nb n : Nat) (out : Out) (β₀ : Bt) (s₀ : St) (w₀ : World) (k : K) (N : Act → World → Prop) : Prop :=
  ∀ β s env a w, Ok P lv nb n β s env a w → Tr β₀ s₀ w₀ β s w → k s env = out → N a w

theorem SK.jn {k : K} {N : Act → World → Prop} {id i : Nat} (ho : out ≠ .err) (h : SK P lv nb n out β₀ s₀ w₀ k N) : SK P lv nb n out β₀ s₀ w₀ (jn lf id i k) N := by
  intro β s env a w hok ht hk
  unfold Ev.jn at hk
  cases hl : lf id i with
  | none => rw [hl] at hk; exact absurd hk.symm ho
  | some L =>
    rw [hl] at hk
    exact h β s _ a w ⟨hok.rel, restrict_vr L hok.env, hok.dfr⟩ ht hk

/-- operations that are all wanted -/
theorem runK_ok (hc : CallSound F P lv call) (hF : F.depth = none) (hFf : ∀ f, F.fn f) (ho : out ≠ .err) {ops : Array Oper} {Q : Exit → Act → World → Prop} {k : K} {L : List Nat} :
    ∀ (l : List Oper) (i : Nat) (J : Act → Prop), (∀ m o, l[m]? = some o → ops[i + m]? = some o) → (∀ a, J a → ∀ o ∈ l, Region.wanted o (yielded ops a.tmps) = true) → (∀ a, J a → ∀ o ∈ l, ∀ u, J (a.put o.dst u)) →
      SK P lv nb n out β₀ s₀ w₀ k (fun a w => J a → wpOpsIn F 0 P ops Q L a w) →
      SK P lv nb n out β₀ s₀ w₀ (runK P call n l k) (fun a w => J a → wpOpsIn F 0 P ops Q (List.range' i l.length ++ L) a w)
  | [], i, J, _, _, _, hk => by simpa [runK] using hk
  | o :: l, i, J, hl, hw, hJ, hk => by
    intro β s env a w hok ht h hja
    simp only [runK] at h
    have h0 : ops[i]? = some o := by have := hl 0 o rfl; simpa using this
    have hwo := hw a hja o (by simp)
    show wpOpsIn F 0 P ops Q (i :: (List.range' (i + 1) l.length ++ L)) a w
    simp only [wpOpsIn, h0, hwo, if_true, Oper.wpIn]
    refine ⟨fun f _ => hFf f, ?_⟩
    refine evOp_sound hc hF hok.rel hok.env h ho ?_
    intro β' s' w' v u hr ht' hv hk'
    obtain ⟨env', he', hk''⟩ := dstK_ok (hok.env.mono ht'.le) hv hk' ho
    refine runK_ok hc hF hFf ho l (i + 1) J (fun m o' hm => by have := hl (m + 1) o' (by simpa using hm); rwa [show i + (m + 1) = i + 1 + m by omega] at this) (fun a ha o' ho' => hw a ha o' (by simp [ho'])) (fun a ha o' ho' => hJ a ha o' (by simp [ho'])) hk
      β' s' env' _ w' ⟨hr, he', by rw [put_defers]; exact hok.dfr.tr ht'⟩ (ht.trans ht') hk'' (hJ a hja o (by simp) u)
/-- operations that are all not wanted -/
theorem undefK_ok (hFf : ∀ f, F.fn f) (ho : out ≠ .err) {ops : Array Oper} {Q : Exit → Act → World → Prop} {k : K} {L : List Nat} (J : Act → Prop) (hk : SK P lv nb n out β₀ s₀ w₀ k (fun a w => J a → wpOpsIn F 0 P ops Q L a w)) :
    ∀ (l : List Oper) (i : Nat), (∀ m o, l[m]? = some o → ops[i + m]? = some o) → (∀ a, J a → ∀ o ∈ l, Region.wanted o (yielded ops a.tmps) = false) → (∀ a, J a → ∀ o ∈ l, ∀ u, J (a.put o.dst u)) →
      ∀ β s env a w, Ok P lv nb n β s env a w → Tr β₀ s₀ w₀ β s w → undefK n l env (fun env => k s env) = out → J a → wpOpsIn F 0 P ops Q (List.range' i l.length ++ L) a w
  | [], i, _, _, _, β, s, env, a, w, hok, ht, h, hja => by simpa using hk β s env a w hok ht h hja
  | o :: l, i, hl, hw, hJ, β, s, env, a, w, hok, ht, h, hja => by
    simp only [undefK] at h
    have h0 : ops[i]? = some o := by have := hl 0 o rfl; simpa using this
    have hwo := hw a hja o (by simp)
    show wpOpsIn F 0 P ops Q (i :: (List.range' (i + 1) l.length ++ L)) a w
    simp only [wpOpsIn, h0, hwo, Bool.false_eq_true, if_false]
    refine ⟨fun f _ => hFf f, ?_⟩
    obtain ⟨env', he', hk''⟩ := dstK_ok (u := undef) hok.env (by simp only [VR]; exact ⟨#[], rfl, by simp [LR]⟩) h ho
    exact undefK_ok hFf ho J hk l (i + 1) (fun m o' hm => by have := hl (m + 1) o' (by simpa using hm); rwa [show i + (m + 1) = i + 1 + m by omega] at this) (fun a ha o' ho' => hw a ha o' (by simp [ho'])) (fun a ha o' ho' => hJ a ha o' (by simp [ho']))
      β s env' _ w ⟨hok.rel, he', by rw [put_defers]; exact hok.dfr⟩ ht hk'' (hJ a hja o (by simp) undef)

/- groups -/
theorem guardEq_eq {g g' : Option (Nat × Bool)} (h : guardEq g g' = true) : g = g' := by
  cases g with
  | none => cases g' with
    | none => rfl
    | some y => cases h
  | some x => cases g' with
    | none => cases h
    | some y =>
      obtain ⟨i, b⟩ := x
      obtain ⟨j, c⟩ := y
      simp only [guardEq, Bool.and_eq_true] at h
      have h1 := beq_eq h.1
      have h2 : b = c := by simpa using h.2
      rw [h1, h2]
/-- groups lie one behind another -/
def Cuts (ops : Array Oper) : Nat → List (Option (Nat × Bool) × List Oper × Nat) → Prop
  | i, [] => i = ops.size
  | i, (g, l, j) :: r => j = i + l.length ∧ (∀ m o, l[m]? = some o → ops[i + m]? = some o) ∧ (∀ o ∈ l, o.guard = g) ∧ Cuts ops j r
theorem groups_cuts (ops : Array Oper) : ∀ (l : List Oper) (i : Nat), l = ops.toList.drop i → i ≤ ops.size → Cuts ops i (groups i l)
  | [], i, h, hi => by
    have := congrArg List.length h
    simp at this
    simp only [groups, Cuts]
    omega
  | o :: l, i, h, hi => by
    have hlt : i < ops.size := by
      have := congrArg List.length h
      simp at this
      omega
    have h0 : ops[i]? = some o := by
      have := congrArg (·[0]?) h
      simp only [List.getElem?_cons_zero, List.getElem?_drop, Nat.add_zero] at this
      simpa using this.symm
    have ht : l = ops.toList.drop (i + 1) := by
      have := congrArg List.tail h
      simpa using this
    have ih := groups_cuts ops l (i + 1) ht (by omega)
    simp only [groups]
    cases hg : groups (i + 1) l with
    | nil =>
      rw [hg] at ih
      refine ⟨rfl, fun m o' hm => ?_, by simp, ih⟩
      cases m with
      | zero => simp at hm; subst hm; simpa using h0
      | succ m => simp at hm
    | cons x r =>
      obtain ⟨g, os, j⟩ := x
      rw [hg] at ih
      obtain ⟨e1, e2, e3, e4⟩ := ih
      simp only
      split
      · rename_i hq
        have := guardEq_eq hq
        subst this
        refine ⟨by rw [e1]; simp; omega, fun m o' hm => ?_, fun o' ho' => ?_, e4⟩
        · cases m with
          | zero => simp at hm; subst hm; simpa using h0
          | succ m =>
            have := e2 m o' (by simpa using hm)
            rwa [show i + 1 + m = i + (m + 1) by omega] at this
        · simp only [List.mem_cons] at ho'
          rcases ho' with rfl | ho'
          · rfl
          · exact e3 o' ho'
      · refine ⟨rfl, fun m o' hm => ?_, by simp, e1, e2, e3, e4⟩
        cases m with
        | zero => simp at hm; subst hm; simpa using h0
        | succ m => simp at hm
theorem wanted_none {o : Oper} {y : Nat → Option Bool} (h : o.guard = none) : Region.wanted o y = true := by simp [Region.wanted, h]
theorem wanted_some {o : Oper} {y : Nat → Option Bool} {j : Nat} {w : Bool} (h : o.guard = some (j, w)) : Region.wanted o y = (y j == some w) := by simp [Region.wanted, h]
theorem yielded_of {ops : Array Oper} {tmps : Array Value} {j : Nat} {t : Tmp} (ht : guardT ops j = some t) : yielded ops tmps j = match tmps[t]? with | some (.bool b) => some b | _ => none := by
  unfold guardT at ht
  unfold yielded
  cases ho : ops[j]? with
  | none => rw [ho] at ht; cases ht
  | some o =>
    rw [ho] at ht
    simp only at ht
    simp only [Option.bind_some, ht]
    rfl
theorem leaves_ok {t : Tmp} {l : List Oper} (h : leaves t l = true) {o : Oper} (ho : o ∈ l) (a : Act) (u : Value) : (a.put o.dst u).tmps[t]? = a.tmps[t]? := by
  simp only [leaves, List.all_eq_true] at h
  have := h o ho
  cases hd : o.dst with
  | none => rfl
  | some d =>
    rw [hd] at this
    have hne : d ≠ t := by
      intro e; subst e; simp at this
    simp [Act.put, Array.getElem?_setIfInBounds, hne]
theorem evGroups_ok (hc : CallSound F P lv call) (hF : F.depth = none) (hFf : ∀ f, F.fn f) (ho : out ≠ .err) {id : Nat} {ops : Array Oper} {Q : Exit → Act → World → Prop} {k : K}
    (hk : SK P lv nb n out β₀ s₀ w₀ k (Q .normal)) : ∀ (gs : List (Option (Nat × Bool) × List Oper × Nat)) (i : Nat), Cuts ops i gs → SK P lv nb n out β₀ s₀ w₀ (evGroups P call lf n id ops gs k) (wpOpsIn F 0 P ops Q (List.range' i (ops.size - i)))
  | [], i, h => by
    simp only [Cuts] at h
    subst h
    simpa [evGroups, wpOpsIn] using hk
  | (g, l, j) :: r, i, h => by
    obtain ⟨e1, e2, e3, e4⟩ := h
    have ih := evGroups_ok (id := id) hc hF hFf ho hk r j e4
    have hsz : i + l.length ≤ ops.size := by
      rcases Nat.eq_zero_or_pos l.length with h0 | h0
      · have hj : ∀ (gs : List (Option (Nat × Bool) × List Oper × Nat)) (i : Nat), Cuts ops i gs → i ≤ ops.size := by
          intro gs
          induction gs with
          | nil => intro i h; simp only [Cuts] at h; omega
          | cons x r ih => intro i h; obtain ⟨g, l, j⟩ := x; obtain ⟨q1, _, _, q4⟩ := h; have := ih j q4; omega
        have := hj r j e4
        omega
      · have := e2 (l.length - 1) (l[l.length - 1]'(by omega)) (by simp)
        have hlt := (Array.getElem?_eq_some_iff.1 this).1
        omega
    have hspl : List.range' i (ops.size - i) = List.range' i l.length ++ List.range' j (ops.size - j) := by
      rw [e1, List.range'_append_1]
      congr 1
      omega
    rw [hspl]
    cases g with
    | none =>
      simp only [evGroups]
      have := runK_ok (Q := Q) (L := List.range' j (ops.size - j)) hc hF hFf ho l i (fun _ => True) e2 (fun a _ o ho' => wanted_none (e3 o ho')) (fun _ _ _ _ _ => trivial) (fun β s env a w q1 q2 q3 _ => ih β s env a w q1 q2 q3)
      exact fun β s env a w q1 q2 q3 => this β s env a w q1 q2 q3 trivial
    | some g =>
      obtain ⟨jg, wt⟩ := g
      simp only [evGroups]
      cases hg : guardT ops jg with
      | none => intro β s env a w _ _ h; exact absurd h.symm ho
      | some t =>
        cases hlv : leaves t l with
        | false => intro β s env a w _ _ h; simp only [hlv, cond_false] at h; exact absurd h.symm ho
        | true =>
          intro β s env a w hok ht h
          simp only [hlv, cond_true] at h
          have hvt := hok.env.env t
          have ihj : SK P lv nb n out β₀ s₀ w₀ (jn lf id j (evGroups P call lf n id ops r k)) (wpOpsIn F 0 P ops Q (List.range' j (ops.size - j))) := ih.jn ho
          have yes : ∀ b, a.tmps[t]? = some (.bool b) → b = wt → runK P call n l (jn lf id j (evGroups P call lf n id ops r k)) s env = out → wpOpsIn F 0 P ops Q (List.range' i l.length ++ List.range' j (ops.size - j)) a w := by
            intro b hb hbw hrun
            refine runK_ok (Q := Q) (L := List.range' j (ops.size - j)) hc hF hFf ho l i (fun a => a.tmps[t]? = some (.bool wt)) e2 (fun a ha o ho' => ?_) (fun a ha o ho' u => by rw [leaves_ok hlv ho']; exact ha)
              (fun β s env a w q1 q2 q3 _ => ihj β s env a w q1 q2 q3) β s env a w hok ht hrun (by rw [hb, hbw])
            rw [wanted_some (e3 o ho'), yielded_of hg, ha]
            simp
          have no : (∀ b, a.tmps[t]? = some (.bool b) → b ≠ wt) → undefK n l env (fun env => jn lf id j (evGroups P call lf n id ops r k) s env) = out → wpOpsIn F 0 P ops Q (List.range' i l.length ++ List.range' j (ops.size - j)) a w := by
            intro hb hrun
            refine undefK_ok (n := n) (s := s) (k := jn lf id j (evGroups P call lf n id ops r k)) hFf ho (fun a => ∀ b, a.tmps[t]? = some (.bool b) → b ≠ wt) (fun β s env a w q1 q2 q3 _ => ihj β s env a w q1 q2 q3) l i e2 (fun a ha o ho' => ?_) (fun a ha o ho' u => by rw [leaves_ok hlv ho']; exact ha) β env a w hok ht hrun hb
            rw [wanted_some (e3 o ho'), yielded_of hg]
            cases hv : a.tmps[t]? with
            | none => simp
            | some v =>
              cases v <;> simp only <;> try rfl
              rename_i b
              have := ha b hv
              simp [this]
          cases hev : env t <;> rw [hev] at h hvt <;> simp only [guardK] at h <;> try exact absurd h.symm ho
          · rename_i b
            simp only [VR] at hvt
            have hsome : a.tmps[t]? = some (.bool b) := by
              cases hq : a.tmps[t]? with
              | none => simp [Array.getD_eq_getD_getElem?, hq, undef] at hvt
              | some v => simp [Array.getD_eq_getD_getElem?, hq] at hvt; rw [hvt]
            cases hx : Bool.xor b wt with
            | true =>
              rw [hx] at h
              exact no (fun c hc' => by rw [hsome] at hc'; cases hc'; intro e; subst e; simp at hx) h
            | false =>
              rw [hx] at h
              exact yes b hsome (by cases b <;> cases wt <;> simp_all) h
          · simp only [VR] at hvt
            obtain ⟨ar, har, _⟩ := hvt
            exact no (fun c hc' => by simp [Array.getD_eq_getD_getElem?, hc'] at har) h
end
end Go.Ev
