/- Code. -/
import Derived.Test.YtneeiakpoohneaaGreatDoorEvM
set_option linter.all false
set_option linter.unusedSimpArgs false
set_option linter.unusedVariables false
namespace Go.Ev
section
variable {P : Program} {lv : Nat → Nat → Nat → Option (List Tmp)} {lf : Nat → Nat → Option (List Tmp)} {F : Fence} {call : Call} {nb n : Nat} {out : Out} {β₀ : Bt} {s₀ : St} {w₀ : World}

theorem SK.err {N : Act → World → Prop} (ho : out ≠ .err) : SK P lv nb n out β₀ s₀ w₀ (fun _ _ => .err) N := fun _ _ _ _ _ _ _ h => absurd h.symm ho
theorem SK.imp {k : K} {N N' : Act → World → Prop} (h : SK P lv nb n out β₀ s₀ w₀ k N) (hi : ∀ a w, N a w → N' a w) : SK P lv nb n out β₀ s₀ w₀ k N' := fun β s env a w q1 q2 q3 => hi _ _ (h β s env a w q1 q2 q3)

/-- the exits of a piece of code -/
structure SX (P : Program) (lv : Nat → Nat → Nat → Option (List Tmp)) (nb n : Nat) (out : Out) (β₀ : Bt) (s₀ : St) (w₀ : World) (ex : Nat → K) (rt nx : K) (Q : Exit → Act → World → Prop) : Prop where
  ex : ∀ i, SK P lv nb n out β₀ s₀ w₀ (ex i) (Q (.exit i))
  rt : SK P lv nb n out β₀ s₀ w₀ rt (Q .ret)
  nx : SK P lv nb n out β₀ s₀ w₀ nx (Q .normal)
section eqs
variable (P : Program) (call : Call) (lf : Nat → Nat → Option (List Tmp)) (fu fid n d : Nat) (ex : Nat → K) (rt nx : K)
theorem ev_skip : ev P call lf fu fid n (d + 1) .skip ex rt nx = nx := rfl
theorem ev_label (l : Nat) : ev P call lf fu fid n (d + 1) (.label l) ex rt nx = nx := rfl
theorem ev_region (id : Nat) (ops : Array Oper) (draw : Bool) : ev P call lf fu fid n (d + 1) (.region id ops draw) ex rt nx = (match draw with
    | true => bif drawOk P (Region.before ops) ops (canon ops) then evDraw P call lf n id (Region.before ops) ops nx (dgroups ops 0 (canon ops)) [] else fun _ _ => .err
    | false => evGroups P call lf n id ops (groups 0 ops.toList) nx) := rfl
theorem ev_seq (a b : Code) : ev P call lf fu fid n (d + 1) (.seq a b) ex rt nx = (match plain a with
    | true => ev P call lf fu fid n d a ex rt (ev P call lf fu fid n d b ex rt nx)
    | false => match firstReg b with
      | some id => ev P call lf fu fid n d a ex rt (jn lf id 0 (ev P call lf fu fid n d b ex rt nx))
      | none => ev P call lf fu fid n d a ex rt (ev P call lf fu fid n d b ex rt nx)) := rfl
theorem ev_cond (c : Operand) (a b : Code) : ev P call lf fu fid n (d + 1) (.cond c a b) ex rt nx = fun s env => condK (opv P env c) (ev P call lf fu fid n d a ex rt nx s env) (ev P call lf fu fid n d b ex rt nx s env) := rfl
theorem ev_block (id : Nat) (b : Code) : ev P call lf fu fid n (d + 1) (.block id b) ex rt nx = ev P call lf fu fid n d b (upd ex id nx) rt nx := rfl
theorem ev_scope (b : Code) : ev P call lf fu fid n (d + 1) (.scope b) ex rt nx = ev P call lf fu fid n d b ex rt nx := rfl
theorem ev_exit (id : Nat) : ev P call lf fu fid n (d + 1) (.exit id) ex rt nx = ex id := rfl
theorem ev_ret : ev P call lf fu fid n (d + 1) .ret ex rt nx = rt := rfl
theorem ev_goto (l : Nat) : ev P call lf fu fid n (d + 1) (.goto l) ex rt nx = fun _ _ => .err := rfl
theorem ev_refuse (l : String) : ev P call lf fu fid n (d + 1) (.refuse l) ex rt nx = fun _ _ => .err := rfl
theorem ev_loop (b : Code) : ev P call lf fu fid n (d + 1) (.loop b) ex rt nx = (match firstReg b with
    | some id => (match mapLoop? n b with
      | some (it, tu, c, e, r) => (match lf id 0 with
        | some L => bif noRF r then fun s env => rangeMapLoopK s (restrict L env it) (L.map env) (fun s' => ev P call lf fu fid n d r (fun _ _ _ => .err) (fun _ _ => .err) (fun s env => .ret (.tup (L.map env)) s) s' (((restrict L env).set tu .undef).set c (.bool true)))
            (fun s => jn lf id 1 (ex e) s (((restrict L env).set tu .undef).set c .undef)) else fun _ _ => .err
        | none => fun _ _ => .err)
      | none => jn lf id 0 (loopF (fun ih => ev P call lf fu fid n d b ex rt (jn lf id 0 ih)) fu))
    | none => fun _ _ => .err) := rfl
end eqs
/-- each range over a function within -/
def allRF (p : Array Tmp → Code → Code → Prop) : Code → Prop
  | .seq a b => allRF p a ∧ allRF p b
  | .cond _ a b => allRF p a ∧ allRF p b
  | .block _ b | .loop b | .scope b => allRF p b
  | .rangeFunc _ ps a b => p ps a b ∧ allRF p a ∧ allRF p b
  | _ => True
theorem ev_ok (hc : CallSound F P lv call) (hF : F.depth = none) (hFf : ∀ f, F.fn f) (fu fid : Nat) (RF : Array Tmp → Code → Code → Prop)
    (hdraw : ∀ (id : Nat) (ops : Array Oper) (Q : Exit → Act → World → Prop) (k : K) (out : Out) (β₀ : Bt) (s₀ : St) (w₀ : World), drawOk P (Region.before ops) ops (canon ops) = true → out ≠ .err → SK P lv nb n out β₀ s₀ w₀ k (Q .normal) →
      SK P lv nb n out β₀ s₀ w₀ (evDraw P call lf n id (Region.before ops) ops k (dgroups ops 0 (canon ops)) []) (fun a w => (Code.region id ops true).wpIn F 0 P Q a w))
    (hrf : ∀ (d : Nat) (g : Operand) (ps : Array Tmp) (x y : Code) (Q : Exit → Act → World → Prop) (ex : Nat → K) (rt nx : K) (out : Out) (β₀ : Bt) (s₀ : St) (w₀ : World), out ≠ .err → F.round = none → nb ≤ w₀.heap.size → RF ps x y → SX P lv nb n out β₀ s₀ w₀ ex rt nx Q →
      SK P lv nb n out β₀ s₀ w₀ (ev P call lf fu fid n (d + 1) (.rangeFunc g ps x y) ex rt nx) (fun a w => (Code.rangeFunc g ps x y).wpIn F 0 P Q a w)) :
    ∀ (d : Nat) (c : Code) (Q : Exit → Act → World → Prop) (ex : Nat → K) (rt nx : K) (out : Out) (β₀ : Bt) (s₀ : St) (w₀ : World), out ≠ .err → ((F.round = none ∧ nb ≤ w₀.heap.size ∧ allRF RF c) ∨ noRF c = true) → SX P lv nb n out β₀ s₀ w₀ ex rt nx Q →
      SK P lv nb n out β₀ s₀ w₀ (ev P call lf fu fid n d c ex rt nx) (fun a w => c.wpIn F 0 P Q a w)
  | 0, _, Q, ex, rt, nx, out, β₀, s₀, w₀, ho, hn, hx => SK.err ho
  | d + 1, .skip, Q, ex, rt, nx, out, β₀, s₀, w₀, ho, hn, hx => by
    simp only [ev_skip]
    exact hx.nx.imp fun a w h => wpIn_skip h
  | d + 1, .label l, Q, ex, rt, nx, out, β₀, s₀, w₀, ho, hn, hx => by
    simp only [ev_label]
    exact hx.nx.imp fun a w h => wpIn_label h
  | d + 1, .region id ops draw, Q, ex, rt, nx, out, β₀, s₀, w₀, ho, hn, hx => by
    cases draw with
    | true =>
      simp only [ev_region]
      cases hd : drawOk P (Region.before ops) ops (canon ops) with
      | false => exact SK.err ho
      | true => exact hdraw id ops Q nx out β₀ s₀ w₀ hd ho hx.nx
    | false =>
      simp only [ev_region]
      refine (evGroups_ok hc hF hFf ho hx.nx _ 0 (groups_cuts ops ops.toList 0 (by simp) (Nat.zero_le _))).imp fun a w h => wpIn_region ?_
      rw [List.range_eq_range']
      simpa using h
  | d + 1, .seq x y, Q, ex, rt, nx, out, β₀, s₀, w₀, ho, hn, hx => by
    have n1 : (F.round = none ∧ nb ≤ w₀.heap.size ∧ allRF RF x) ∨ noRF x = true := hn.imp (fun h => ⟨h.1, h.2.1, h.2.2.1⟩) (fun h => by simp only [noRF, Bool.and_eq_true] at h; exact h.1)
    have n2 : (F.round = none ∧ nb ≤ w₀.heap.size ∧ allRF RF y) ∨ noRF y = true := hn.imp (fun h => ⟨h.1, h.2.1, h.2.2.2⟩) (fun h => by simp only [noRF, Bool.and_eq_true] at h; exact h.2)
    have hy := ev_ok hc hF hFf fu fid RF hdraw hrf d y Q ex rt nx out β₀ s₀ w₀ ho n2 hx
    have main : ∀ k : K, SK P lv nb n out β₀ s₀ w₀ k (fun a w => y.wpIn F 0 P Q a w) → SK P lv nb n out β₀ s₀ w₀ (ev P call lf fu fid n d x ex rt k) (fun a w => (Code.seq x y).wpIn F 0 P Q a w) := fun k hk =>
      (ev_ok hc hF hFf fu fid RF hdraw hrf d x (Exit.then (y.wpIn F 0 P Q) Q) ex rt k out β₀ s₀ w₀ ho n1 ⟨hx.ex, hx.rt, hk⟩).imp fun a w h => wpIn_seq h
    simp only [ev_seq]
    cases plain x with
    | true => exact main _ hy
    | false =>
      simp only
      cases firstReg y with
      | none => exact main _ hy
      | some id => exact main _ (hy.jn ho)
  | d + 1, .cond c x y, Q, ex, rt, nx, out, β₀, s₀, w₀, ho, hn, hx => by
    have n1 : (F.round = none ∧ nb ≤ w₀.heap.size ∧ allRF RF x) ∨ noRF x = true := hn.imp (fun h => ⟨h.1, h.2.1, h.2.2.1⟩) (fun h => by simp only [noRF, Bool.and_eq_true] at h; exact h.1)
    have n2 : (F.round = none ∧ nb ≤ w₀.heap.size ∧ allRF RF y) ∨ noRF y = true := hn.imp (fun h => ⟨h.1, h.2.1, h.2.2.2⟩) (fun h => by simp only [noRF, Bool.and_eq_true] at h; exact h.2)
    have h1 := ev_ok hc hF hFf fu fid RF hdraw hrf d x Q ex rt nx out β₀ s₀ w₀ ho n1 hx
    have h2 := ev_ok hc hF hFf fu fid RF hdraw hrf d y Q ex rt nx out β₀ s₀ w₀ ho n2 hx
    intro β s env a w hok ht h
    simp only [ev_cond] at h
    have hv := opv_vr hok.rel hok.env c
    cases hcv : opv P env c <;> rw [hcv] at h hv <;> (try simp only [condK] at h) <;> try exact absurd h.symm ho
    rename_i b
    simp only [VR] at hv
    cases b with
    | true => exact wpIn_cond_true hv (h1 β s env a w hok ht h)
    | false => exact wpIn_cond_false hv (h2 β s env a w hok ht h)
  | d + 1, .block id b, Q, ex, rt, nx, out, β₀, s₀, w₀, ho, hn, hx => by
    simp only [ev_block]
    refine (ev_ok hc hF hFf fu fid RF hdraw hrf d b (Exit.inBlock id Q) _ rt nx out β₀ s₀ w₀ ho (hn.imp (fun h => h) (fun h => by simpa only [noRF] using h)) ⟨fun i => ?_, hx.rt, hx.nx⟩).imp fun a w h => wpIn_block h
    intro β s env a w q1 q2 q3
    simp only [upd] at q3
    simp only [Exit.inBlock]
    cases hi : Nat.beq i id with
    | true => rw [hi] at q3; rw [if_pos (beq_eq hi)]; exact hx.nx β s env a w q1 q2 q3
    | false =>
      rw [hi] at q3
      rw [if_neg (fun e => by subst e; rw [Nat.beq_refl] at hi; cases hi)]
      exact hx.ex i β s env a w q1 q2 q3
  | d + 1, .loop b, Q, ex, rt, nx, out, β₀, s₀, w₀, ho, hn, hx => by
    simp only [ev_loop]
    cases hfr : firstReg b with
    | none => exact SK.err ho
    | some id =>
      simp only
      cases hm : mapLoop? n b with
      | none =>
        simp only
        refine SK.jn ho (loop_ok ho _ fu fun ih N hN => ?_)
        exact ev_ok hc hF hFf fu fid RF hdraw hrf d b (Exit.then N Q) ex rt (jn lf id 0 ih) out β₀ s₀ w₀ ho (hn.imp (fun h => h) (fun h => by simpa only [noRF] using h)) ⟨hx.ex, hx.rt, hN.jn ho⟩
      | some x =>
        obtain ⟨it, tu, c, e, r⟩ := x
        simp only
        cases hL : lf id 0 with
        | none => exact SK.err ho
        | some L =>
          simp only
          cases hnr : noRF r with
          | false => exact SK.err ho
          | true =>
          simp only [cond_true]
          refine mapLoop_ok (body := ev P call lf fu fid n d r (fun _ _ _ => .err) (fun _ _ => .err) (fun s env => .ret (.tup (L.map env)) s)) hFf ho hm (fun s' lr β₁ s₁ w₁ => ?_) ((hx.ex e).jn ho)
          refine ev_ok hc hF hFf fu fid RF hdraw hrf d r _ _ _ _ _ β₁ s₁ w₁ (by simp) (.inr hnr) ⟨fun i => SK.err (by simp), SK.err (by simp), ?_⟩
          intro β s env a w q1 q2 q3
          simp only [Out.ret.injEq, AV.tup.injEq] at q3
          obtain ⟨q3, rfl⟩ := q3
          exact ⟨β, env, q1, q2, q3⟩
  | d + 1, .scope b, Q, ex, rt, nx, out, β₀, s₀, w₀, ho, hn, hx => by
    simp only [ev_scope]
    exact (ev_ok hc hF hFf fu fid RF hdraw hrf d b (Exit.noGoto Q) ex rt nx out β₀ s₀ w₀ ho (hn.imp (fun h => h) (fun h => by simpa only [noRF] using h)) ⟨hx.ex, hx.rt, hx.nx⟩).imp fun a w h => wpIn_scope_straight h
  | d + 1, .exit id, Q, ex, rt, nx, out, β₀, s₀, w₀, ho, hn, hx => by
    simp only [ev_exit]
    exact (hx.ex id).imp fun a w h => wpIn_exit h
  | d + 1, .ret, Q, ex, rt, nx, out, β₀, s₀, w₀, ho, hn, hx => by
    simp only [ev_ret]
    exact hx.rt.imp fun a w h => wpIn_ret h
  | d + 1, .rangeFunc g ps x y, Q, ex, rt, nx, out, β₀, s₀, w₀, ho, hn, hx => by
    rcases hn with ⟨h1, h2, h3⟩ | hn
    · exact hrf d g ps x y Q ex rt nx out β₀ s₀ w₀ ho h1 h2 h3.1 hx
    · cases hn
  | d + 1, .goto l, Q, ex, rt, nx, out, β₀, s₀, w₀, ho, hn, hx => by simp only [ev_goto]; exact SK.err ho
  | d + 1, .refuse l, Q, ex, rt, nx, out, β₀, s₀, w₀, ho, hn, hx => by simp only [ev_refuse]; exact SK.err ho
end
end Go.Ev
