/- Code: scopes, the least fuel. -/
import Derived.Test.YtneeiakpoohneaaGreatDoorEvS15
import Derived.Scope
set_option linter.all false
set_option linter.unusedSimpArgs false
set_option linter.unusedVariables false
namespace Go
section
variable {P : Program} {F : Fence} {nb n : Nat} {b : Frame} {a : Act} {k : List Item} {cs : List Frame} {w : World} {Q : Exit → Act → World → Prop}
theorem stepR_scope {c : Code} : step P (lone (b.atR a (.code (.scope c) :: k)) cs w) = .next (lone (b.atR a (.code c :: .inScope c :: k)) cs w) :=
  step_lone_go (by simp [stepG, stepG.exec, Frame.atR])
theorem stepR_inScope {c : Code} : step P (lone (b.atR a (.inScope c :: k)) cs w) = .next (lone (b.atR a k) cs w) :=
  step_lone_go (by simp [stepG, stepG.exec, Frame.atR])
theorem wpIn_scope_straight {c : Code} (h : c.wpIn F n P (Exit.noGoto Q) a w) : (Code.scope c).wpIn F n P Q a w := by
  intro b k cs hro hb hr
  have h0 : (lone (b.atR a (.code (.scope c) :: k)) cs w).fenced P F := fenced_calm hb hr rfl
  obtain ⟨e, a₁, w₁, hq, harr⟩ := h b (.inScope c :: k) cs hro hb hr
  cases e with
  | normal => exact ⟨.normal, a₁, w₁, hq, .head h0 stepR_scope (StepsIn.trans harr (.one (fenced_calm hb hr rfl) stepR_inScope))⟩
  | exit id =>
    have hx : exitTo id (.inScope c :: k) = exitTo id k := by simp [exitTo]
    exact ⟨.exit id, a₁, w₁, hq, fun k' hk => .head h0 stepR_scope (harr.1 k' (by rw [hx]; exact hk)), fun hr' hk => let ⟨k₁, h1, h2⟩ := harr.2 hr' (by rw [hx]; exact hk); ⟨k₁, h1, .head h0 stepR_scope h2⟩⟩
  | goto l => exact hq.elim
  | ret => exact ⟨_, a₁, w₁, hq, .of_steps (.one h0 stepR_scope) harr⟩
  | panic ch => exact ⟨_, a₁, w₁, hq, .of_steps (.one h0 stepR_scope) harr⟩
  | outgrown => exact ⟨_, a₁, w₁, hq, .of_steps (.one h0 stepR_scope) harr⟩
end
namespace Ev
theorem least {p : Nat → Prop} (h : ∃ m, p m) : ∃ m, p m ∧ ∀ j, j < m → ¬ p j := by
  obtain ⟨m, hm⟩ := h
  induction m using Nat.strongRecOn with
  | _ m ih =>
    by_cases hex : ∃ j, j < m ∧ p j
    · obtain ⟨j, hj, hpj⟩ := hex
      exact ih j hj hpj
    · exact ⟨m, hm, fun j hj hpj => hex ⟨j, hj, hpj⟩⟩
open Classical in
noncomputable def fuelOf (p : Nat → Prop) : Nat := if h : ∃ m, p m then Classical.choose (least h) else 0
theorem fuelOf_spec {p : Nat → Prop} (h : ∃ m, p m) : p (fuelOf p) ∧ ∀ j, j < fuelOf p → ¬ p j := by
  unfold fuelOf
  rw [dif_pos h]
  exact Classical.choose_spec (least h)
theorem fuelOf_le {p : Nat → Prop} {m : Nat} (h : p m) : fuelOf p ≤ m := by
  rcases Nat.lt_or_ge m (fuelOf p) with g | g
  · exact absurd h ((fuelOf_spec ⟨m, h⟩).2 m g)
  · exact g
section
variable {P : Program} {lv : Nat → Nat → Nat → Option (List Tmp)} {lf : Nat → Nat → Option (List Tmp)} {F : Fence} {call : Call} {nb n : Nat} {out : Out} {β₀ : Bt} {s₀ : St} {w₀ : World}
/-- a loop by fuel -/
theorem loop_ok (ho : out ≠ .err) {c : Code} {Q : Exit → Act → World → Prop} (G : K → K) (fu : Nat)
    (round : ∀ (ih : K) (N : Act → World → Prop), SK P lv nb n out β₀ s₀ w₀ ih N → SK P lv nb n out β₀ s₀ w₀ (G ih) (fun a w => c.wpIn F 0 P (Exit.then N Q) a w)) :
    SK P lv nb n out β₀ s₀ w₀ (loopF G fu) (fun a w => (Code.loop c).wpIn F 0 P Q a w) := by
  intro β s env a w hok ht h
  let p : Act → World → Nat → Prop := fun a w m => ∃ β s env, Ok P lv nb n β s env a w ∧ Tr β₀ s₀ w₀ β s w ∧ loopF G m s env = out
  refine wpIn_loop (fun a w => ∃ m, p a w m) (fun a w => fuelOf (p a w)) ⟨fu, β, s, env, hok, ht, h⟩ ?_
  intro a w hI
  obtain ⟨⟨β, s, env, q1, q2, q3⟩, q4⟩ := fuelOf_spec hI
  cases hf : fuelOf (p a w) with
  | zero => rw [hf] at q3; exact absurd q3.symm ho
  | succ m =>
    rw [hf] at q3
    have hN : SK P lv nb n out β₀ s₀ w₀ (loopF G m) (fun a' w' => (∃ m, p a' w' m) ∧ fuelOf (p a' w') < m + 1) := by
      intro β s env a' w' r1 r2 r3
      have : p a' w' m := ⟨β, s, env, r1, r2, r3⟩
      exact ⟨⟨m, this⟩, Nat.lt_succ_of_le (fuelOf_le this)⟩
    exact round _ _ hN β s env a w q1 q2 q3
end
end Ev
end Go
