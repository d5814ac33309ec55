/- Numbers, comparisons, slices of strings and rows. -/
import Derived.Test.YtneeiakpoohneaaGreatDoorEvS5
set_option linter.all false
set_option linter.unusedSimpArgs false
set_option linter.unusedVariables false
namespace Go.Ev
section
variable {P : Program} {lv : Nat → Nat → Nat → Option (List Tmp)} {β : Bt} {s : St} {w : World} {out : Out}

theorem kindEq_eq {i j : IntKind} (h : kindEq i j = true) : i = j := by cases i <;> cases j <;> first | rfl | cases h
def gOk : Value → Bool
  | .nilIface | .agg _ => false
  | _ => true
theorem guard_plain (op : BinOp) (t : TypeId) (x y : Operand) (a b : Value) (h : gOk a = true) : (eqGuard op t x y a b).run P w = .ok () w := by
  cases a <;> first | (cases h; done) | (cases op <;> rfl)

def avV : AV → Value
  | .int k n => .int k n
  | .bool b => .bool b
  | _ => undef
theorem binK_ok {op : BinOp} {t : TypeId} {ox oy : Operand} {x y : AV} {vx vy : Value} {k : AV → Out} (hx : VR β x vx) (hy : VR β y vy) (h : binK op x y k = out) (ho : out ≠ .err) :
    ∃ v' x', (do eqGuard op t ox oy vx vy; binOp op t vx vy : Sem Value).run P w = .ok v' w ∧ VR β x' v' ∧ k x' = out := by
  obtain ⟨j, a, rfl, h1⟩ := intK_ok h ho
  clear h
  obtain ⟨i, b, rfl, h⟩ := intK_ok h1 ho
  clear h1
  simp only [VR] at hx hy
  subst hx; subst hy
  have hg : (eqGuard op t ox oy (.int j a) (.int i b)).run P w = .ok () w := guard_plain _ _ _ _ _ _ rfl
  rw [Sem.run_bind, hg, Result.andThen_ok]
  have main : ∀ r : AV, (binOp op t (.int j a) (.int i b)).run P w = .ok (avV r) w → VR β r (avV r) → k r = out → ∃ v' x', (binOp op t (.int j a) (.int i b)).run P w = .ok v' w ∧ VR β x' v' ∧ k x' = out :=
    fun r h1 h2 h3 => ⟨avV r, r, h1, h2, h3⟩
  cases op
  case shl =>
    simp only at h
    cases b with
    | negSucc b => exact absurd h.symm ho
    | ofNat b =>
      refine main _ ?_ ?_ h
      · have : ¬ (Int.ofNat b < 0) := by simp
        simp only [binOp, Op.shift, if_neg this]; rfl
      · simp [arith, avV, VR]
  case shr =>
    simp only at h
    cases b with
    | negSucc b => exact absurd h.symm ho
    | ofNat b =>
      refine main _ ?_ ?_ h
      · have : ¬ (Int.ofNat b < 0) := by simp
        simp only [binOp, Op.shift, if_neg this]; rfl
      · simp [arith, avV, VR]
  case quo =>
    simp only at h
    have hb : b ≠ 0 := by
      intro e; subst e; exact ho h.symm
    have h' : (bif kindEq i j then k (arith .quo j a b) else .err) = out := by
      cases b with
      | negSucc b => exact h
      | ofNat b => cases b with
        | zero => exact absurd rfl hb
        | succ b => exact h
    obtain ⟨h1, h2⟩ := of_bif h' ho
    have := kindEq_eq h1
    subst this
    refine main _ ?_ ?_ h2
    · simp [binOp, Op.intDiv, hb]; rfl
    · simp [arith, avV, VR]
  case rem =>
    simp only at h
    have hb : b ≠ 0 := by
      intro e; subst e; exact ho h.symm
    have h' : (bif kindEq i j then k (arith .rem j a b) else .err) = out := by
      cases b with
      | negSucc b => exact h
      | ofNat b => cases b with
        | zero => exact absurd rfl hb
        | succ b => exact h
    obtain ⟨h1, h2⟩ := of_bif h' ho
    have := kindEq_eq h1
    subst this
    refine main _ ?_ ?_ h2
    · simp [binOp, Op.intDiv, hb]; rfl
    · simp [arith, avV, VR]
  all_goals
    obtain ⟨h1, h2⟩ := of_bif h ho
    have := kindEq_eq h1
    subst this
    refine main _ ?_ ?_ h2
    · simp only [binOp, Op.intArith, Op.intBits, Op.intCmp, ne_eq, not_true_eq_false, if_false, ite_false]; rfl
    · simp [arith, avV, VR]

theorem notK_ok {x : AV} {v : Value} {k : AV → Out} (hx : VR β x v) (h : notK x k = out) (ho : out ≠ .err) : ∃ v' x', (Op.unary .not v).run P w = .ok v' w ∧ VR β x' v' ∧ k x' = out := by
  obtain ⟨b, rfl, h⟩ := boolK_ok h ho
  simp only [VR] at hx; subst hx
  exact ⟨_, _, rfl, by simp [VR], h⟩
theorem negK_ok {x : AV} {v : Value} {k : AV → Out} (hx : VR β x v) (h : negK x k = out) (ho : out ≠ .err) : ∃ v' x', (Op.unary .neg v).run P w = .ok v' w ∧ VR β x' v' ∧ k x' = out := by
  obtain ⟨j, n, rfl, h⟩ := intK_ok h ho
  simp only [VR] at hx; subst hx
  exact ⟨_, _, rfl, by simp [VR], h⟩
theorem invK_ok {x : AV} {v : Value} {k : AV → Out} (hx : VR β x v) (h : invK x k = out) (ho : out ≠ .err) : ∃ v' x', (Op.unary .xor v).run P w = .ok v' w ∧ VR β x' v' ∧ k x' = out := by
  obtain ⟨j, n, rfl, h⟩ := intK_ok h ho
  simp only [VR] at hx; subst hx
  exact ⟨_, _, rfl, by simp [VR], h⟩
theorem convK_ok {src dst : TypeId} {j i : IntKind} {x : AV} {v : Value} {k : AV → Out} (hs : P.underlying src = some (.int i)) (hd : P.underlying dst = some (.int j)) (hx : VR β x v) (h : convK j x k = out) (ho : out ≠ .err) :
    ∃ v' x', (convert src dst v).run P w = .ok v' w ∧ VR β x' v' ∧ k x' = out := by
  obtain ⟨_, n, rfl, h⟩ := intK_ok h ho
  simp only [VR] at hx; subst hx
  exact ⟨.int j (j.wrap n), _, by simp [convert, run_underlying hs, run_underlying hd, Conv.intToInt], by simp [VR], h⟩
theorem convStr_ok {src dst : TypeId} {x : AV} {v : Value} (hs : P.underlying src = some .string) (hd : P.underlying dst = some .string) (n p : Nat) (hx : VR β x v) (hv : x = .str n p) :
    (convert src dst v).run P w = .ok v w := by
  subst hv
  simp only [VR] at hx
  obtain ⟨s, rfl, _⟩ := hx
  simp [convert, run_underlying hs, run_underlying hd]
theorem minK_ok {x y : AV} {ts : Array TypeId} {ty : TypeId} {vx vy : Value} {k : AV → Out} (hx : VR β x vx) (hy : VR β y vy) (h : minK x y k = out) (ho : out ≠ .err) :
    ∃ v' x', (Builtin.min_ ts ty #[vx, vy]).run P w = .ok v' w ∧ VR β x' v' ∧ k x' = out := by
  obtain ⟨j, a, rfl, h1⟩ := intK_ok h ho
  clear h
  obtain ⟨i, b, rfl, h⟩ := intK_ok h1 ho
  clear h1
  simp only [VR] at hx hy
  subst hx; subst hy
  exact ⟨.int j (if b < a then b else a), _, by simp [Builtin.min_, Builtin.min2], by simp [VR], h⟩
theorem maxK_ok {x y : AV} {ts : Array TypeId} {ty : TypeId} {vx vy : Value} {k : AV → Out} (hx : VR β x vx) (hy : VR β y vy) (h : maxK x y k = out) (ho : out ≠ .err) :
    ∃ v' x', (Builtin.max_ ts ty #[vx, vy]).run P w = .ok v' w ∧ VR β x' v' ∧ k x' = out := by
  obtain ⟨j, a, rfl, h1⟩ := intK_ok h ho
  clear h
  obtain ⟨i, b, rfl, h⟩ := intK_ok h1 ho
  clear h1
  simp only [VR] at hx hy
  subst hx; subst hy
  exact ⟨.int j (if b > a then b else a), _, by simp [Builtin.max_, Builtin.max2], by simp [VR], h⟩

/- strings -/
theorem addStrK_ok {t : TypeId} {ox oy : Operand} {x y : AV} {vx vy : Value} {k : AV → Out} (hx : VR β x vx) (hy : VR β y vy) (h : addStrK x y k = out) (ho : out ≠ .err) :
    ∃ v' x', (do eqGuard .add t ox oy vx vy; binOp .add t vx vy : Sem Value).run P w = .ok v' w ∧ VR β x' v' ∧ k x' = out := by
  cases x <;> simp only [addStrK] at h <;> try exact absurd h.symm ho
  rename_i n p
  cases y <;> simp only at h <;> try exact absurd h.symm ho
  rename_i m q
  obtain ⟨h1, h⟩ := of_bif h ho
  have h1 := ble_le h1
  simp only [VR] at hx hy
  obtain ⟨s, rfl, hs1, hs2⟩ := hx
  obtain ⟨u, rfl, hu1, hu2⟩ := hy
  refine ⟨.string (s ++ u), _, ?_, ?_, h⟩
  · rw [Sem.run_bind, guard_plain _ _ _ _ _ _ rfl, Result.andThen_ok]
    have hm : ¬ (((s.size + u.size : Nat) : Int) > IntKind.i64.max) := by
      have : IntKind.i64.max = 9223372036854775807 := by decide
      rw [this]; omega
    simp [binOp, Op.stringOp]
    omega
  · simp only [VR]
    refine ⟨_, rfl, by rw [ByteArray.size_append, hs1, hu1], ?_⟩
    rw [ByteArray.data_append, Array.toList_append, packB_app, hs2, hu2, shl_pow, ← size_data, hs1]
theorem str_eq {s u : ByteArray} : (s.toList == u.toList) = (Nat.beq s.size u.size && Nat.beq (packB s.data.toList) (packB u.data.toList)) := by
  rw [ByteArray.toList_eq, ByteArray.toList_eq]
  by_cases he : s.data.toList = u.data.toList
  · rw [he, size_data, size_data, he]; simp
  · have h1 : (s.data.toList == u.data.toList) = false := by simpa using he
    rw [h1]
    symm
    rw [Bool.and_eq_false_iff]
    by_cases hn : s.size = u.size
    · right
      cases hb : Nat.beq (packB s.data.toList) (packB u.data.toList) with
      | false => rfl
      | true => exact absurd (packB_inj (by rw [← size_data, ← size_data]; exact hn) (beq_eq hb)) he
    · left
      cases hb : Nat.beq s.size u.size with
      | false => rfl
      | true => exact absurd (beq_eq hb) hn
theorem eqStr_ok {op : BinOp} {neg : Bool} (hop : op = if neg then .neq else .eql) {t : TypeId} {ox oy : Operand} {x y : AV} {vx vy : Value} {k : AV → Out} (hx : VR β x vx) (hy : VR β y vy) (h : eqK .str s neg x y k = out) (ho : out ≠ .err) :
    ∃ v' x', (do eqGuard op t ox oy vx vy; binOp op t vx vy : Sem Value).run P w = .ok v' w ∧ VR β x' v' ∧ k x' = out := by
  simp only [eqK] at h
  cases he : eqOf .str x y with
  | none => rw [he] at h; exact absurd h.symm ho
  | some b =>
    rw [he] at h
    obtain ⟨_, h⟩ := of_bif h ho
    simp only [eqOf] at he
    cases x <;> simp only at he <;> try (cases he)
    rename_i n p
    cases y <;> simp only at he <;> try (cases he)
    rename_i m q
    simp only [VR] at hx hy
    obtain ⟨s, rfl, rfl, rfl⟩ := hx
    obtain ⟨u, rfl, rfl, rfl⟩ := hy
    refine ⟨.bool (Bool.xor neg (s.toList == u.toList)), _, ?_, ?_, h⟩
    · rw [Sem.run_bind, guard_plain _ _ _ _ _ _ rfl, Result.andThen_ok]
      subst hop
      cases neg <;> simp [binOp, Op.stringOp]
    · simp only [VR]; rw [str_eq]
theorem pack_extract (s : ByteArray) (l h : Nat) (hl : l ≤ h) (hh : h ≤ s.size) : (s.extract l h).size = h - l ∧ packB (s.extract l h).data.toList = (packB s.data.toList >>> (8 * l)) % 2 ^ (8 * (h - l)) := by
  refine ⟨by simp; omega, ?_⟩
  rw [ByteArray.data_extract, Array.toList_extract, List.extract_eq_take_drop, packB_take, packB_drop, shr_pow, pow256]

/- bounds -/
theorem run_sliceBound {j : IntKind} {n y : Nat} {code : BoundsCode} (h : n ≤ y) : (Instr.sliceBound (.int j (n : Int)) y code).run P w = .ok n w := by
  have : (0 : Int) ≤ (n : Int) ∧ (n : Int) ≤ (y : Int) := ⟨Int.natCast_nonneg _, by simpa using h⟩
  simp only [Instr.sliceBound, asIntOf, Sem.run_bind, Sem.run_pure, Result.andThen_ok, if_pos this]
  rfl
def optVR (β : Bt) : Option AV → Option Value → Prop
  | none, none => True
  | some x, some v => VR β x v
  | _, _ => False
theorem bndK_ok {v : Option AV} {u : Option Value} {df lim : Nat} {k : Nat → Out} (hv : optVR β v u) (h : bndK v df lim k = out) (ho : out ≠ .err) :
    (v = none ∧ u = none ∧ k df = out) ∨ ∃ j n, v = some (.int j (Int.ofNat n)) ∧ u = some (.int j (Int.ofNat n)) ∧ n ≤ lim ∧ k n = out := by
  cases v with
  | none => cases u with
    | none => exact .inl ⟨rfl, rfl, h⟩
    | some u => exact hv.elim
  | some x => cases u with
    | none => exact hv.elim
    | some u =>
      simp only [bndK] at h
      obtain ⟨j, n, rfl, h⟩ := natK_ok h ho
      obtain ⟨h1, h⟩ := of_bif h ho
      simp only [optVR, VR] at hv
      exact .inr ⟨j, n, rfl, by rw [hv], ble_le h1, h⟩
theorem bndsK_ok {lo hi mx : Option AV} {vlo vhi vmx : Option Value} {len cap : Nat} {k : Nat → Nat → Nat → Out} (hlo : optVR β lo vlo) (hhi : optVR β hi vhi) (hmx : optVR β mx vmx) (isSl : Bool) (hlc : len ≤ cap) {capA : Nat} (hcap : cap ≤ capA)
    (h : bndsK lo hi mx len cap k = out) (ho : out ≠ .err) (hmh : mx.isSome = true → hi.isSome = true) :
    ∃ l h' m m', (Instr.sliceBounds isSl len capA vlo vhi vmx).run P w = .ok (l, h', m') w ∧ l ≤ h' ∧ h' ≤ m ∧ m ≤ cap ∧ m ≤ m' ∧ m' ≤ capA ∧ (mx ≠ none ∨ cap = capA → m' = m) ∧ (vmx = none ↔ mx = none) ∧ k l h' m = out := by
  simp only [bndsK] at h
  rcases bndK_ok hmx h ho with ⟨rfl, rfl, h⟩ | ⟨jm, m, rfl, rfl, hm, h⟩
  · rcases bndK_ok hhi h ho with ⟨rfl, rfl, h⟩ | ⟨jh, n, rfl, rfl, hn, h⟩
    · rcases bndK_ok hlo h ho with ⟨rfl, rfl, h⟩ | ⟨jl, l, rfl, rfl, hl, h⟩
      · exact ⟨0, len, cap, capA, by simp [Instr.sliceBounds], by omega, hlc, by omega, hcap, by omega, fun e => by rcases e with e | e; exact absurd rfl e; exact e.symm, by simp, h⟩
      · exact ⟨l, len, cap, capA, by simp [Instr.sliceBounds, run_sliceBound hl], hl, hlc, by omega, hcap, by omega, fun e => by rcases e with e | e; exact absurd rfl e; exact e.symm, by simp, h⟩
    · have hn' : n ≤ capA := by omega
      rcases bndK_ok hlo h ho with ⟨rfl, rfl, h⟩ | ⟨jl, l, rfl, rfl, hl, h⟩
      · exact ⟨0, n, cap, capA, by simp [Instr.sliceBounds, run_sliceBound hn'], by omega, hn, by omega, hcap, by omega, fun e => by rcases e with e | e; exact absurd rfl e; exact e.symm, by simp, h⟩
      · exact ⟨l, n, cap, capA, by simp [Instr.sliceBounds, run_sliceBound hn', run_sliceBound hl], hl, hn, by omega, hcap, by omega, fun e => by rcases e with e | e; exact absurd rfl e; exact e.symm, by simp, h⟩
  · have hm' : m ≤ capA := by omega
    rcases bndK_ok hhi h ho with ⟨rfl, rfl, h⟩ | ⟨jh, n, rfl, rfl, hn, h⟩
    · simp at hmh
    · rcases bndK_ok hlo h ho with ⟨rfl, rfl, h⟩ | ⟨jl, l, rfl, rfl, hl, h⟩
      · exact ⟨0, n, m, m, by simp [Instr.sliceBounds, run_sliceBound hm', run_sliceBound hn], by omega, hn, hm, by omega, hm', fun _ => rfl, by simp, h⟩
      · exact ⟨l, n, m, m, by simp [Instr.sliceBounds, run_sliceBound hm', run_sliceBound hn, run_sliceBound hl], hl, hn, hm, by omega, hm', fun _ => rfl, by simp, h⟩

theorem sliceSl_ok {t e : TypeId} {lo hi mx : Option AV} {vlo vhi vmx : Option Value} {x : AV} {v : Value} {k : AV → Out} (ht : P.underlying t = some (.slice e)) (hs : 0 < sizeT P e)
    (hlo : optVR β lo vlo) (hhi : optVR β hi vhi) (hmx : optVR β mx vmx) (hmh : mx.isSome = true → hi.isSome = true) (hx : VR β x v) (h : sliceSlK (sizeT P e) lo hi mx x k = out) (ho : out ≠ .err) :
    ∃ v' x', (Instr.sliceAt t v vlo vhi vmx).run P w = .ok v' w ∧ VR β x' v' ∧ k x' = out := by
  cases x <;> simp only [sliceSlK] at h <;> try exact absurd h.symm ho
  case slice id o len cap sz' op =>
    obtain ⟨h1, hA⟩ := of_bif h ho
    clear h
    have h1 := beq_eq h1
    subst h1
    simp only [VR] at hx
    obtain ⟨b, a, c, hb, rfl, h3, h4, h5, h6, h7⟩ := hx
    obtain ⟨l, h', m, m', r1, r2, r3, r4, r5, r6, r7, r8, h⟩ := bndsK_ok (P := P) (w := w) hlo hhi hmx true h6 h5 hA ho hmh
    obtain ⟨_, h⟩ := of_bif h ho
    refine ⟨.slice (some (if m' = l then a else a.add (l * sizeT P e))) (h' - l) (m' - l), _, ?_, ?_, h⟩
    · simp only [Instr.sliceAt, Instr.slice, Sem.run_bind, run_underlying ht, Result.andThen_ok, r1, run_sizeOf_pos hs, Sem.run_pure]
      split <;> simp
    · simp only [VR]
      refine ⟨b, _, _, hb, rfl, fun hne => ?_, fun hop => ?_, by omega, by omega, fun hop hne => ?_⟩
      · have hc : c ≠ 0 := by omega
        rw [if_neg (by omega), h3 hc, Addr.add_plain, Nat.add_assoc]
      · have : m' = m := by
          apply r7
          cases op
          · exact .inr (h4 rfl).symm
          · cases mx
            · simp at hop
            · exact .inl (by simp)
        omega
      · simp only [Bool.and_eq_true] at hop
        have := h7 hop.1 (by omega)
        have h8 : l * sizeT P e + (m' - l) * sizeT P e ≤ c * sizeT P e := by
          rw [← Nat.add_mul]; exact Nat.mul_le_mul_right _ (by omega)
        omega
  case nils =>
    simp only [VR] at hx
    subst hx
    obtain ⟨l, h', m, m', r1, r2, r3, r4, r5, r6, r7, r8, h⟩ := bndsK_ok (P := P) (w := w) (capA := 0) hlo hhi hmx true (Nat.le_refl 0) (Nat.le_refl 0) h ho hmh
    refine ⟨.slice none 0 0, _, ?_, ?_, h⟩
    · have hl : l = 0 := by omega
      have hh : h' = 0 := by omega
      have hm : m' = 0 := by omega
      subst hl; subst hh; subst hm
      simp only [Instr.sliceAt, Instr.slice, Sem.run_bind, run_underlying ht, Result.andThen_ok, r1, run_sizeOf_pos hs, Sem.run_pure]
      simp
    · simp [VR]
theorem sliceStr_ok {t : TypeId} {lo hi : Option AV} {vlo vhi : Option Value} {x : AV} {v : Value} {k : AV → Out} (ht : P.underlying t = some .string)
    (hlo : optVR β lo vlo) (hhi : optVR β hi vhi) (hx : VR β x v) (h : sliceStrK lo hi x k = out) (ho : out ≠ .err) :
    ∃ v' x', (Instr.sliceAt t v vlo vhi none).run P w = .ok v' w ∧ VR β x' v' ∧ k x' = out := by
  cases x <;> simp only [sliceStrK] at h <;> try exact absurd h.symm ho
  rename_i n p
  simp only [VR] at hx
  obtain ⟨s, rfl, rfl, rfl⟩ := hx
  obtain ⟨l, h', m, m', r1, r2, r3, r4, r5, r6, r7, r8, h⟩ := bndsK_ok (β := β) (P := P) (w := w) (capA := s.size) (mx := none) (vmx := none) hlo hhi trivial false (Nat.le_refl _) (Nat.le_refl _) h ho (by simp)
  refine ⟨.string (s.extract l h'), _, ?_, ?_, h⟩
  · simp only [Instr.sliceAt, Instr.slice, Sem.run_bind, run_underlying ht, Result.andThen_ok, r1, Sem.run_pure]
    simp [r1]
  · simp only [VR]
    obtain ⟨g1, g2⟩ := pack_extract s l h' r2 (by omega)
    exact ⟨_, rfl, g1, g2⟩
theorem sliceArr_ok {t e : TypeId} {n : Nat} {lo hi mx : Option AV} {vlo vhi vmx : Option Value} {x : AV} {v : Value} {k : AV → Out} (ht : P.underlying t = some (.array n e)) (hs : 0 < sizeT P e)
    (hlo : optVR β lo vlo) (hhi : optVR β hi vhi) (hmx : optVR β mx vmx) (hmh : mx.isSome = true → hi.isSome = true) (hx : VR β x v) (h : sliceArrK n (sizeT P e) lo hi mx x k = out) (ho : out ≠ .err) :
    ∃ v' x', (Instr.sliceAt t v vlo vhi vmx).run P w = .ok v' w ∧ VR β x' v' ∧ k x' = out := by
  obtain ⟨id, o, rfl, hA⟩ := ptrK_ok h ho
  clear h
  simp only [VR] at hx
  obtain ⟨b, hb, rfl⟩ := hx
  obtain ⟨l, h', m, m', r1, r2, r3, r4, r5, r6, r7, r8, h⟩ := bndsK_ok (P := P) (w := w) (capA := n) hlo hhi hmx false (Nat.le_refl _) (Nat.le_refl _) hA ho hmh
  obtain ⟨_, h⟩ := of_bif h ho
  have hmm : m' = m := r7 (.inr rfl)
  subst hmm
  refine ⟨.slice (some (if m' = l then ⟨b.blk, b.base + o, none⟩ else (⟨b.blk, b.base + o, none⟩ : Addr).add (l * sizeT P e))) (h' - l) (m' - l), _, ?_, ?_, h⟩
  · simp only [Instr.sliceAt, Instr.sureAddr, Sem.run_bind, run_underlying ht, Result.andThen_ok, r1, run_sizeOf_pos hs, Sem.run_pure]
  · simp only [VR]
    refine ⟨b, _, _, hb, rfl, fun hne => ?_, fun hop => rfl, by omega, by omega, fun hop => by simp at hop⟩
    rw [if_neg (by omega), Addr.add_plain, Nat.add_assoc]
theorem s2ap_ok {t e : TypeId} {n : Nat} {x : AV} {v : Value} {k : AV → Out} (ht : P.underlying t = some (.array n e)) (hx : VR β x v) (h : s2apK n (sizeT P e) x k = out) (ho : out ≠ .err) :
    ∃ v' x', (Instr.arrayAt t v).run P w = .ok v' w ∧ VR β x' v' ∧ k x' = out := by
  cases x <;> simp only [s2apK] at h <;> try exact absurd h.symm ho
  obtain ⟨h1, h⟩ := of_bif h ho
  simp only [Bool.and_eq_true] at h1
  obtain ⟨⟨g1, g2⟩, g3⟩ := h1
  have g1 := ble_le g1
  have g3 := blt_lt g3
  simp only [VR] at hx
  obtain ⟨b, a, c, hb, rfl, h3, h4, h5, h6, h7⟩ := hx
  have ha := h3 (by omega)
  subst ha
  refine ⟨.pointer (some ⟨b.blk, _, none⟩), _, ?_, by simp only [VR]; exact ⟨b, hb, rfl⟩, h⟩
  simp only [Instr.arrayAt, Sem.run_bind, run_underlying ht, Result.andThen_ok]
  rw [if_neg (by omega)]
  rfl
end
end Go.Ev
