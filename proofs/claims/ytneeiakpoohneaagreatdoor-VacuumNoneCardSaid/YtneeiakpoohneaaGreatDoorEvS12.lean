/- Comparisons. -/
import Derived.Test.YtneeiakpoohneaaGreatDoorEvS11
import Derived.ChangeKeysEq
set_option linter.all false
set_option linter.unusedSimpArgs false
set_option linter.unusedVariables false
namespace Go.Ev
section
variable {P : Program} {lv : Nat → Nat → Nat → Option (List Tmp)} {β : Bt} {s : St} {w : World} {out : Out}

def eqV : Value → Bool
  | .pointer _ | .slice .. | .map _ | .func .. | .nilFunc | .bool _ | .agg _ => true
  | _ => false
def bopOf (neg : Bool) : BinOp := if neg then .neq else .eql
theorem run_eq {t : TypeId} {ox oy : Operand} {vx vy : Value} {neg r : Bool} (hv : eqV vx = true) (hg : (eqGuard (bopOf neg) t ox oy vx vy).run P w = .ok () w) (h : (Op.equal t vx vy).run P w = .ok r w) :
    (do eqGuard (bopOf neg) t ox oy vx vy; binOp (bopOf neg) t vx vy : Sem Value).run P w = .ok (.bool (Bool.xor neg r)) w := by
  rw [Sem.run_bind, hg, Result.andThen_ok]
  cases neg
  · have : binOp (bopOf false) t vx vy = (do pure (.bool (← Op.equal t vx vy)) : Sem Value) := by
      cases vx <;> first | rfl | cases hv
    rw [this, Sem.run_bind, h]
    simp
  · have : binOp (bopOf true) t vx vy = (do pure (.bool (!(← Op.equal t vx vy))) : Sem Value) := by
      cases vx <;> first | rfl | cases hv
    rw [this, Sem.run_bind, h]
    simp

/-- a row is not shared with a string -/
theorem Rel.thawed {i : Nat} {b : Bp} (hr : Rel P lv β s w) (hb : β i = some b) (hrow : isRow (s.blk i) = true) : ∃ cs t fr, w.heap[b.blk]? = some (.cells cs t fr) ∧ ∀ o, w.frozen? ⟨b.blk, o, none⟩ = false := by
  have hB := hr.blk i b hb
  cases hk : s.blk i <;> rw [hk] at hrow <;> try (cases hrow)
  rename_i t c
  rw [hk] at hB
  obtain ⟨cs, t', fr, h1, h2, h3, h4, h5, h6⟩ := hB
  refine ⟨cs, t', fr, h1, fun o => ?_⟩
  rcases h6 with h6 | ⟨_, h6⟩
  · simp only [World.frozen?, h1]
    by_cases hx : fr.1 ≤ o
    · have : ¬ o < fr.2 := by omega
      simp [this]
    · simp [hx]
  · have : isRow (.row t c) = true := hrow
    rw [this] at h6; cases h6
theorem isRow_live {b : Blk} (h : isRow b = true) : b ≠ .none := by intro e; subst e; cases h
theorem sameAddr_ok {i j o q : Nat} {a b : Bp} (hr : Rel P lv β s w) (ha : β i = some a) (hb : β j = some b) (hap : (Nat.beq i j || (isRow (s.blk i) && isRow (s.blk j))) = true) :
    (sameAddr ⟨a.blk, a.base + o, none⟩ ⟨b.blk, b.base + q, none⟩).run P w = .ok (Nat.beq i j && Nat.beq o q) w := by
  cases hij : Nat.beq i j with
  | true =>
    have := beq_eq hij
    subst this
    rw [ha] at hb
    cases hb
    unfold sameAddr
    simp only [beq_self_eq_true, if_true, Sem.run_pure, Bool.true_and]
    congr 1
    cases hoq : Nat.beq o q with
    | true => have := beq_eq hoq; subst this; simp
    | false =>
      have hne : o ≠ q := fun e => by subst e; rw [Nat.beq_refl] at hoq; cases hoq
      simp; omega
  | false =>
    rw [hij] at hap
    simp only [Bool.false_or, Bool.and_eq_true] at hap
    obtain ⟨r1, r2⟩ := hap
    have hij' : i ≠ j := fun e => by subst e; rw [Nat.beq_refl] at hij; cases hij
    have hne : a.blk ≠ b.blk := fun e => hij' (hr.inj i j a b ha hb (isRow_live r1) (isRow_live r2) e)
    obtain ⟨cs, t, fr, g1, g2⟩ := hr.thawed ha r1
    obtain ⟨ds, u, fs, k1, k2⟩ := hr.thawed hb r2
    have hbb : (a.blk == b.blk) = false := by simpa using hne
    have sa : w.shape? a.blk = some (t, cs.size) := by simp [World.shape?, g1]
    have sb : w.shape? b.blk = some (u, ds.size) := by simp [World.shape?, k1]
    have f1 := g2 (a.base + o)
    have f2 := k2 (b.base + q)
    have f3 := g2 cs.size
    have f4 := k2 ds.size
    unfold sameAddr
    simp [hbb, f1, f2, f3, f4, noView, viewAt, sa, sb, mayBeOne, stringish]

theorem eqD_ok {t : TypeId} {d : EqD} (h : eqD P t = some d) : match d with
    | .ptr => ∃ e, P.underlying t = some (.pointer e) ∧ 0 < sizeT P e
    | .slice => ∃ e, P.underlying t = some (.slice e)
    | .map => ∃ k e, P.underlying t = some (.map k e)
    | .func => ∃ a b c, P.underlying t = some (.func a b c)
    | .bool => P.underlying t = some .bool
    | .str => False := by
  unfold eqD at h
  cases hu : P.underlying t with
  | none => simp [und, hu] at h
  | some td =>
    simp only [und, hu] at h
    cases td <;> simp only at h <;> try (cases h)
    case pointer e =>
      split at h
      · rename_i hs
        cases hp : Nat.blt 0 (sizeT P e) with
        | false => rw [hp] at h; cases h
        | true => rw [hp] at h; cases h; exact ⟨e, rfl, blt_lt hp⟩
      · cases h
    all_goals first | exact ⟨_, rfl⟩ | exact ⟨_, _, rfl⟩ | exact ⟨_, _, _, rfl⟩ | rfl
theorem eqK_ok {t : TypeId} {d : EqD} {neg : Bool} {ox oy : Operand} {x y : AV} {vx vy : Value} {k : AV → Out} (hr : Rel P lv β s w) (hd : eqD P t = some d) (hx : VR β x vx) (hy : VR β y vy) (h : eqK d s neg x y k = out) (ho : out ≠ .err) :
    ∃ v' x', (do eqGuard (bopOf neg) t ox oy vx vy; binOp (bopOf neg) t vx vy : Sem Value).run P w = .ok v' w ∧ VR β x' v' ∧ k x' = out := by
  have hd' := eqD_ok hd
  simp only [eqK] at h
  cases he : eqOf d x y with
  | none => rw [he] at h; exact absurd h.symm ho
  | some r =>
    rw [he] at h
    obtain ⟨hap, h⟩ := of_bif h ho
    have fin : eqV vx = true → gOk vx = true → (∀ d, (Op.equalIn (d + 1) t vx vy).run P w = .ok r w) → ∃ v' x', (do eqGuard (bopOf neg) t ox oy vx vy; binOp (bopOf neg) t vx vy : Sem Value).run P w = .ok v' w ∧ VR β x' v' ∧ k x' = out :=
      fun e1 e2 e3 => ⟨_, _, run_eq e1 (guard_plain _ _ _ _ _ _ e2) (e3 9999), by simp [VR], h⟩
    cases d <;> simp only at hd'
    case ptr =>
      obtain ⟨e, hu, hs⟩ := hd'
      simp only [eqOf] at he
      cases x with
      | nilv =>
        simp only [VR] at hx; subst hx
        cases y with
        | nilv =>
          simp only [VR] at hy; subst hy
          simp only [Option.some.injEq] at he; subst he
          exact fin rfl rfl (fun d => by simp [Op.equalIn, run_underlying hu])
        | ptr j q =>
          simp only [VR] at hy; obtain ⟨b, hb, rfl⟩ := hy
          simp only [Option.some.injEq] at he; subst he
          exact fin rfl rfl (fun d => by simp [Op.equalIn, run_underlying hu])
        | _ => simp at he
      | ptr i o =>
        simp only [VR] at hx
        obtain ⟨a, ha, rfl⟩ := hx
        cases y with
        | nilv =>
          simp only [VR] at hy; subst hy
          simp only [Option.some.injEq] at he; subst he
          exact fin rfl rfl (fun d => by simp [Op.equalIn, run_underlying hu])
        | ptr j q =>
          simp only [VR] at hy; obtain ⟨b, hb, rfl⟩ := hy
          simp only [Option.some.injEq] at he; subst he
          have hne : sizeT P e ≠ 0 := by omega
          refine fin rfl rfl (fun d => ?_)
          have := sameAddr_ok (o := o) (q := q) hr ha hb hap
          simp only [Op.equalIn, Sem.run_bind, run_underlying hu, Result.andThen_ok, run_sizeOf_pos hs, ne_eq, hne, not_false_eq_true, if_true, this]
        | _ => simp at he
      | _ => simp at he
    case slice =>
      obtain ⟨e, hu⟩ := hd'
      simp only [eqOf] at he
      cases x with
      | nils =>
        simp only [VR] at hx; subst hx
        cases y with
        | nils =>
          simp only [VR] at hy; subst hy
          simp only [Option.some.injEq] at he; subst he
          exact fin rfl rfl (fun d => by simp [Op.equalIn, run_underlying hu])
        | slice i1 o1 l1 c2 z1 p1 =>
          simp only [VR] at hy; obtain ⟨b1, a1, c1, hb1, rfl, _⟩ := hy
          simp only [Option.some.injEq] at he; subst he
          exact fin rfl rfl (fun d => by simp [Op.equalIn, run_underlying hu])
        | _ => simp at he
      | slice i1 o1 l1 c2 z1 p1 =>
        simp only [VR] at hx; obtain ⟨b1, a1, c1, hb1, rfl, _⟩ := hx
        cases y with
        | nils =>
          simp only [VR] at hy; subst hy
          simp only [Option.some.injEq] at he; subst he
          exact fin rfl rfl (fun d => by simp [Op.equalIn, run_underlying hu])
        | _ => simp at he
      | _ => simp at he
    case map =>
      obtain ⟨kt, e, hu⟩ := hd'
      simp only [eqOf] at he
      cases x with
      | nilm =>
        simp only [VR] at hx; subst hx
        cases y with
        | nilm =>
          simp only [VR] at hy; subst hy
          simp only [Option.some.injEq] at he; subst he
          exact fin rfl rfl (fun d => by simp [Op.equalIn, run_underlying hu])
        | map i1 =>
          simp only [VR] at hy; obtain ⟨b1, hb1, rfl⟩ := hy
          simp only [Option.some.injEq] at he; subst he
          exact fin rfl rfl (fun d => by simp [Op.equalIn, run_underlying hu])
        | _ => simp at he
      | map i1 =>
        simp only [VR] at hx; obtain ⟨b1, hb1, rfl⟩ := hx
        cases y with
        | nilm =>
          simp only [VR] at hy; subst hy
          simp only [Option.some.injEq] at he; subst he
          exact fin rfl rfl (fun d => by simp [Op.equalIn, run_underlying hu])
        | _ => simp at he
      | _ => simp at he
    case func =>
      obtain ⟨_, _, _, hu⟩ := hd'
      simp only [eqOf] at he
      cases x with
      | nilf =>
        simp only [VR] at hx; subst hx
        cases y with
        | nilf =>
          simp only [VR] at hy; subst hy
          simp only [Option.some.injEq] at he; subst he
          exact fin rfl rfl (fun d => by simp [Op.equalIn, run_underlying hu])
        | func f1 x1 c1 =>
          simp only [VR] at hy; obtain ⟨_, _, rfl, _⟩ := hy
          simp only [Option.some.injEq] at he; subst he
          exact fin rfl rfl (fun d => by simp [Op.equalIn, run_underlying hu])
        | _ => simp at he
      | func f1 x1 c1 =>
        simp only [VR] at hx; obtain ⟨_, _, rfl, _⟩ := hx
        cases y with
        | nilf =>
          simp only [VR] at hy; subst hy
          simp only [Option.some.injEq] at he; subst he
          exact fin rfl rfl (fun d => by simp [Op.equalIn, run_underlying hu])
        | _ => simp at he
      | _ => simp at he
    case bool =>
      simp only [eqOf] at he
      cases x with
      | bool a =>
        cases y with
        | bool b =>
          simp only [Option.some.injEq] at he; subst he
          simp only [VR] at hx hy
          subst hx; subst hy
          exact fin rfl rfl (fun d => by simp [Op.equalIn, run_underlying hd'])
        | _ => simp at he
      | _ => simp at he

/- composite values -/
def VL (P : Program) (t : TypeId) (xs : List Value) : Value := if isAggT P t then .agg xs.toArray else xs.headD undef
theorem partV_VL {t : TypeId} (ht : tyOk P t = true) {cs : Array Value} {off : Nat} (h : off + sizeT P t ≤ cs.size) : partV P t cs off = VL P t ((cs.toList.drop off).take (sizeT P t)) := by
  unfold partV VL
  cases ha : isAggT P t with
  | true =>
    simp only [if_true]
    congr 1
    apply Array.ext'
    simp [List.extract_eq_take_drop]
  | false =>
    have h1 := tyOk_one ht ha
    have : off < cs.size := by omega
    simp [h1, this, List.headD_eq_head?_getD, List.head?_take]
theorem beqT_app : ∀ (l m : List LfT) (a b a' b' : List AV), a.length = l.length → b.length = l.length → beqT (l ++ m) (a ++ a') (b ++ b') = match beqT l a b with | some true => beqT m a' b' | r => r
  | [], m, [], [], a', b', _, _ => rfl
  | t :: l, m, x :: a, y :: b, a', b', h1, h2 => by
    simp only [List.cons_append, beqT]
    cases beqC t x y with
    | none => rfl
    | some r =>
      cases r with
      | false => rfl
      | true => exact beqT_app l m a b a' b' (by simpa using h1) (by simpa using h2)
theorem LR.split {l : List AV} {vs : List Value} (n : Nat) (h : LR β l vs) : LR β (l.take n) (vs.take n) ∧ LR β (l.drop n) (vs.drop n) := ⟨h.take n, h.drop n⟩
theorem leavesF_ok (rec : TypeId → Option (List LfT)) (D : Nat)
    (hrec : ∀ t ls, rec t = some ls → ∀ (a b : List AV) (xs ys : List Value) (r : Bool), LR β a xs → LR β b ys → a.length = ls.length → b.length = ls.length → beqT ls a b = some r → (Op.equalIn D t (VL P t xs) (VL P t ys)).run P w = .ok r w) :
    ∀ (fs : List Field) (acc ls : List LfT), leavesF P rec fs acc = some ls → ∃ l2, ls = acc ++ l2 ∧ ∀ (X Y : Array Value) (a b : List AV) (r : Bool), X.size = ls.length → Y.size = ls.length →
      LR β a (X.toList.drop acc.length) → LR β b (Y.toList.drop acc.length) → beqT l2 a b = some r → (Op.eqFields D X Y fs).run P w = .ok r w
  | [], acc, ls, h => by
    simp only [leavesF, Option.some.injEq] at h
    subst h
    refine ⟨[], by simp, fun X Y a b r hX hY ha hb hr => ?_⟩
    have h1 := ha.length
    have h2 := hb.length
    simp only [List.length_drop, Array.length_toList] at h1 h2
    have ea : a = [] := List.eq_nil_of_length_eq_zero (by omega)
    have eb : b = [] := List.eq_nil_of_length_eq_zero (by omega)
    subst ea; subst eb
    simp only [beqT, Option.some.injEq] at hr
    subst hr
    simp [Op.eqFields]
  | f :: fs, acc, ls, h => by
    simp only [leavesF] at h
    cases hl : rec f.type with
    | none => rw [hl] at h; cases h
    | some l =>
      rw [hl] at h
      simp only at h
      cases hc : (f.name != "_" && Nat.beq f.offset acc.length && Nat.beq l.length (sizeT P f.type) && tyOk P f.type) with
      | false => rw [hc] at h; cases h
      | true =>
        rw [hc] at h
        simp only [cond_true] at h
        simp only [Bool.and_eq_true] at hc
        obtain ⟨⟨⟨c1, c2⟩, c3⟩, c4⟩ := hc
        have c2 := beq_eq c2
        have c3 := beq_eq c3
        obtain ⟨l2, e, ih⟩ := leavesF_ok rec D hrec fs (acc ++ l) ls h
        refine ⟨l ++ l2, by rw [e, List.append_assoc], fun X Y a b r hX hY ha hb hr => ?_⟩
        have hlen : ls.length = acc.length + l.length + l2.length := by rw [e]; simp [Nat.add_assoc]
        have h1 := ha.length
        have h2 := hb.length
        simp only [List.length_drop, Array.length_toList] at h1 h2
        have pX := run_part_at (P := P) (w := w) (cs := X) (off := f.offset) c4 (by omega)
        have pY := run_part_at (P := P) (w := w) (cs := Y) (off := f.offset) c4 (by omega)
        rw [partV_VL c4 (by omega)] at pX pY
        have sa := ha.split l.length
        have sb := hb.split l.length
        rw [← List.take_append_drop l.length a, ← List.take_append_drop l.length b, beqT_app _ _ _ _ _ _ (by simp; omega) (by simp; omega)] at hr
        rw [List.drop_drop] at sa sb
        have hn : f.name ≠ "_" := by simpa using c1
        have go : ∀ q, beqT l (a.take l.length) (b.take l.length) = some q → (Op.equalIn D f.type (VL P f.type ((X.toList.drop f.offset).take (sizeT P f.type))) (VL P f.type ((Y.toList.drop f.offset).take (sizeT P f.type)))).run P w = .ok q w := fun q hq => by
          rw [c2, ← c3]
          exact hrec f.type l hl _ _ _ _ q sa.1 sb.1 (by simp; omega) (by simp; omega) hq
        cases hq : beqT l (a.take l.length) (b.take l.length) with
        | none => rw [hq] at hr; cases hr
        | some q =>
          rw [hq] at hr
          cases q with
          | false =>
            simp only [Option.some.injEq] at hr
            subst hr
            simp only [Op.eqFields, hn, ne_eq, not_false_eq_true, if_true, Sem.run_bind, pX, pY, go _ hq, Result.andThen_ok]
            simp
          | true =>
            simp only at hr
            have := ih X Y (a.drop l.length) (b.drop l.length) r hX hY (by rw [List.length_append]; exact sa.2) (by rw [List.length_append]; exact sb.2) hr
            simp only [Op.eqFields, hn, ne_eq, not_false_eq_true, if_true, Sem.run_bind, pX, pY, go _ hq, Result.andThen_ok]
            simpa using this
theorem leavesT_ok : ∀ (d D : Nat), d ≤ D → ∀ t ls, leavesT P d t = some ls → ∀ (a b : List AV) (xs ys : List Value) (r : Bool), LR β a xs → LR β b ys → a.length = ls.length → b.length = ls.length → beqT ls a b = some r → (Op.equalIn D t (VL P t xs) (VL P t ys)).run P w = .ok r w
  | 0, _, _, t, ls, h, _, _, _, _, _, _, _, _, _, _ => by simp [leavesT] at h
  | d + 1, 0, hD, _, _, _, _, _, _, _, _, _, _, _, _, _ => by omega
  | d + 1, D + 1, hD, t, ls, h, a, b, xs, ys, r, ha, hb, la, lb, hr => by
    simp only [leavesT] at h
    cases hu : P.underlying t with
    | none => simp [und, hu] at h
    | some td =>
      simp only [und, hu] at h
      have scalar : ∀ lf : LfT, ls = [lf] → ∃ x y u v, a = [x] ∧ b = [y] ∧ xs = [u] ∧ ys = [v] ∧ VR β x u ∧ VR β y v ∧ beqC lf x y = some r := by
        intro lf e
        subst e
        obtain ⟨x, rfl⟩ := List.length_eq_one_iff.1 la
        obtain ⟨y, rfl⟩ := List.length_eq_one_iff.1 lb
        simp only [LR] at ha hb
        obtain ⟨u, _, rfl, hu1, rfl⟩ := ha
        obtain ⟨v, _, rfl, hv1, rfl⟩ := hb
        refine ⟨x, y, u, v, rfl, rfl, rfl, rfl, hu1, hv1, ?_⟩
        simp only [beqT] at hr
        cases hc : beqC lf x y with
        | none => rw [hc] at hr; cases hr
        | some q => rw [hc] at hr; cases q <;> simpa using hr
      cases td with
      | int k =>
        simp only [Option.some.injEq] at h
        obtain ⟨x, y, u, v, rfl, rfl, rfl, rfl, hx, hy, hc⟩ := scalar _ h.symm
        have hagg : isAggT P t = false := by simp [isAggT, hu]
        simp only [VL, hagg, Bool.false_eq_true, if_false, List.headD_cons]
        simp only [beqC] at hc
        cases x with
        | int i n =>
          simp only [beqS] at hc
          cases y with
          | int j m =>
            simp only at hc
            cases hk : kindEq i j with
            | false => rw [hk] at hc; cases hc
            | true =>
              rw [hk] at hc
              have := kindEq_eq hk
              subst this
              simp only [VR] at hx hy
              subst hx; subst hy
              simp only [cond_true, Option.some.injEq] at hc
              subst hc
              simp [Op.equalIn, run_underlying hu]
          | _ => simp at hc
        | _ => simp at hc
      | bool =>
        simp only [Option.some.injEq] at h
        obtain ⟨x, y, u, v, rfl, rfl, rfl, rfl, hx, hy, hc⟩ := scalar _ h.symm
        have hagg : isAggT P t = false := by simp [isAggT, hu]
        simp only [VL, hagg, Bool.false_eq_true, if_false, List.headD_cons]
        simp only [beqC] at hc
        cases x with
        | bool n =>
          cases y with
          | bool m =>
            simp only [beqS, Option.some.injEq] at hc
            simp only [VR] at hx hy
            subst hx; subst hy; subst hc
            simp [Op.equalIn, run_underlying hu]
          | _ => simp [beqS] at hc
        | _ => simp at hc
      | string =>
        simp only [Option.some.injEq] at h
        obtain ⟨x, y, u, v, rfl, rfl, rfl, rfl, hx, hy, hc⟩ := scalar _ h.symm
        have hagg : isAggT P t = false := by simp [isAggT, hu]
        simp only [VL, hagg, Bool.false_eq_true, if_false, List.headD_cons]
        simp only [beqC] at hc
        cases x with
        | str n p =>
          cases y with
          | str m q =>
            simp only [beqS, Option.some.injEq] at hc
            simp only [VR] at hx hy
            obtain ⟨s1, rfl, rfl, rfl⟩ := hx
            obtain ⟨s2, rfl, rfl, rfl⟩ := hy
            rw [← str_eq] at hc
            subst hc
            exact run_equalIn_string w D t s1 s2 hu
          | _ => simp [beqS] at hc
        | _ => simp at hc
      | struct fs =>
        simp only at h
        cases hst : P.stoodInHeld t with
        | true => rw [hst] at h; cases h
        | false =>
          rw [hst] at h
          simp only [cond_false] at h
          obtain ⟨l2, e, ih⟩ := leavesF_ok (β := β) (w := w) (leavesT P d) D (fun t ls hl a b xs ys r => leavesT_ok d D (by omega) t ls hl a b xs ys r) fs.toList [] ls h
          simp only [List.nil_append] at e
          subst e
          have hagg : isAggT P t = true := by simp [isAggT, hu]
          simp only [VL, hagg, if_true]
          have hfs : P.fieldsOf t = fs := by simp [Program.fieldsOf, hu]
          rw [run_equalIn_struct w D t xs.toArray ys.toArray (by rw [hfs]; exact hu) hst, hfs]
          have h1 := ha.length
          have h2 := hb.length
          exact ih xs.toArray ys.toArray a b r (by simp; omega) (by simp; omega) (by simpa using ha) (by simpa using hb) hr
      | _ => simp at h
theorem bcells_inj : ∀ (n p q : Nat), p < 256 ^ n → q < 256 ^ n → bcells n p = bcells n q → p = q
  | 0, p, q, hp, hq, _ => by simp at hp hq; omega
  | n + 1, p, q, hp, hq, h => by
    simp only [bcells, List.cons.injEq, Value.int.injEq, true_and] at h
    have h1 := Int.ofNat.inj h.1
    have h2 := bcells_inj n (p / 256) (q / 256) (by rw [Nat.pow_succ] at hp; exact Nat.div_lt_of_lt_mul (by rw [Nat.mul_comm]; exact hp)) (by rw [Nat.pow_succ] at hq; exact Nat.div_lt_of_lt_mul (by rw [Nat.mul_comm]; exact hq)) h.2
    omega
theorem run_items (D : Nat) {e : TypeId} (he : P.underlying e = some (.int .u8)) (hs : sizeT P e = 1) (X Y : Array Value) (n p q : Nat) (hX : X.toList = bcells n p) (hY : Y.toList = bcells n q) : ∀ is : List Nat, (∀ i ∈ is, i < n) →
    (Op.eqItems (D + 1) e 1 X Y is).run P w = .ok (is.all fun i => p / 256 ^ i % 256 == q / 256 ^ i % 256) w
  | [], _ => by simp [Op.eqItems]
  | i :: is, h => by
    have hi := h i (by simp)
    have hagg : isAggT P e = false := by simp [isAggT, he]
    have ht : tyOk P e = true := by simp [tyOk, he, hs]
    have nX : X.size = n := by have := congrArg List.length hX; simpa [bcells_length] using this
    have nY : Y.size = n := by have := congrArg List.length hY; simpa [bcells_length] using this
    have gX : X.getD i undef = .int .u8 (Int.ofNat (p / 256 ^ i % 256)) := by
      have := bcells_getD n i p undef hi
      rw [← hX] at this
      simpa using this
    have gY : Y.getD i undef = .int .u8 (Int.ofNat (q / 256 ^ i % 256)) := by
      have := bcells_getD n i q undef hi
      rw [← hY] at this
      simpa using this
    have pX := run_part_at (P := P) (w := w) (cs := X) (off := i * 1) ht (by omega)
    have pY := run_part_at (P := P) (w := w) (cs := Y) (off := i * 1) ht (by omega)
    simp only [partV, hagg, Bool.false_eq_true, if_false, Nat.mul_one, gX, gY] at pX pY
    have heq := run_equalIn_int w D e .u8 .u8 (Int.ofNat (p / 256 ^ i % 256)) (Int.ofNat (q / 256 ^ i % 256)) he
    have hb : (Int.ofNat (p / 256 ^ i % 256) == Int.ofNat (q / 256 ^ i % 256)) = (p / 256 ^ i % 256 == q / 256 ^ i % 256) := by
      rw [Bool.eq_iff_iff]; simp only [beq_iff_eq]; exact ⟨fun h => Int.ofNat.inj h, fun h => by rw [h]⟩
    rw [hb] at heq
    simp only [Op.eqItems, Nat.mul_one, Sem.run_bind, pX, pY, heq, Result.andThen_ok]
    cases hq : (p / 256 ^ i % 256 == q / 256 ^ i % 256) with
    | false => simp [List.all_cons, hq]
    | true =>
      simp only [Bool.not_true, Bool.false_eq_true, if_false, List.all_cons, hq, Bool.true_and]
      exact run_items D he hs X Y n p q hX hY is (fun j hj => h j (by simp [hj]))
theorem eqAggK_ok {t : TypeId} {l : Sum Nat (List LfT)} {neg : Bool} {ox oy : Operand} {x y : AV} {vx vy : Value} {k : AV → Out} (hl : aggT P t = some l) (hx : VR β x vx) (hy : VR β y vy) (h : eqAggK l neg x y k = out) (ho : out ≠ .err) :
    ∃ v' x', (do eqGuard (bopOf neg) t ox oy vx vy; binOp (bopOf neg) t vx vy : Sem Value).run P w = .ok v' w ∧ VR β x' v' ∧ k x' = out := by
  unfold aggT at hl
  cases hu : P.underlying t with
  | none => simp [und, hu] at hl
  | some td =>
    simp only [und, hu] at hl
    cases td with
    | struct fs =>
      simp only at hl
      cases hg : P.eqGuardType P.depth t with
      | true => rw [hg] at hl; cases hl
      | false =>
        rw [hg] at hl
        simp only [cond_false] at hl
        cases hlv : leavesT P 8 t with
        | none => rw [hlv] at hl; cases hl
        | some ls =>
          rw [hlv] at hl
          simp only [Option.map_some, Option.some.injEq] at hl
          subst hl
          cases x <;> simp only [eqAggK] at h <;> try exact absurd h.symm ho
          rename_i a
          cases y <;> simp only at h <;> try exact absurd h.symm ho
          rename_i b
          cases hb : (Nat.beq (lenL a) ls.length && Nat.beq (lenL b) ls.length) with
          | false => rw [hb] at h; exact absurd h.symm ho
          | true =>
            rw [hb] at h
            simp only [cond_true] at h
            simp only [Bool.and_eq_true] at hb
            have b1 := beq_eq hb.1
            have b2 := beq_eq hb.2
            rw [lenL_eq] at b1 b2
            cases hr : beqT ls a b with
            | none => rw [hr] at h; exact absurd h.symm ho
            | some r =>
              rw [hr] at h
              simp only [VR] at hx hy
              obtain ⟨xs, rfl, _, hxs⟩ := hx
              obtain ⟨ys, rfl, _, hys⟩ := hy
              have := leavesT_ok (P := P) (w := w) (β := β) 8 10000 (by omega) t ls hlv a b xs.toList ys.toList r hxs hys b1 b2 hr
              have hagg : isAggT P t = true := by simp [isAggT, hu]
              simp only [VL, hagg, if_true, Array.toArray_toList] at this
              exact ⟨_, _, run_eq rfl (run_eqGuard_agg _ _ _ _ _ _ _ hg) this, by simp [VR], h⟩
    | array n e =>
      simp only at hl
      cases hue : P.underlying e with
      | none => simp [hue] at hl
      | some ed =>
        simp only [hue] at hl
        split at hl
        · rename_i hed
          cases hg : P.eqGuardType P.depth t with
          | true => rw [hg] at hl; cases hl
          | false =>
            cases hte : tyOk P e with
            | false => rw [hg, hte] at hl; cases hl
            | true =>
              rw [hg, hte] at hl
              simp only [Bool.not_true, Bool.or_false, cond_false, Option.some.injEq] at hl
              subst hl
              cases x <;> simp only [eqAggK] at h <;> try exact absurd h.symm ho
              rename_i n1 p
              cases y <;> simp only at h <;> try exact absurd h.symm ho
              rename_i n2 q
              obtain ⟨hb, hfin⟩ := of_bif h ho
              simp only [Bool.and_eq_true] at hb
              have b1 := beq_eq hb.1
              have b2 := beq_eq hb.2
              subst b1; subst b2
              simp only [VR] at hx hy
              obtain ⟨xs, rfl, hp, hxs⟩ := hx
              obtain ⟨ys, rfl, hq, hys⟩ := hy
              have hagg : isAggT P e = false := by simp [isAggT, hue]
              have hs1 := tyOk_one hte hagg
              obtain ⟨i, hi⟩ := Ev.info_of_underlying hue
              have hit := run_items (w := w) 9998 hue hs1 xs ys _ p q hxs hys (List.range n2) (fun i hi => by simpa using hi)
              have hce : P.cellsOf e = 1 := hs1
              have harr := run_equalIn_array w 9999 xs ys hu hi
              rw [hce, hit] at harr
              have hall : ((List.range n2).all fun i => p / 256 ^ i % 256 == q / 256 ^ i % 256) = Nat.beq p q := by
                cases hpq : Nat.beq p q with
                | true => have := beq_eq hpq; subst this; simp
                | false =>
                  rw [Bool.eq_false_iff]
                  intro hall
                  simp only [List.all_eq_true, List.mem_range, beq_iff_eq] at hall
                  have : p = q := bcells_inj n2 p q hp hq (by
                    apply List.ext_getElem
                    · simp [bcells_length]
                    · intro i h1 h2
                      rw [bcells_length] at h1
                      have g1 := bcells_getD n2 i p undef h1
                      have g2 := bcells_getD n2 i q undef h1
                      rw [List.getD_eq_getElem?_getD, List.getElem?_eq_getElem (by rw [bcells_length]; exact h1)] at g1 g2
                      simp only [Option.getD_some] at g1 g2
                      rw [g1, g2, hall i h1])
                  subst this
                  rw [Nat.beq_refl] at hpq; cases hpq
              rw [hall] at harr
              exact ⟨_, _, run_eq rfl (run_eqGuard_agg _ _ _ _ _ _ _ hg) harr, by simp [VR], hfin⟩
        · cases hl
    | _ => simp at hl
end
end Go.Ev
