/- Operations that float: those that look at the memory, those that make a row. -/
import Derived.Test.YtneeiakpoohneaaGreatDoorEvD1
set_option linter.all false
set_option linter.unusedSimpArgs false
set_option linter.unusedVariables false
namespace Go.Ev
section
variable {P : Program} {lv : Nat → Nat → Nat → Option (List Tmp)} {call : Call} {n : Nat} {out : Out}

def Step2 (f : St → (AV → Out) → Out) : Prop := ∀ (s : St) (k : AV → Out) (out : Out), f s k = out → out ≠ .err → ∃ v, k v = out ∧ ∀ s2, Ext s s2 → ∀ k2, f s2 k2 = k2 v
theorem Step2.of1 {f : (AV → Out) → Out} (h : Step1 f) : Step2 fun _ => f := fun s k out h1 ho => by
  obtain ⟨v, g1, g2⟩ := h k out h1 ho
  exact ⟨v, g1, fun _ _ => g2⟩
theorem Step2.err : Step2 fun _ _ => .err := fun s k out h ho => absurd h.symm ho
theorem Step2.bif (c : Bool) {g : St → (AV → Out) → Out} (hg : Step2 g) : Step2 fun s k => bif c then g s k else .err := by
  intro s k out h ho
  obtain ⟨h1, h2⟩ := of_bif h ho
  obtain ⟨v, g1, g2⟩ := hg s k out h2 ho
  exact ⟨v, g1, fun s2 hs k2 => by rw [h1]; exact g2 s2 hs k2⟩
theorem Step2.ptr (x : AV) {g : Nat → Nat → St → (AV → Out) → Out} (hg : ∀ i o, Step2 (g i o)) : Step2 fun s k => ptrK x fun i o => g i o s k := by
  intro s k out h ho
  obtain ⟨i, o, rfl, h1⟩ := ptrK_ok h ho
  exact hg i o s k out h1 ho
theorem Step2.row (i : Nat) {g : TypeId → AV → (AV → Out) → Out} (hg : ∀ t c, Step1 (g t c)) : Step2 fun s k => rowK s i fun t c => g t c k := by
  intro s k out h ho
  obtain ⟨t, c, hb, h1⟩ := rowK_ok h ho
  obtain ⟨v, g1, g2⟩ := hg t c k out h1 ho
  exact ⟨v, g1, fun s2 hs k2 => by
    have : s2.blk i = .row t c := (hs i (by rw [hb]; simp)).trans hb
    simp only [rowK, this]
    exact g2 k2⟩
theorem Step2.map (m : AV) {g : Nat → ME → Nat → (AV → Out) → Out} (hg : ∀ i es clk, Step1 (g i es clk)) : Step2 fun s k => mapK s m fun i es clk => g i es clk k := by
  intro s k out h ho
  obtain ⟨id, es, clk, rfl, hb, h1⟩ := mapK_ok h ho
  obtain ⟨v, g1, g2⟩ := hg id es clk k out h1 ho
  exact ⟨v, g1, fun s2 hs k2 => by
    have : s2.blk id = .map es clk := (hs id (by rw [hb]; simp)).trans hb
    simp only [mapK, this]
    exact g2 k2⟩
theorem Step2.load (f : TF) (a : AV) : Step2 fun s k => loadK f s a k := Step2.ptr a fun i o => Step2.row i fun _ c => Step1.part f c o
theorem Step2.lenMap (m : AV) : Step2 fun s k => lenMapK s m k := by
  have main : Step2 fun s k => mapK s m fun _ es _ => k (goInt es.len) := Step2.map m fun _ es _ => Step1.ret (goInt es.len)
  cases m <;> first
    | exact Step2.of1 (Step1.ret (goInt 0))
    | exact main
theorem Step2.lookup (d : EqD) (z : AV) (ok : Bool) (m x : AV) : Step2 fun s k => lookupK d z ok s m x k := by
  have key : ∀ {g : St → (AV → Out) → Out}, Step2 g → Step2 fun s k => keyK d x (g s k) := by
    intro g hg
    cases d <;> cases x <;> first | exact hg | exact Step2.err
  refine key ?_
  have main : Step2 fun s k => mapK s m fun _ es _ => match es.find x with | some r => k (found z ok r) | none => .err := by
    refine Step2.map m fun _ es _ => ?_
    cases es.find x with
    | none => exact Step1.err
    | some r => exact Step1.ret _
  cases m <;> first | exact Step2.of1 (Step1.ret _) | exact main
theorem Step2.eq (d : EqD) (neg : Bool) (x y : AV) : Step2 fun s k => eqK d s neg x y k := by
  intro s k out h ho
  simp only [eqK] at h
  cases hq : eqOf d x y with
  | none => rw [hq] at h; exact absurd h.symm ho
  | some b =>
    rw [hq] at h
    obtain ⟨h1, h2⟩ := of_bif h ho
    refine ⟨_, h2, fun s2 hs k2 => ?_⟩
    have : apart s2 x y = true := by
      unfold apart at h1 ⊢
      cases x <;> try rfl
      cases y <;> try rfl
      simp only [Bool.or_eq_true, Bool.and_eq_true] at h1 ⊢
      rcases h1 with h1 | ⟨h1, h3⟩
      · exact .inl h1
      · right
        have hx : ∀ i, isRow (s.blk i) = true → isRow (s2.blk i) = true := fun i hi => by
          rw [hs i (by intro e; rw [e] at hi; cases hi)]; exact hi
        exact ⟨hx _ h1, hx _ h3⟩
    simp only [eqK, hq, this, cond_true]
theorem Step2.head (sz : Nat) (x : AV) (m : Nat) {g : AV → (AV → Out) → Out} (hg : ∀ c, Step1 (g c)) : Step2 fun s k => headK s sz x m fun c => g c k := by
  cases x <;> first
    | exact Step2.err
    | exact Step2.of1 (Step1.bif _ (hg _))
    | skip
  rename_i id o l c z op
  refine Step2.row id fun t c => Step1.bif _ ?_
  intro k out h ho
  obtain ⟨h1, h2⟩ := defK_ok h ho
  obtain ⟨v, g1, g2⟩ := hg _ k out h2 ho
  refine ⟨v, g1, fun k2 => ?_⟩
  have e : ∀ (x : AV) (k : AV → Out), x ≠ .undef → Ev.defK x k = k x := fun x k hx => by cases x <;> first | rfl | exact absurd rfl hx
  show Ev.defK (Row.sub c o (m * sz)) (fun c => g c k2) = _
  rw [e _ _ h1]
  exact g2 k2
theorem Step2.toStr (x : AV) : Step2 fun s k => toStrK s x k := by
  have fin : ∀ c : AV, Step1 fun k => (match c with
    | .bytes n p => k (.str n p)
    | .cells [] => k (.str 0 0)
    | _ => .err : Out) := by
    intro c
    cases c <;> first | exact Step1.err | exact Step1.ret _ | skip
    rename_i l
    cases l <;> first | exact Step1.err | exact Step1.ret _
  have main : ∀ m, Step2 fun s k => headK s 1 x m fun c => (match c with
    | .bytes n p => k (.str n p)
    | .cells [] => k (.str 0 0)
    | _ => .err : Out) := fun m => Step2.head 1 x m fin
  cases x
  case str => exact Step2.err
  case nils => exact main 0
  case slice id o l c z op => exact main l
  all_goals exact Step2.err
theorem Step2.addStr (x y : AV) : Step2 fun _ k => addStrK x y k := by
  cases x <;> first
    | exact Step2.err
    | (cases y <;> first | exact Step2.err | exact Step2.bif _ (Step2.of1 (Step1.ret _)))
theorem Step2.eqAgg (t : Sum Nat (List LfT)) (neg : Bool) (x y : AV) : Step2 fun _ k => eqAggK t neg x y k := by
  cases t with
  | inl m =>
    cases x <;> first
      | exact Step2.err
      | (cases y <;> first | exact Step2.err | exact Step2.bif _ (Step2.of1 (Step1.ret _)))
  | inr t =>
    cases x <;> first
      | exact Step2.err
      | skip
    cases y <;> first
      | exact Step2.err
      | skip
    rename_i a b
    have : ∀ o : Option Bool, Step2 fun _ k => (match o with | some r => k (.bool (Bool.xor neg r)) | none => .err : Out) := fun o => by
      cases o with
      | none => exact Step2.err
      | some r => exact Step2.of1 (Step1.ret _)
    exact this _

def ReadR (P : Program) (call : Call) (o : Op) (e : Env) : Prop := ∀ (s : St) (k : AV → St → Out) (out : Out), evOp P call o s e k = out → out ≠ .err → ∃ v, k v s = out ∧ ∀ s2, Ext s s2 → ∀ k2, evOp P call o s2 e k2 = k2 v s2
theorem ReadR.of {o : Op} {e : Env} (f : St → (AV → Out) → Out) (hf : Step2 f) (h : ∀ s k, evOp P call o s e k = f s fun v => k v s) : ReadR P call o e := by
  intro s k out h1 ho
  rw [h] at h1
  obtain ⟨v, g1, g2⟩ := hf s _ out h1 ho
  exact ⟨v, g1, fun s2 hs k2 => by rw [h]; exact g2 s2 hs _⟩
theorem ReadR.err {o : Op} {e : Env} (h : ∀ s k, evOp P call o s e k = .err) : ReadR P call o e := ReadR.of (fun _ _ => .err) Step2.err h
theorem readR {o : Op} (e : Env) (h : readOp P o = true) : ReadR P call o e := by
  cases o <;> simp only [readOp, reduceCtorEq] at h
  case load t a => exact ReadR.of _ (Step2.bif _ (Step2.load _ _)) fun _ _ => rfl
  case lookup t x i ok =>
    cases hu : und P t with
    | map kt el => exact ReadR.of _ (Step2.bif _ (Step2.lookup _ _ _ _ _)) fun s k => by simp only [evOp, hu] <;> rfl
    | _ => exact ReadR.err fun s k => by simp only [evOp, hu]
  case binOp op t x y z =>
    cases hu : und P t
    case int => rw [hu] at h; cases h
    case string =>
      cases op
      case add => exact ReadR.of _ (Step2.addStr _ _) fun s k => by simp only [evOp, hu] <;> rfl
      case eql => exact ReadR.of _ (Step2.eq _ _ _ _) fun s k => by simp only [evOp, hu] <;> rfl
      case neq => exact ReadR.of _ (Step2.eq _ _ _ _) fun s k => by simp only [evOp, hu] <;> rfl
      all_goals exact ReadR.err fun s k => by simp only [evOp, hu]
    all_goals
      cases hd : eqD P t with
      | some d =>
        cases op
        case eql => exact ReadR.of _ (Step2.eq _ _ _ _) fun s k => by simp only [evOp, hu, hd] <;> rfl
        case neq => exact ReadR.of _ (Step2.eq _ _ _ _) fun s k => by simp only [evOp, hu, hd] <;> rfl
        all_goals exact ReadR.err fun s k => by simp only [evOp, hu, hd]
      | none =>
        cases ha : aggT P t with
        | none => exact ReadR.err fun s k => by simp only [evOp, hu, hd, ha]
        | some l =>
          cases op
          case eql => exact ReadR.of _ (Step2.eqAgg _ _ _ _) fun s k => by simp only [evOp, hu, hd, ha] <;> rfl
          case neq => exact ReadR.of _ (Step2.eqAgg _ _ _ _) fun s k => by simp only [evOp, hu, hd, ha] <;> rfl
          all_goals exact ReadR.err fun s k => by simp only [evOp, hu, hd, ha]
  case convert a b x =>
    cases hu : und P a <;> rw [hu] at h <;> try cases h
    cases hv : und P b <;> rw [hv] at h <;> try cases h
    rename_i el
    cases he : und P el
    case int kd =>
      cases kd
      case u8 => exact ReadR.of _ (Step2.toStr _) fun s k => by simp only [evOp, hu, hv, he] <;> rfl
      all_goals exact ReadR.err fun s k => by simp only [evOp, hu, hv, he]
    all_goals exact ReadR.err fun s k => by simp only [evOp, hu, hv, he]
  case call c =>
    cases hcal : c.callee <;> rw [hcal] at h <;> try cases h
    rename_i b
    cases hz : Nat.beq c.argTypes.size c.args.size with
    | false => exact ReadR.err fun s k => by simp only [evOp, hcal, hz, cond_false]
    | true =>
    cases b <;> simp only [reduceCtorEq] at h
    case len =>
      cases hl : c.args.toList.map (opv P e) with
      | nil => exact ReadR.err fun s k => by simp only [evOp, hcal, hz, cond_true, hl]; rfl
      | cons x l => cases l with
        | cons y l => exact ReadR.err fun s k => by simp only [evOp, hcal, hz, cond_true, hl]; rfl
        | nil =>
          cases hu : und P (c.argTypes.getD 0 0) with
          | map _ _ => exact ReadR.of _ (Step2.lenMap x) fun s k => by simp only [evOp, hcal, hz, cond_true, hl, evBuiltin, hu] <;> rfl
          | _ => rw [hu] at h; cases h

/-- what a new row's address looks like -/
inductive Mk where
  | ptr
  | slice (len cap sz : Nat)
def Mk.at : Mk → Nat → AV
  | .ptr, i => .ptr i 0
  | .slice l c z, i => .slice i 0 l c z false
theorem Mk.inj {m m' : Mk} {i : Nat} (h : m.at i = m'.at i) : m = m' := by
  cases m <;> cases m' <;> simp_all [Mk.at]
def NewR (P : Program) (call : Call) (o : Op) (e : Env) : Prop := ∀ (s : St) (k : AV → St → Out) (out : Out), evOp P call o s e k = out → out ≠ .err → ∃ (m : Mk) (t : TypeId) (c : AV), k (m.at s.next) (s.new (.row t c)) = out ∧ ∀ s2 k2, evOp P call o s2 e k2 = k2 (m.at s2.next) (s2.new (.row t c))
theorem newR {o : Op} (e : Env) (h : newOp o = true) : NewR P call o e := by
  cases o <;> simp only [newOp, reduceCtorEq] at h
  case alloc t =>
    intro s k out h1 ho
    simp only [evOp] at h1
    obtain ⟨h2, h3⟩ := of_bif h1 ho
    refine ⟨.ptr, t, Row.norm (cellsOf (zeroT P t)), by simpa [allocK, newK_eq, Mk.at] using h3, fun s2 k2 => ?_⟩
    simp only [evOp, h2, cond_true, allocK, newK_eq, Mk.at]
  case buildSlice t len ps =>
    intro s k out h1 ho
    cases hu : und P t with
    | slice el =>
      simp only [evOp, hu] at h1
      obtain ⟨h2, h3⟩ := of_bif h1 ho
      have hf := Step1.fill (ps.toList.map fun x => (x.1 * sizeT P el, sizeT P el, opv P e x.2)) (zeros (zeroT P el) len)
      obtain ⟨c, g1, g2⟩ := hf _ out h3 ho
      refine ⟨.slice len len (sizeT P el), el, c, by simpa [newK_eq, Mk.at] using g1, fun s2 k2 => ?_⟩
      simp only [evOp, hu, h2, cond_true, g2, newK_eq, Mk.at]
    | _ => simp only [evOp, hu] at h1; exact absurd h1.symm ho
  case makeSlice t x y =>
    intro s k out h1 ho
    cases hu : und P t with
    | slice el =>
      simp only [evOp, hu] at h1
      obtain ⟨h2, h3⟩ := of_bif h1 ho
      simp only [makeSliceK] at h3
      obtain ⟨jl, l, e1, h4⟩ := natK_ok h3 ho
      obtain ⟨jc, c, e2, h5⟩ := natK_ok h4 ho
      obtain ⟨h6, h7⟩ := of_bif h5 ho
      obtain ⟨h8, h9⟩ := defK_ok h7 ho
      refine ⟨.slice l c (sizeT P el), el, zeros (zeroT P el) c, by simpa [newK_eq, Mk.at] using h9, fun s2 k2 => ?_⟩
      have ed : ∀ (x : AV) (k : AV → Out), x ≠ .undef → defK x k = k x := fun x k hx => by cases x <;> first | rfl | exact absurd rfl hx
      simp only [evOp, hu, h2, cond_true, makeSliceK, e1, e2, natK, h6, ed _ _ h8, newK_eq, Mk.at]
    | _ => simp only [evOp, hu] at h1; exact absurd h1.symm ho

variable {β : Bt} {s : St} {w : World}
/-- a row that was made ahead of the world -/
theorem Rel.addRow {c : AV} {cs : Array Value} {t : TypeId} {fr : Nat × Nat} {w' : World} {id : Nat} (hr : Rel P lv β s w) (hid : id < s.next) (hn : β id = none) (hb : s.blk id = .row t c) (hh : w'.heap = w.heap.push (.cells cs t fr))
    (hc : RowR β c (cs.toList.take (Row.len c))) (hl : Row.len c ≤ cs.size) (hp : ∀ v ∈ cs.toList, oneC v = true) (hfr : fr.2 ≤ fr.1 ∨ (cs.size ≤ fr.1 ∧ isRow (.row t c) = false)) :
    Rel P lv (β.add id ⟨w.heap.size, 0, cs.size⟩) s w' := by
  refine hr.addOld hid hn rfl (by rw [hh]; simp) (fun x hx => by rw [hh, Array.getElem?_push, if_neg (by omega)]) ?_
  rw [hb]
  refine ⟨cs, t, fr, by rw [hh]; simp, rfl, by simpa using hl, ?_, hp, hfr⟩
  rw [List.drop_zero]
  exact hc.mono (Bt.le_add hn)

/-- what a new row is in the world -/
theorem newCore {env : Env} {a : Act} {o : Oper} {k : AV → St → Out} (hr : Rel P lv β s w) (he : EnvR β n env a) (hn : newOp o.op = true) (h : evOp P call o.op s env k = out) (ho : out ≠ .err) :
    ∃ m t c cs v w', (execOp a.eval o).run P w = .ok (.value v) w' ∧ (w'.heap = w.heap.push (.cells cs t (0, 0)) ∧ w'.os = w.os ∧ w'.output = w.output) ∧ RowR β c (cs.toList.take (Row.len c)) ∧ Row.len c ≤ cs.size ∧ (∀ v ∈ cs.toList, oneC v = true) ∧
      (∀ (id : Nat) (β' : Bt), β' id = some ⟨w.heap.size, 0, cs.size⟩ → VR β' (Mk.at m id) v) ∧ k (Mk.at m s.next) (s.new (.row t c)) = out := by
  have fin : ∀ (S : Sem Value) (v : Value) (w' : World), execOp a.eval o = (do pure (.value (← S))) → S.run P w = .ok v w' → (execOp a.eval o).run P w = .ok (.value v) w' := by
    intro S v w' e h
    rw [e, Sem.run_bind, h]; rfl
  cases hop : o.op <;> rw [hop] at hn h <;> simp only [newOp, reduceCtorEq] at hn
  case alloc t =>
    simp only [evOp] at h
    obtain ⟨hd, h⟩ := of_bif h ho
    have hd' : Row.norm (cellsOf (zeroT P t)) ≠ .undef := fun e => by rw [e] at hd; cases hd
    have hd2 : cellsOf (zeroT P t) ≠ .undef := fun e => by rw [e] at hd'; exact hd' rfl
    have hd3 : zeroT P t ≠ .undef := fun e => hd2 (cellsOf_undef e)
    obtain ⟨i, z, hi, hz, hv⟩ := zeroT_vr (β := β) hd3
    have hrow := (hv.cells hd2).norm hd'
    have hlen := hrow.length
    simp only [allocK, newK_eq] at h
    have hsz : z.cells.size = Row.len (Row.norm (cellsOf (zeroT P t))) := by simpa using hlen
    refine ⟨.ptr, t, _, z.cells, .pointer (some ⟨w.heap.size, 0, none⟩), { w with heap := w.heap.push (.cells z.cells t (0, 0)) }, ?_, ⟨rfl, rfl, rfl⟩, by rw [List.take_of_length_le (by simp; omega)]; exact hrow, by omega, hv.plain hd2, fun id β' hb => ?_, h⟩
    · have hS : ∃ old, execOp a.eval o = (do pure (.value (← Instr.alloc t true old))) := ⟨_, by first | (simp [execOp, hop]; done) | (simp [execOp, hop]; rfl)⟩
      obtain ⟨old, hS⟩ := hS
      exact fin _ _ _ hS (by simp [Instr.alloc, run_zero hi hz, newVar, newRow])
    · simp only [Mk.at, VR]; exact ⟨_, hb, rfl⟩
  case makeSlice t x y =>
    simp only [evOp] at h
    cases hu : P.underlying t with
    | none => simp only [und, hu] at h; exact absurd h.symm ho
    | some td =>
      simp only [und, hu] at h
      cases td <;> simp only at h <;> try exact absurd h.symm ho
      rename_i e
      obtain ⟨he', h⟩ := of_bif h ho
      obtain ⟨hpos, i, z, hi, hz, hsz, hby, hc, hv, hzs, hzp⟩ := elemOk_ok he'
      have hx := opv_vr (P := P) hr he x
      have hy := opv_vr (P := P) hr he y
      simp only [makeSliceK] at h
      obtain ⟨jl, l, e1, h1⟩ := natK_ok h ho
      obtain ⟨jc, c, e2, h2⟩ := natK_ok h1 ho
      obtain ⟨g1, h3⟩ := of_bif h2 ho
      simp only [Bool.and_eq_true] at g1
      have g2 := ble_le g1.1
      have g3 := ble_le g1.2
      obtain ⟨h4, h5⟩ := defK_ok h3 ho
      rw [newK_eq] at h5
      rw [e1] at hx
      rw [e2] at hy
      simp only [VR] at hx hy
      have hrun := run_make (P := P) w t e i z hu hi hz jl jc (Int.ofNat l) (Int.ofNat c) (Int.natCast_nonneg _) (by simpa using g2) (by
        have : i.bytes * c ≤ 65536 * 1000000000 := Nat.mul_le_mul hby g3
        have e : ((i.bytes * c : Nat) : Int) = (i.bytes : Int) * (c : Int) := by simp
        simp only [Int.ofNat_eq_natCast]
        omega) (by simp only [Int.ofNat_eq_natCast]; omega)
      have hcells : madeCells z.cells ((Int.ofNat c).toNat * i.size) = Builtin.zeroCells z.cells c := by
        have : (Int.ofNat c).toNat = c := rfl
        rw [this, hsz]
        simp only [madeCells, Builtin.zeroCells, hzs]
      rw [hcells] at hrun
      have hrow := zeros_ok (hv β) hc c h4
      have hlen := hrow.length
      refine ⟨.slice l c (sizeT P e), e, _, Builtin.zeroCells z.cells c, _, w.alloc (.cells (Builtin.zeroCells z.cells c) e), fin (Instr.makeSlice t (a.eval x) (a.eval y)) _ _ (by first | (simp [execOp, hop]; done) | (simp [execOp, hop]; rfl)) (by rw [hx, hy]; exact hrun), ⟨rfl, rfl, rfl⟩,
        by rw [List.take_of_length_le (by simp at hlen ⊢; omega)]; exact hrow, by simp at hlen; omega, mem_zeroCells hzp, fun id β' hb => ?_, h5⟩
      simp only [Mk.at, VR]
      exact ⟨_, _, c, hb, rfl, fun _ => rfl, fun _ => rfl, Nat.le_refl _, g2, fun h => by simp at h⟩
  case buildSlice t len ps =>
    simp only [evOp] at h
    cases hu : P.underlying t with
    | none => simp only [und, hu] at h; exact absurd h.symm ho
    | some td =>
      simp only [und, hu] at h
      cases td <;> simp only at h <;> try exact absurd h.symm ho
      rename_i e
      obtain ⟨hc, h⟩ := of_bif h ho
      simp only [Bool.and_eq_true] at hc
      obtain ⟨hpos, i, z, hi, hz, hsz, hby, hcd, hv, hzs, hzp⟩ := elemOk_ok hc.1
      have hlim := ble_le hc.2
      have hpl : (ps.map fun (i, x) => (i, a.eval x)).toList = ps.toList.map fun x => (x.1, a.eval x.2) := by rw [Array.toList_map]
      have hlz : (ps.toList.map fun x => (x.1 * sizeT P e, sizeT P e, opv P env x.2)).length = (ps.toList.map fun x => (x.1, a.eval x.2)).length ∧ ∀ x ∈ (ps.toList.map fun x => (x.1 * sizeT P e, sizeT P e, opv P env x.2)).zip (ps.toList.map fun x => (x.1, a.eval x.2)),
          (fun i => some (i * sizeT P e, sizeT P e)) x.2.1 = some (x.1.1, x.1.2.1) ∧ VR β x.1.2.2 x.2.2 := by
        refine ⟨by simp, ?_⟩
        generalize ps.toList = l
        induction l with
        | nil => simp
        | cons y l ih =>
          intro x hx
          simp only [List.map_cons, List.zip_cons_cons, List.mem_cons] at hx
          rcases hx with rfl | hx
          · exact ⟨rfl, opv_vr hr he y.2⟩
          · exact ih x hx
      have hzd : zeros (zeroT P e) len ≠ .undef := by
        intro e'
        rw [e'] at h
        have : ∀ l kk, fillK .undef l kk = .err := by
          intro l kk
          induction l with
          | nil => rfl
          | cons q l ih =>
            obtain ⟨a, b, q⟩ := q
            simp only [fillK]
            cases hb : (Nat.beq (Row.len (cellsOf q)) b && Nat.ble (a + b) (Row.len AV.undef)) with
            | false => rfl
            | true => simpa [Row.splice, Row.sub, app_undef_left] using ih
        rw [this] at h
        exact ho h.symm
      obtain ⟨cs, c, f1, f2, f3, f4, f5⟩ := fillK_ok (β := β) (fun i => some (i * sizeT P e, sizeT P e)) [] _ _ (Builtin.zeroCells z.cells len) (ps.toList.map fun x => (x.1, a.eval x.2)) _ (zeros_ok (hv β) hcd len hzd) (mem_zeroCells hzp) hlz h ho
      rw [newK_eq] at f5
      have hlen := f2.length
      have hcl : cs.size = Row.len c := by simpa using hlen
      have hzc : (Array.range (len * sizeT P e)).map (fun x => z.cells[x % z.cells.size]!) = Builtin.zeroCells z.cells len := by simp only [Builtin.zeroCells, hzs]
      refine ⟨.slice len len (sizeT P e), e, c, cs, .slice (some ⟨w.heap.size, 0, none⟩) len len, w.alloc (.cells cs e), fin (Instr.buildSlice t len (ps.map fun (i, x) => (i, a.eval x))) _ _ (by first | (simp [execOp, hop]; done) | (simp [execOp, hop]; rfl)) ?_, ⟨rfl, rfl, rfl⟩,
        by rw [List.take_of_length_le (by simp; omega)]; exact f2, by omega, f3, fun id β' hb => ?_, f5⟩
      · have hnl : ¬ (len * sizeT P e > 2 ^ 24) := by omega
        by_cases h0 : len * sizeT P e = 0
        · have hl0 : len = 0 := by
            rcases Nat.mul_eq_zero.1 h0 with h | h
            · exact h
            · omega
          subst hl0
          have hz0 : Builtin.zeroCells z.cells 0 = #[] := by simp [Builtin.zeroCells]
          rw [hz0] at f1
          simp only [Instr.buildSlice, Sem.run_bind, run_underlying hu, run_sizeOf_pos hpos, Result.andThen_ok, Sem.run_ite, if_neg hnl, Nat.zero_mul, if_true, Sem.run_pure, hpl]
          have hr0 : (Array.range 0).map (fun x => (#[] : Array Value)[x % (#[] : Array Value).size]!) = #[] := by simp
          rw [hr0, f1]
          simp only [newRow, Sem.run_bind, run_newObj_alloc, Result.andThen_ok, Sem.run_pure]
          simp
        · simp only [Instr.buildSlice, Sem.run_bind, run_underlying hu, run_sizeOf_pos hpos, Result.andThen_ok, Sem.run_ite, if_neg hnl, if_neg h0, run_zero hi hz, Sem.run_pure, hpl, hzc, f1]
          simp only [newRow, Sem.run_bind, run_newObj_alloc, Result.andThen_ok, Sem.run_pure]
      · simp only [Mk.at, VR]
        exact ⟨_, _, len, hb, rfl, fun _ => rfl, fun _ => rfl, Nat.le_refl _, Nat.le_refl _, fun h => by simp at h⟩
end
end Go.Ev
