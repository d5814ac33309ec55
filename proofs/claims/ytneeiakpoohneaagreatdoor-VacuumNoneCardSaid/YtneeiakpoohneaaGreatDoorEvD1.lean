/- Operations that float: what they look at, what they give. -/
import Derived.Test.YtneeiakpoohneaaGreatDoorEvM
import Derived.OrdersIn
set_option linter.all false
set_option linter.unusedSimpArgs false
set_option linter.unusedVariables false
namespace Go.Ev
section
variable {P : Program} {lv : Nat → Nat → Nat → Option (List Tmp)} {call : Call} {n : Nat} {out : Out}

theorem opv_congr {e e' : Env} {x : Operand} (h : ∀ t, x = .tmp t → e t = e' t) : opv P e x = opv P e' x := by
  cases x with
  | tmp t => exact h t rfl
  | _ => rfl
/-- only what is looked at matters -/
theorem evOp_congr {o : Op} {e e' : Env} {s : St} {k : AV → St → Out} (h : ∀ t, Operand.tmp t ∈ o.operands → e t = e' t) : evOp P call o s e k = evOp P call o s e' k := by
  have hx : ∀ x, x ∈ o.operands → opv P e x = opv P e' x := fun x hx => opv_congr fun t ht => h t (by rw [← ht]; exact hx)
  have hm : ∀ l : List Operand, (∀ x ∈ l, x ∈ o.operands) → l.map (opv P e) = l.map (opv P e') := fun l hl => List.map_congr_left fun x hxl => hx x (hl x hxl)
  have hp : ∀ {γ : Type} (l : List (Nat × Operand)) (f : Nat × Operand → AV → γ), (∀ x ∈ l, x.2 ∈ o.operands) → l.map (fun x => f x (opv P e x.2)) = l.map (fun x => f x (opv P e' x.2)) := fun l f hl => List.map_congr_left fun x hxl => by rw [hx x.2 (hl x hxl)]
  have ho : ∀ x : Option Operand, (∀ y, x = some y → y ∈ o.operands) → x.map (opv P e) = x.map (opv P e') := fun x hl => by
    cases x with
    | none => rfl
    | some y => simp only [Option.map_some]; rw [hx y (hl y rfl)]
  cases o <;> simp only [Op.operands] at hx hm hp ho
  case move x | assign x | box _ x | load _ x | nilCheck x | unOp _ _ x | convert _ _ x | sliceToArrayPointer _ x | makeInterface _ x | makeChan _ x | fieldAddr _ x _ | field _ x _ | range _ x | entry x | typeAssert x _ _ _ | extract x _ | panic x | recv _ x _ =>
    simp only [evOp, hx x (by simp)]
  case next x b => cases b <;> simp only [evOp, hx x (by simp)]
  case alloc t => rfl
  case ready => rfl
  case waits => rfl
  case pick c a b => simp only [evOp, hx c (by simp), hx a (by simp), hx b (by simp)]
  case store _ a v | binOp _ _ a v _ | makeSlice _ a v | indexAddr _ a v | index _ a v | lookup _ a v _ | mapEntry _ a v | send a v => simp only [evOp, hx a (by simp), hx v (by simp)]
  case mapUpdate _ m k v | entryStore _ m k v | insert _ m k v => simp only [evOp, hx m (by simp), hx k (by simp), hx v (by simp)]
  case makeFunc f a b =>
    simp only [evOp]
    cases f with
    | func f => simp only; rw [hm a.toList (fun x hx => by simp at hx ⊢; exact .inl hx), hm b.toList (fun x hx => by simp at hx ⊢; exact .inr hx)]
    | _ => rfl
  case makeMap t r => cases r <;> rfl
  case build t ps =>
    have hps : ∀ x ∈ ps.toList, x.2 ∈ (ps.toList.map (·.2)).toArray := fun x hx => by simp only [List.mem_toArray, List.mem_map]; exact ⟨x, hx, rfl⟩
    simp only [evOp]
    cases und P t with
    | struct fs => simp only; rw [hp ps.toList (fun x y => ((fs.getD x.1 default).offset, sizeT P (fs.getD x.1 default).type, y)) hps]
    | array m el => simp only; rw [hp ps.toList (fun x y => (x.1 * sizeT P el, sizeT P el, y)) hps]
    | _ => rfl
  case buildSlice t len ps =>
    have hps : ∀ x ∈ ps.toList, x.2 ∈ (ps.toList.map (·.2)).toArray := fun x hx => by simp only [List.mem_toArray, List.mem_map]; exact ⟨x, hx, rfl⟩
    simp only [evOp]
    cases und P t with
    | slice el => simp only; rw [hp ps.toList (fun x y => (x.1 * sizeT P el, sizeT P el, y)) hps]
    | _ => rfl
  case slice t x l hh m =>
    simp only [evOp]
    rw [hx x (by simp), ho l (fun y hy => by subst hy; simp), ho hh (fun y hy => by subst hy; simp), ho m (fun y hy => by subst hy; simp)]
  case call c =>
    simp only [evOp]
    rw [hm c.args.toList (fun x hx => by simp [Call.operands]; exact .inr (by simpa using hx))]
    cases hcal : c.callee with
    | builtin b => rfl
    | value f => cases f <;> simp only <;> first | rfl | (rw [hx _ (by simp [Call.operands, hcal])])
    | invoke r nm => simp only; rw [hx r (by simp [Call.operands, hcal])]
  case go c => rfl
  case defer c => rfl
  case select cs b => rfl

/-- s2 knows all that s knows -/
def Ext (s s2 : St) : Prop := ∀ i, s.blk i ≠ .none → s2.blk i = s.blk i
theorem Ext.refl (s : St) : Ext s s := fun _ _ => rfl
theorem Ext.new {s : St} (hf : ∀ i, s.next ≤ i → s.blk i = .none) (B : Blk) : Ext s (s.new B) := fun i hi => by
  rw [St.blk_new, if_neg]
  intro e; subst e; exact hi (hf _ (Nat.le_refl _))
theorem Ext.trans {s s2 s3 : St} (h : Ext s s2) (h' : Ext s2 s3) : Ext s s3 := fun i hi => by rw [h' i (by rw [h i hi]; exact hi), h i hi]

section
variable {s : St} {e : Env} {k : AV → St → Out}
/-- a step that gives one value -/
def Gives (S : St → Prop) (f : St → (AV → St → Out) → Out) (v : AV) : Prop := ∀ s2, S s2 → ∀ k2, f s2 k2 = k2 v s2

theorem of_match_err {α : Type} {x : Out} (h : x = out) (ho : out ≠ .err) (hx : x = .err) : False := ho (h.symm.trans hx)
end

/- each step hands on one value, whatever comes behind -/
def Step1 (f : (AV → Out) → Out) : Prop := ∀ (k : AV → Out) (out : Out), f k = out → out ≠ .err → ∃ v, k v = out ∧ ∀ k2, f k2 = k2 v
theorem Step1.pick (c a b : AV) : Step1 (pickK c a b) := by
  intro k out h ho
  unfold pickK at h ⊢
  split at h
  · exact ⟨_, h, fun _ => rfl⟩
  · exact ⟨_, h, fun _ => rfl⟩
  · exact absurd h.symm ho
theorem Step1.defK (x : AV) : Step1 (Ev.defK x) := by
  intro k out h ho
  obtain ⟨h1, h2⟩ := defK_ok h ho
  refine ⟨x, h2, fun k2 => ?_⟩
  cases x <;> first | rfl | exact absurd rfl h1
theorem Step1.fill (l : List (Nat × Nat × AV)) : ∀ c, Step1 (fillK c l) := by
  induction l with
  | nil =>
    intro c k out h ho
    exact Step1.defK _ k out h ho
  | cons x l ih =>
    obtain ⟨o, m, x⟩ := x
    intro c k out h ho
    simp only [fillK] at h ⊢
    obtain ⟨h1, h2⟩ := of_bif h ho
    obtain ⟨v, g1, g2⟩ := ih _ k out h2 ho
    refine ⟨v, g1, fun k2 => ?_⟩
    rw [h1]
    exact g2 k2
theorem Step1.nil (x : AV) : Step1 (nilK x) := by
  intro k out h ho
  cases x <;> simp only [nilK] at h ⊢ <;> first | exact absurd h.symm ho | exact ⟨_, h, fun _ => rfl⟩
theorem Step1.field (m : Nat) (x : AV) : Step1 (fieldK m x) := by
  intro k out h ho
  cases x <;> simp only [fieldK] at h ⊢ <;> first | exact absurd h.symm ho | exact ⟨_, h, fun _ => rfl⟩
theorem Step1.part (f : TF) (c : AV) (m : Nat) : Step1 (partK f c m) := by
  intro k out h ho
  unfold partK at h ⊢
  cases hf : f.agg <;> rw [hf] at h <;> simp only at h ⊢
  · exact Step1.defK _ k out h ho
  · obtain ⟨h1, h2⟩ := of_bif h ho
    rw [h1]
    exact Step1.defK _ k out h2 ho
theorem Step1.idx (m : Nat) (i : AV) {g : Nat → (AV → Out) → Out} (hg : ∀ i, Step1 (g i)) : Step1 fun k => idxK m i fun j => g j k := by
  intro k out h ho
  simp only [idxK] at h ⊢
  obtain ⟨j, n, rfl, h1⟩ := natK_ok h ho
  obtain ⟨h2, h3⟩ := of_bif h1 ho
  obtain ⟨v, g1, g2⟩ := hg _ k out h3 ho
  exact ⟨v, g1, fun k2 => by simp only [natK]; rw [h2]; exact g2 k2⟩
theorem Step1.ret (v : AV) : Step1 fun k => k v := fun k out h _ => ⟨v, h, fun _ => rfl⟩
theorem Step1.ptr (x : AV) {g : Nat → Nat → (AV → Out) → Out} (hg : ∀ i o, Step1 (g i o)) : Step1 fun k => ptrK x fun i o => g i o k := by
  intro k out h ho
  obtain ⟨i, o, rfl, h1⟩ := ptrK_ok h ho
  exact hg i o k out h1 ho
theorem Step1.nat (x : AV) {g : Nat → (AV → Out) → Out} (hg : ∀ i, Step1 (g i)) : Step1 fun k => natK x fun i => g i k := by
  intro k out h ho
  obtain ⟨j, i, rfl, h1⟩ := natK_ok h ho
  exact hg i k out h1 ho
theorem Step1.int (x : AV) {g : IntKind → Int → (AV → Out) → Out} (hg : ∀ i o, Step1 (g i o)) : Step1 fun k => intK x fun i o => g i o k := by
  intro k out h ho
  obtain ⟨i, o, rfl, h1⟩ := intK_ok h ho
  exact hg i o k out h1 ho
theorem Step1.bool (x : AV) {g : Bool → (AV → Out) → Out} (hg : ∀ i, Step1 (g i)) : Step1 fun k => boolK x fun i => g i k := by
  intro k out h ho
  obtain ⟨i, rfl, h1⟩ := boolK_ok h ho
  exact hg i k out h1 ho
theorem Step1.bif (c : Bool) {g : (AV → Out) → Out} (hg : Step1 g) : Step1 fun k => bif c then g k else .err := by
  intro k out h ho
  obtain ⟨h1, h2⟩ := of_bif h ho
  obtain ⟨v, g1, g2⟩ := hg k out h2 ho
  exact ⟨v, g1, fun k2 => by rw [h1]; exact g2 k2⟩
theorem Step1.err : Step1 fun _ => .err := fun k out h ho => absurd h.symm ho
theorem Step1.indexArr (m sz : Nat) (x i : AV) : Step1 (indexArrK m sz x i) := Step1.ptr x fun id o => Step1.idx m i fun j => Step1.ret _
theorem Step1.indexSl (sz : Nat) (x i : AV) : Step1 (indexSlK sz x i) := by
  cases x <;> first | exact Step1.err | exact Step1.bif _ (Step1.idx _ _ fun _ => Step1.ret _)
theorem Step1.indexStr (x i : AV) : Step1 (indexStrK x i) := by
  cases x <;> first | exact Step1.err | exact Step1.idx _ _ fun _ => Step1.ret _
theorem Step1.indexVal (m : Nat) (f : TF) (x i : AV) : Step1 (indexValK m f x i) := Step1.idx m i fun j => Step1.part _ _ _
theorem Step1.extract (x : AV) (i : Nat) : Step1 (extractK x i) := by
  cases x <;> first | exact Step1.err | exact Step1.bif _ (Step1.ret _)
theorem Step1.bin (op : BinOp) (x y : AV) : Step1 (binK op x y) := by
  refine Step1.int x fun j a => Step1.int y fun i b => ?_
  cases op
  case shl | shr => cases b <;> first | exact Step1.err | exact Step1.ret _
  case quo | rem =>
    cases b with
    | ofNat b => cases b with
      | zero => exact Step1.err
      | succ b => exact Step1.bif _ (Step1.ret _)
    | negSucc b => exact Step1.bif _ (Step1.ret _)
  all_goals exact Step1.bif _ (Step1.ret _)
theorem Step1.not (x : AV) : Step1 (notK x) := Step1.bool x fun _ => Step1.ret _
theorem Step1.neg (x : AV) : Step1 (negK x) := Step1.int x fun _ _ => Step1.ret _
theorem Step1.inv (x : AV) : Step1 (invK x) := Step1.int x fun _ _ => Step1.ret _
theorem Step1.conv (j : IntKind) (x : AV) : Step1 (convK j x) := Step1.int x fun _ _ => Step1.ret _
theorem Step1.min (x y : AV) : Step1 (minK x y) := Step1.int x fun _ _ => Step1.int y fun _ _ => Step1.ret _
theorem Step1.max (x y : AV) : Step1 (maxK x y) := Step1.int x fun _ _ => Step1.int y fun _ _ => Step1.ret _
theorem Step1.bnd (v : Option AV) (df lim : Nat) {g : Nat → (AV → Out) → Out} (hg : ∀ i, Step1 (g i)) : Step1 fun k => bndK v df lim fun i => g i k := by
  cases v with
  | none => exact hg df
  | some x => exact Step1.nat x fun i => Step1.bif _ (hg i)
theorem Step1.bnds (lo hi mx : Option AV) (len cap : Nat) {g : Nat → Nat → Nat → (AV → Out) → Out} (hg : ∀ l h m, Step1 (g l h m)) : Step1 fun k => bndsK lo hi mx len cap fun l h m => g l h m k :=
  Step1.bnd _ _ _ fun m => Step1.bnd _ _ _ fun h => Step1.bnd _ _ _ fun l => hg l h m
theorem Step1.sliceSl (sz : Nat) (lo hi mx : Option AV) (x : AV) : Step1 (sliceSlK sz lo hi mx x) := by
  cases x <;> first
    | exact Step1.err
    | exact Step1.bif _ (Step1.bnds _ _ _ _ _ fun _ _ _ => Step1.bif _ (Step1.ret _))
    | exact Step1.bnds _ _ _ _ _ fun _ _ _ => Step1.ret _
theorem Step1.sliceStr (lo hi : Option AV) (x : AV) : Step1 (sliceStrK lo hi x) := by
  cases x <;> first | exact Step1.err | exact Step1.bnds _ _ _ _ _ fun _ _ _ => Step1.ret _
theorem Step1.sliceArr (m sz : Nat) (lo hi mx : Option AV) (x : AV) : Step1 (sliceArrK m sz lo hi mx x) := Step1.ptr x fun _ _ => Step1.bnds _ _ _ _ _ fun _ _ _ => Step1.bif _ (Step1.ret _)
theorem Step1.s2ap (m sz : Nat) (x : AV) : Step1 (s2apK m sz x) := by
  cases x <;> first | exact Step1.err | exact Step1.bif _ (Step1.ret _)
theorem Step1.lenSl (x : AV) : Step1 fun k => lenSlK x fun n => k (goInt n) := by
  cases x <;> first | exact Step1.err | exact Step1.ret _
theorem Step1.lenStr (x : AV) : Step1 fun k => lenStrK x fun n => k (goInt n) := by
  cases x <;> first | exact Step1.err | exact Step1.ret _
theorem Step1.cap (x : AV) : Step1 (capK x) := by
  cases x <;> first | exact Step1.err | exact Step1.ret _ | skip
  rename_i a b c d e op
  cases op <;> first | exact Step1.err | exact Step1.ret _

def PureR (P : Program) (call : Call) (o : Op) (e : Env) : Prop := ∀ (s : St) (k : AV → St → Out) (out : Out), evOp P call o s e k = out → out ≠ .err → ∃ v, k v s = out ∧ ∀ s2 k2, evOp P call o s2 e k2 = k2 v s2
theorem PureR.of {o : Op} {e : Env} (f : (AV → Out) → Out) (hf : Step1 f) (h : ∀ s k, evOp P call o s e k = f fun v => k v s) : PureR P call o e := by
  intro s k out h1 ho
  rw [h] at h1
  obtain ⟨v, g1, g2⟩ := hf _ out h1 ho
  exact ⟨v, g1, fun s2 k2 => by rw [h]; exact g2 _⟩
theorem PureR.err {o : Op} {e : Env} (h : ∀ s k, evOp P call o s e k = .err) : PureR P call o e := PureR.of (fun _ => .err) Step1.err h
theorem pureR {o : Op} (e : Env) (h : pureOp P o = true) : PureR P call o e := by
  cases o <;> simp only [pureOp, reduceCtorEq] at h
  case move x => exact PureR.of _ (Step1.ret (opv P e x)) fun _ _ => rfl
  case assign x => exact PureR.of _ (Step1.ret (opv P e x)) fun _ _ => rfl
  case pick c a b => exact PureR.of _ (Step1.pick _ _ _) fun _ _ => rfl
  case build t ps =>
    cases hu : und P t with
    | struct fs => exact PureR.of _ (Step1.bif _ (Step1.fill _ _)) fun s k => by simp only [evOp, hu] <;> rfl
    | array m el => exact PureR.of _ (Step1.bif _ (Step1.fill _ _)) fun s k => by simp only [evOp, hu] <;> rfl
    | _ => exact PureR.err fun s k => by simp only [evOp, hu]
  case nilCheck x => exact PureR.of _ (Step1.nil _) fun _ _ => rfl
  case binOp op t x y z =>
    cases hu : und P t <;> rw [hu] at h <;> try cases h
    exact PureR.of _ (Step1.bin _ _ _) fun s k => by simp only [evOp, hu] <;> rfl
  case unOp op t x =>
    cases op
    case not => exact PureR.of _ (Step1.not _) fun _ _ => rfl
    case neg => exact PureR.of _ (Step1.neg _) fun _ _ => rfl
    case xor => exact PureR.of _ (Step1.inv _) fun _ _ => rfl
    all_goals exact PureR.err fun _ _ => rfl
  case convert a b x =>
    cases hu : und P a <;> rw [hu] at h <;> try cases h
    cases hv : und P b <;> rw [hv] at h <;> try cases h
    exact PureR.of _ (Step1.conv _ _) fun s k => by simp only [evOp, hu, hv] <;> rfl
  case sliceToArrayPointer t x =>
    cases hu : und P t with
    | array m el => exact PureR.of _ (Step1.s2ap _ _ _) fun s k => by simp only [evOp, hu] <;> rfl
    | _ => exact PureR.err fun s k => by simp only [evOp, hu]
  case makeInterface t x =>
    cases hu : und P t with
    | pointer el => exact PureR.of _ (Step1.ret _) fun s k => by simp only [evOp, hu] <;> rfl
    | _ => exact PureR.err fun s k => by simp only [evOp, hu]
  case makeFunc f a c =>
    cases f with
    | func f => exact PureR.of _ (Step1.ret _) fun _ _ => rfl
    | _ => exact PureR.err fun _ _ => rfl
  case slice t x lo hi mx =>
    cases hm : (mx.isSome && hi.isNone) with
    | true => exact PureR.err fun s k => by simp only [evOp, hm, cond_true]
    | false =>
      cases hu : und P t with
      | array m el => exact PureR.of _ (Step1.bif _ (Step1.sliceArr _ _ _ _ _ _)) fun s k => by simp only [evOp, hm, cond_false, hu] <;> rfl
      | slice el => exact PureR.of _ (Step1.bif _ (Step1.sliceSl _ _ _ _ _)) fun s k => by simp only [evOp, hm, cond_false, hu] <;> rfl
      | string => exact PureR.of _ (Step1.bif _ (Step1.sliceStr _ _ _)) fun s k => by simp only [evOp, hm, cond_false, hu] <;> rfl
      | _ => exact PureR.err fun s k => by simp only [evOp, hm, cond_false, hu]
  case fieldAddr t x f =>
    cases hu : und P t with
    | struct fs =>
      cases hf : fs[f]? with
      | some fd => exact PureR.of _ (Step1.bif _ (Step1.field _ _)) fun s k => by simp only [evOp, hu, hf] <;> rfl
      | none => exact PureR.err fun s k => by simp only [evOp, hu, hf]
    | _ => exact PureR.err fun s k => by simp only [evOp, hu]
  case field t x f =>
    cases hu : und P t with
    | struct fs =>
      cases hf : fs[f]? with
      | some fd => exact PureR.of _ (Step1.bif _ (Step1.part _ _ _)) fun s k => by simp only [evOp, hu, hf] <;> rfl
      | none => exact PureR.err fun s k => by simp only [evOp, hu, hf]
    | _ => exact PureR.err fun s k => by simp only [evOp, hu]
  case indexAddr t x i =>
    cases hu : und P t with
    | array m el => exact PureR.of _ (Step1.bif _ (Step1.indexArr _ _ _ _)) fun s k => by simp only [evOp, hu] <;> rfl
    | slice el => exact PureR.of _ (Step1.bif _ (Step1.indexSl _ _ _)) fun s k => by simp only [evOp, hu] <;> rfl
    | _ => exact PureR.err fun s k => by simp only [evOp, hu]
  case index t x i =>
    cases hu : und P t with
    | array m el => exact PureR.of _ (Step1.bif _ (Step1.indexVal _ _ _ _)) fun s k => by simp only [evOp, hu] <;> rfl
    | string => exact PureR.of _ (Step1.indexStr _ _) fun s k => by simp only [evOp, hu] <;> rfl
    | _ => exact PureR.err fun s k => by simp only [evOp, hu]
  case extract t i => exact PureR.of _ (Step1.extract _ _) fun _ _ => rfl
  case call c =>
    cases hcal : c.callee <;> rw [hcal] at h <;> try cases h
    rename_i b
    cases hz : Nat.beq c.argTypes.size c.args.size with
    | false => exact PureR.err fun s k => by simp only [evOp, hcal, hz, cond_false]
    | true =>
    cases b <;> simp only [reduceCtorEq] at h
    case len =>
      cases hl : c.args.toList.map (opv P e) with
      | nil => exact PureR.err fun s k => by simp only [evOp, hcal, hz, cond_true, hl]; rfl
      | cons x l => cases l with
        | cons y l => exact PureR.err fun s k => by simp only [evOp, hcal, hz, cond_true, hl]; rfl
        | nil =>
          cases hu : und P (c.argTypes.getD 0 0) with
          | map _ _ => rw [hu] at h; cases h
          | array m el => exact PureR.of _ (Step1.ret _) fun s k => by simp only [evOp, hcal, hz, cond_true, hl, evBuiltin, hu] <;> rfl
          | slice el => exact PureR.of _ (Step1.lenSl x) fun s k => by simp only [evOp, hcal, hz, cond_true, hl, evBuiltin, hu] <;> rfl
          | string => exact PureR.of _ (Step1.lenStr x) fun s k => by simp only [evOp, hcal, hz, cond_true, hl, evBuiltin, hu] <;> rfl
          | _ => exact PureR.err fun s k => by simp only [evOp, hcal, hz, cond_true, hl, evBuiltin, hu]
    case cap =>
      cases hl : c.args.toList.map (opv P e) with
      | nil => exact PureR.err fun s k => by simp only [evOp, hcal, hz, cond_true, hl]; rfl
      | cons x l => cases l with
        | cons y l => exact PureR.err fun s k => by simp only [evOp, hcal, hz, cond_true, hl]; rfl
        | nil =>
          cases hu : und P (c.argTypes.getD 0 0) with
          | slice el => exact PureR.of _ (Step1.cap x) fun s k => by simp only [evOp, hcal, hz, cond_true, hl, evBuiltin, hu] <;> rfl
          | _ => exact PureR.err fun s k => by simp only [evOp, hcal, hz, cond_true, hl, evBuiltin, hu]
    case min =>
      cases hl : c.args.toList.map (opv P e) with
      | nil => exact PureR.err fun s k => by simp only [evOp, hcal, hz, cond_true, hl]; rfl
      | cons x l => cases l with
        | nil => exact PureR.err fun s k => by simp only [evOp, hcal, hz, cond_true, hl]; rfl
        | cons y l => cases l with
          | nil => exact PureR.of _ (Step1.min x y) fun s k => by simp only [evOp, hcal, hz, cond_true, hl, evBuiltin] <;> rfl
          | cons z l => exact PureR.err fun s k => by simp only [evOp, hcal, hz, cond_true, hl]; rfl
    case max =>
      cases hl : c.args.toList.map (opv P e) with
      | nil => exact PureR.err fun s k => by simp only [evOp, hcal, hz, cond_true, hl]; rfl
      | cons x l => cases l with
        | nil => exact PureR.err fun s k => by simp only [evOp, hcal, hz, cond_true, hl]; rfl
        | cons y l => cases l with
          | nil => exact PureR.of _ (Step1.max x y) fun s k => by simp only [evOp, hcal, hz, cond_true, hl, evBuiltin] <;> rfl
          | cons z l => exact PureR.err fun s k => by simp only [evOp, hcal, hz, cond_true, hl]; rfl
end
end Go.Ev
