/- The heap; the relation between states and worlds. -/
import Derived.Test.YtneeiakpoohneaaGreatDoorEvS1
import Derived.CallsIn
import Derived.Laws.Sem
import Derived.Laws.Entries
import Derived.Laws.Cells
import Derived.Laws.CopyRow
import Derived.MapKept
set_option linter.all false
namespace Go.Ev

theorem Hp.get_e (k : Nat) : Hp.get .e k = .none := rfl
theorem Hp.get_zero (l r : Hp) (v : Blk) : Hp.get (.n l v r) 0 = v := rfl
theorem Hp.get_odd (l r : Hp) (v : Blk) (k : Nat) (h : k % 2 = 0) : Hp.get (.n l v r) (k + 1) = Hp.get l (k / 2) := by
  show Nat.rec (motive := fun _ => Blk) (Hp.get l (Nat.div k 2)) (fun _ _ => Hp.get r (Nat.div k 2)) (Nat.mod k 2) = _
  have : Nat.mod k 2 = 0 := h
  rw [this]; rfl
theorem Hp.get_even (l r : Hp) (v : Blk) (k : Nat) (h : k % 2 = 1) : Hp.get (.n l v r) (k + 1) = Hp.get r (k / 2) := by
  show Nat.rec (motive := fun _ => Blk) (Hp.get l (Nat.div k 2)) (fun _ _ => Hp.get r (Nat.div k 2)) (Nat.mod k 2) = _
  have : Nat.mod k 2 = 1 := h
  rw [this]; rfl
theorem Hp.set_zero (f : Nat) (v : Blk) (t : Hp) : Hp.set (f + 1) 0 v t = match t with | .e => .n .e v .e | .n l _ r => .n l v r := by cases t <;> rfl
theorem Hp.set_odd (f k : Nat) (v : Blk) (t : Hp) (h : k % 2 = 0) : Hp.set (f + 1) (k + 1) v t = match t with | .e => .n (Hp.set f (k / 2) v .e) .none .e | .n l x r => .n (Hp.set f (k / 2) v l) x r := by
  have h' : Nat.mod k 2 = 0 := h
  cases t <;> (simp only [Hp.set]; rw [h']; rfl)
theorem Hp.set_even (f k : Nat) (v : Blk) (t : Hp) (h : k % 2 = 1) : Hp.set (f + 1) (k + 1) v t = match t with | .e => .n .e .none (Hp.set f (k / 2) v .e) | .n l x r => .n l x (Hp.set f (k / 2) v r) := by
  have h' : Nat.mod k 2 = 1 := h
  cases t <;> (simp only [Hp.set]; rw [h']; rfl)
theorem Hp.get_set : ∀ (f k : Nat) (v : Blk) (t : Hp) (j : Nat), k < f → Hp.get (Hp.set f k v t) j = if j = k then v else Hp.get t j := by
  intro f
  induction f with
  | zero => intro k v t j h; omega
  | succ f ih =>
    intro k v t j h
    cases k with
    | zero =>
      rw [Hp.set_zero]
      cases j with
      | zero => cases t <;> rfl
      | succ j =>
        rw [if_neg (by omega)]
        rcases Nat.mod_two_eq_zero_or_one j with hj | hj
        · cases t <;> simp [Hp.get_odd _ _ _ _ hj, Hp.get_e]
        · cases t <;> simp [Hp.get_even _ _ _ _ hj, Hp.get_e]
    | succ k =>
      rcases Nat.mod_two_eq_zero_or_one k with hk | hk
      · rw [Hp.set_odd _ _ _ _ hk]
        cases j with
        | zero => rw [if_neg (by omega)]; cases t <;> rfl
        | succ j =>
          rcases Nat.mod_two_eq_zero_or_one j with hj | hj
          · have e : (j + 1 = k + 1) ↔ (j / 2 = k / 2) := by omega
            cases t <;> simp only [Hp.get_odd _ _ _ _ hj, ih (k / 2) v _ (j / 2) (by omega), e] <;> simp [Hp.get_e]
          · have e : ¬ (j + 1 = k + 1) := by omega
            rw [if_neg e]
            cases t <;> simp [Hp.get_even _ _ _ _ hj, Hp.get_e]
      · rw [Hp.set_even _ _ _ _ hk]
        cases j with
        | zero => rw [if_neg (by omega)]; cases t <;> rfl
        | succ j =>
          rcases Nat.mod_two_eq_zero_or_one j with hj | hj
          · have e : ¬ (j + 1 = k + 1) := by omega
            rw [if_neg e]
            cases t <;> simp [Hp.get_odd _ _ _ _ hj, Hp.get_e]
          · have e : (j + 1 = k + 1) ↔ (j / 2 = k / 2) := by omega
            cases t <;> simp only [Hp.get_even _ _ _ _ hj, ih (k / 2) v _ (j / 2) (by omega), e] <;> simp [Hp.get_e]
theorem Hp.get_put (h : Hp) (i : Nat) (b : Blk) (j : Nat) : Hp.get (h.put i b) j = if j = i then b else Hp.get h j := Hp.get_set _ _ _ _ _ (Nat.lt_succ_self i)

/-- map entries -/
def MR (β : Bt) : ME → List MapEntry → Prop
  | .nil, l => l = []
  | .cons k v b t, l => ∃ e l', l = e :: l' ∧ VR β k e.key ∧ VR β v e.val ∧ e.born = b ∧ MR β t l'
def ME.borns : ME → List Nat
  | .nil => []
  | .cons _ _ b t => b :: t.borns
/-- all below a clock, and none twice -/
def ME.good (es : ME) (clk : Nat) : Prop := es.borns.Nodup ∧ ∀ b ∈ es.borns, b < clk
/-- keys are plain -/
def plainKey : AV → Bool
  | .int _ _ | .str _ _ | .bool _ => true
  | _ => false

def stR : LSt → LoopState
  | .ready => .ready
  | .busy => .busy
  | .done => .done
  | .exhausted => .exhausted
def jpR : Jp → Option Code
  | .no => none
  | .exit i => some (.exit i)
  | .ret => some .ret

theorem oneC_eq (v : Value) : oneC v = v.oneCell' := by cases v <;> rfl

section
variable (P : Program) (lv : Nat → Nat → Nat → Option (List Tmp))
/-- what a block is -/
def BlkR (β : Bt) (s : St) (w : World) (b : Bp) : Blk → Prop
  | .none => True
  | .dark => True
  | .row t c => ∃ cs t' fr, w.heap[b.blk]? = some (.cells cs t' fr) ∧ cs.size = b.size ∧ b.base + Row.len c ≤ cs.size ∧ RowR β c ((cs.toList.drop b.base).take (Row.len c)) ∧
      (∀ v ∈ cs.toList, oneC v = true) ∧ (fr.2 ≤ fr.1 ∨ (cs.size ≤ fr.1 ∧ isRow (.row t c) = false))
  | .map es clk => ∃ ents, w.heap[b.blk]? = some (.map ents clk) ∧ MR β es ents.toList ∧ es.good clk
  | .sit n p pos => b.base = 0 ∧ ∃ s, w.heap[b.blk]? = some (.stringIter s pos) ∧ s.size = n ∧ packB s.data.toList = p
  | .mit m clk => b.base = 0 ∧ ∃ bm, β m = some bm ∧ w.heap[b.blk]? = some (.mapIter (some bm.blk) clk #[] clk)
  | .mitc m k v => b.base = 0 ∧ m < s.ro ∧ s.blk m ≠ .none ∧ ∃ bm since seen clk ents e, β m = some bm ∧ w.heap[b.blk]? = some (.mapIter (some bm.blk) since seen clk) ∧ w.heap[bm.blk]? = some (.map ents clk) ∧
      seen.back? = some e.born ∧ ents.find? (·.born == e.born) = some e ∧ VR β k e.key ∧ VR β v e.val
  | .loop f key st cap pend => ∃ r L ps asg body fn c, w.heap[b.blk]? = some (.loop r) ∧ lv f key 0 = some L ∧ P.funcs[f]? = some fn ∧ fn.body = some c ∧ findRF key c = some (ps, asg, body) ∧
      r.params = ps ∧ r.assign = asg ∧ r.body = body ∧ r.state = stR st ∧ (st = .done → r.pending = jpR pend ∧ pend ≠ .no) ∧ (st = .ready → r.pending = none) ∧ r.tmps.size = fn.ntmps ∧ cap.length = L.length ∧
      ∀ x ∈ List.zip L cap, VR β x.2 (r.tmps.getD x.1 undef)
structure Rel (β : Bt) (s : St) (w : World) : Prop where
  lt : ∀ i b, β i = some b → i < s.next ∧ b.blk < w.heap.size
  inj : ∀ i j b c, β i = some b → β j = some c → s.blk i ≠ .none → s.blk j ≠ .none → b.blk = c.blk → i = j
  blk : ∀ i b, β i = some b → BlkR P lv β s w b (s.blk i)
  ro : s.ro ≤ s.next
  fresh : ∀ i, s.next ≤ i → s.blk i = .none
  glob : ∀ g, g < P.globals.size → ∃ b, β g = some b ∧ b.blk = g ∧ b.base = 0

/-- what has become of a state and its world -/
structure Tr (β : Bt) (s : St) (w : World) (β' : Bt) (s' : St) (w' : World) : Prop where
  le : BtLe β β'
  late : ∀ i, i < s.next → β i = none → β' i = none ∧ s'.blk i = s.blk i
  size : w.heap.size ≤ w'.heap.size
  next : s.next ≤ s'.next
  ro : s'.ro = s.ro
  old : ∀ i, i < s.ro → s'.blk i = s.blk i
  new : ∀ i b, β' i = some b → β i = some b ∨ w.heap.size ≤ b.blk ∨ ∃ j c, β j = some c ∧ c.blk = b.blk
  frame : ∀ x, x < w.heap.size → (∀ i b, β i = some b → b.blk ≠ x) → w'.heap[x]? = w.heap[x]?
  oldw : ∀ i b, i < s.ro → β i = some b → s.blk i ≠ .none → w'.heap[b.blk]? = w.heap[b.blk]?
  dark : ∀ i b, β i = some b → s.blk i = .dark → s'.blk i = .dark ∧ w'.heap[b.blk]? = w.heap[b.blk]?
  io : w'.os = w.os ∧ w'.output = w.output
end

theorem Tr.refl (β : Bt) (s : St) (w : World) : Tr β s w β s w := ⟨.refl _, fun _ _ h => ⟨h, rfl⟩, Nat.le_refl _, Nat.le_refl _, rfl, fun _ _ => rfl, fun _ _ h => .inl h, fun _ _ _ => rfl, fun _ _ _ _ _ => rfl, fun _ _ _ h => ⟨h, rfl⟩, rfl, rfl⟩
theorem Tr.trans {β β' β'' : Bt} {s s' s'' : St} {w w' w'' : World} (h : Tr β s w β' s' w') (h' : Tr β' s' w' β'' s'' w'') : Tr β s w β'' s'' w'' where
  le := h.le.trans h'.le
  late i hi hb := by
    obtain ⟨h1, h2⟩ := h.late i hi hb
    obtain ⟨h3, h4⟩ := h'.late i (Nat.lt_of_lt_of_le hi h.next) h1
    exact ⟨h3, h4.trans h2⟩
  size := Nat.le_trans h.size h'.size
  next := Nat.le_trans h.next h'.next
  ro := h'.ro.trans h.ro
  old i hi := (h'.old i (by rw [h.ro]; exact hi)).trans (h.old i hi)
  new i b hb := by
    rcases h'.new i b hb with g | g | ⟨j, c, g1, g2⟩
    · exact h.new i b g
    · exact .inr (.inl (Nat.le_trans h.size g))
    · rcases h.new j c g1 with k | k | ⟨j', c', k1, k2⟩
      · exact .inr (.inr ⟨j, c, k, g2⟩)
      · exact .inr (.inl (by rw [← g2]; exact k))
      · exact .inr (.inr ⟨j', c', k1, k2.trans g2⟩)
  frame x hx hn := by
    rw [h'.frame x (Nat.lt_of_lt_of_le hx h.size) (fun i b hb => ?_), h.frame x hx hn]
    rcases h.new i b hb with g | g | ⟨j, c, g1, g2⟩
    · exact hn i b g
    · intro e; subst e; exact absurd hx (Nat.not_lt.2 g)
    · rw [← g2]; exact hn j c g1
  oldw i b h1 h2 h3 := by rw [h'.oldw i b (by rw [h.ro]; exact h1) (h.le _ _ h2) (by rw [h.old i h1]; exact h3), h.oldw i b h1 h2 h3]
  dark i b hb hd := by
    obtain ⟨g1, g2⟩ := h.dark i b hb hd
    obtain ⟨g3, g4⟩ := h'.dark i b (h.le _ _ hb) g1
    exact ⟨g3, g4.trans g2⟩
  io := ⟨h'.io.1.trans h.io.1, h'.io.2.trans h.io.2⟩

section
variable {P : Program} {lv : Nat → Nat → Nat → Option (List Tmp)} {β : Bt} {s : St} {w : World}
/-- a block that is as it was, in a state that knows no less of it -/
theorem MR.mono {β β' : Bt} (hle : BtLe β β') : ∀ {es : ME} {l : List MapEntry}, MR β es l → MR β' es l
  | .nil, _, h => h
  | .cons _ _ _ _, _, h => by
    obtain ⟨e, l', rfl, h1, h2, h3, h4⟩ := h
    exact ⟨e, l', rfl, h1.mono hle, h2.mono hle, h3, MR.mono hle h4⟩
theorem BlkR.mono {β' : Bt} {s' : St} {w' : World} {b : Bp} {B : Blk} (hle : BtLe β β') (hh : w'.heap[b.blk]? = w.heap[b.blk]?)
    (hm : ∀ m k v bm, B = .mitc m k v → β m = some bm → m < s.ro → s.blk m ≠ .none → m < s'.ro ∧ s'.blk m ≠ .none ∧ w'.heap[bm.blk]? = w.heap[bm.blk]?)
    (h : BlkR P lv β s w b B) : BlkR P lv β' s' w' b B := by
  cases B with
  | none => trivial
  | dark => trivial
  | row t c =>
    obtain ⟨cs, t', fr, h1, h2, h3, h4, h5, h6⟩ := h
    exact ⟨cs, t', fr, hh.trans h1, h2, h3, h4.mono hle, h5, h6⟩
  | map es clk =>
    obtain ⟨ents, h1, h2, h3⟩ := h
    exact ⟨ents, hh.trans h1, h2.mono hle, h3⟩
  | sit n p pos =>
    obtain ⟨h0, t, h1, h2⟩ := h
    exact ⟨h0, t, hh.trans h1, h2⟩
  | mit m clk =>
    obtain ⟨h0, bm, h1, h2⟩ := h
    exact ⟨h0, bm, hle _ _ h1, hh.trans h2⟩
  | mitc m k v =>
    obtain ⟨hz, h0, h0', bm, since, seen, clk, ents, e, h1, h2, h3, h4, h5, h6, h7⟩ := h
    obtain ⟨g1, g2, g3⟩ := hm m k v bm rfl h1 h0 h0'
    exact ⟨hz, g1, g2, bm, since, seen, clk, ents, e, hle _ _ h1, hh.trans h2, g3.trans h3, h4, h5, h6.mono hle, h7.mono hle⟩
  | loop f key st cap pend =>
    obtain ⟨r, L, ps, asg, body, fn, c, h1, h2⟩ := h
    obtain ⟨g1, g2, g3, g4, g6, g7, g8, g9, g10, g11, g12, g13, g14⟩ := h2
    exact ⟨r, L, ps, asg, body, fn, c, hh.trans h1, g1, g2, g3, g4, g6, g7, g8, g9, g10, g11, g12, g13, fun x hx => (g14 x hx).mono hle⟩

/-- only the heap is looked at -/
theorem Rel.heap {w' : World} (h : Rel P lv β s w) (hh : w'.heap = w.heap) : Rel P lv β s w' where
  lt i b hb := by rw [hh]; exact h.lt i b hb
  inj := h.inj
  blk i b hb := (h.blk i b hb).mono (.refl _) (by rw [hh]) (fun m k v bm _ _ h1 h2 => ⟨h1, h2, by rw [hh]⟩)
  ro := h.ro
  fresh := h.fresh
  glob := h.glob
theorem Tr.heap {β' : Bt} {s' : St} {w' w'' : World} (h : Tr β s w β' s' w') (hh : w''.heap = w'.heap) (hio : w''.os = w'.os ∧ w''.output = w'.output := by exact ⟨rfl, rfl⟩) : Tr β s w β' s' w'' :=
  ⟨h.le, h.late, by rw [hh]; exact h.size, h.next, h.ro, h.old, h.new, fun x hx hn => by rw [hh]; exact h.frame x hx hn, fun i b h1 h2 h3 => by rw [hh]; exact h.oldw i b h1 h2 h3, fun i b hb hd => by rw [hh]; exact h.dark i b hb hd, hio.1.trans h.io.1, hio.2.trans h.io.2⟩

theorem St.blk_mk (h : Hp) (n ro i : Nat) : St.blk ⟨h, n, ro⟩ i = h.get i := rfl
theorem St.blk_eq (s : St) (i : Nat) : s.blk i = s.heap.get i := by cases s; rfl
noncomputable def St.put (s : St) (i : Nat) (b : Blk) : St := ⟨s.heap.put i b, s.next, s.ro⟩
noncomputable def St.new (s : St) (b : Blk) : St := ⟨s.heap.put s.next b, s.next + 1, s.ro⟩
theorem St.blk_put (s : St) (i : Nat) (b : Blk) (j : Nat) : (s.put i b).blk j = if j = i then b else s.blk j := by
  simp only [St.blk_eq, St.put, Hp.get_put]
theorem St.blk_new (s : St) (b : Blk) (j : Nat) : (s.new b).blk j = if j = s.next then b else s.blk j := by
  simp only [St.blk_eq, St.new, Hp.get_put]
theorem putK_eq (s : St) (i : Nat) (b : Blk) (k : St → Out) : putK s i b k = if i < s.ro then .err else k (s.put i b) := by
  cases s with | mk h n ro =>
  simp only [putK, St.put]
  by_cases hi : i < ro
  · have : Nat.blt i ro = true := Nat.ble_eq_true_of_le hi
    simp [this, hi]
  · have : Nat.blt i ro = false := by
      cases hb : Nat.blt i ro with
      | false => rfl
      | true => exact absurd (Nat.le_of_ble_eq_true hb) hi
    simp [this, hi]
theorem newK_eq (s : St) (b : Blk) (k : Nat → St → Out) : newK s b k = k s.next (s.new b) := by cases s; rfl

/-- a live block is changed -/
theorem Rel.put {w' : World} {i : Nat} {b : Bp} {B : Blk} (h : Rel P lv β s w) (hb : β i = some b) (hro : s.ro ≤ i) (hl' : s.blk i ≠ .none ∧ s.blk i ≠ .dark)
    (hs : w'.heap.size = w.heap.size) (ho : ∀ x, x ≠ b.blk → w'.heap[x]? = w.heap[x]?) (hB : BlkR P lv β (s.put i B) w' b B) (hio : w'.os = w.os ∧ w'.output = w.output := by exact ⟨rfl, rfl⟩) :
    Rel P lv β (s.put i B) w' ∧ Tr β s w β (s.put i B) w' := by
  have hl := hl'.1
  refine ⟨⟨fun j c hc => ?_, fun j k c d hc hd hj hk he => ?_, fun j c hc => ?_, h.ro, fun j hj => ?_, h.glob⟩, .refl _, fun j hj hn => ⟨hn, ?_⟩, by rw [hs]; exact Nat.le_refl _, Nat.le_refl _, rfl, fun j hj => ?_, fun _ _ h => .inl h, fun x _ hx => ho x (fun e => hx i b hb e.symm), fun j c hj hc hn => ho _ (fun e => absurd (h.inj j i c b hc hb hn hl e) (Nat.ne_of_lt (Nat.lt_of_lt_of_le hj hro))), fun j c hc hd => by
    have hji : j ≠ i := fun e => by subst e; exact hl'.2 hd
    exact ⟨by rw [St.blk_put, if_neg hji]; exact hd, ho _ (fun e => hji (h.inj j i c b hc hb (by rw [hd]; simp) hl e))⟩, hio⟩
  · rw [hs]; exact h.lt j c hc
  · have hx : ∀ j, (s.put i B).blk j ≠ .none → s.blk j ≠ .none := by
      intro j hj
      rw [St.blk_put] at hj
      split at hj
      · rename_i he; subst he; exact hl
      · exact hj
    exact h.inj j k c d hc hd (hx j hj) (hx k hk) he
  · rw [St.blk_put]
    by_cases hj : j = i
    · subst hj
      rw [if_pos rfl]
      rw [hb] at hc; cases hc
      exact hB
    · rw [if_neg hj]
      have hbl := h.blk j c hc
      by_cases hn : s.blk j = .none
      · rw [hn]; trivial
      · have hne : c.blk ≠ b.blk := fun he => hj (h.inj j i c b hc hb hn hl he)
        refine hbl.mono (.refl _) (ho _ hne) (fun m k v bm _ hm hmr hmn => ?_)
        have hmi : m ≠ i := fun he => by subst he; exact absurd hmr (Nat.not_lt.2 hro)
        refine ⟨hmr, ?_, ho _ (fun he => hmi (h.inj m i bm b hm hb hmn hl he))⟩
        rw [St.blk_put, if_neg hmi]; exact hmn
  · rw [St.blk_put, if_neg (fun he => by subst he; exact absurd (h.lt _ b hb).1 (Nat.not_lt.2 hj))]
    exact h.fresh j hj
  · rw [St.blk_put, if_neg]
    intro he; subst he; rw [hn] at hb; cases hb
  · rw [St.blk_put, if_neg]
    intro he; subst he; exact absurd hj (Nat.not_lt.2 hro)

def Bt.add (β : Bt) (i : Nat) (b : Bp) : Bt := fun j => if j = i then some b else β j
theorem Bt.le_add {i : Nat} {b : Bp} (h : β i = none) : BtLe β (β.add i b) := by
  intro j c hc
  have : j ≠ i := fun he => by subst he; rw [h] at hc; cases hc
  simp [Bt.add, this, hc]
theorem Bt.add_self (i : Nat) (b : Bp) : β.add i b i = some b := by simp [Bt.add]
theorem Rel.none_next (h : Rel P lv β s w) {i : Nat} (hi : s.next ≤ i) : β i = none := by
  cases hb : β i with
  | none => rfl
  | some b => exact absurd (h.lt i b hb).1 (Nat.not_lt.2 hi)

/-- a new block of the world's for an id of the state's that has none -/
theorem Rel.addOld {w' : World} {i : Nat} {b : Bp} (h : Rel P lv β s w) (hi : i < s.next) (hn : β i = none) (hb : b.blk = w.heap.size)
    (hs : w'.heap.size = w.heap.size + 1) (ho : ∀ x, x < w.heap.size → w'.heap[x]? = w.heap[x]?) (hB : BlkR P lv (β.add i b) s w' b (s.blk i)) :
    Rel P lv (β.add i b) s w' := by
  refine ⟨fun j c hc => ?_, fun j k c d hc hd hj hk he => ?_, fun j c hc => ?_, h.ro, h.fresh, fun g hg => ?_⟩
  · simp only [Bt.add] at hc
    split at hc
    · cases hc; rename_i he; subst he; exact ⟨hi, by rw [hb, hs]; omega⟩
    · have := h.lt j c hc; exact ⟨this.1, by rw [hs]; omega⟩
  · simp only [Bt.add] at hc hd
    split at hc
    · split at hd
      · simp_all
      · cases hc
        have := (h.lt k d hd).2
        omega
    · split at hd
      · cases hd
        have := (h.lt j c hc).2
        omega
      · exact h.inj j k c d hc hd hj hk he
  · simp only [Bt.add] at hc
    split at hc
    · cases hc; rename_i he; subst he; exact hB
    · refine (h.blk j c hc).mono (Bt.le_add hn) (ho _ (h.lt j c hc).2) (fun m k v bm _ hm h1 h2 => ⟨h1, h2, ho _ (h.lt m bm hm).2⟩)
  · obtain ⟨c, hc, h1, h2⟩ := h.glob g hg
    exact ⟨c, Bt.le_add hn _ _ hc, h1, h2⟩
/-- a new id -/
theorem Rel.newId (h : Rel P lv β s w) (B : Blk) : Rel P lv β (s.new B) w ∧ Tr β s w β (s.new B) w := by
  have hne : ∀ j c, β j = some c → j ≠ s.next := fun j c hc he => by subst he; exact Nat.lt_irrefl _ (h.lt _ c hc).1
  have hbl : ∀ j c, β j = some c → (s.new B).blk j = s.blk j := fun j c hc => by rw [St.blk_new, if_neg (hne j c hc)]
  refine ⟨⟨fun j c hc => ⟨Nat.lt_succ_of_lt (h.lt j c hc).1, (h.lt j c hc).2⟩, fun j k c d hc hd hj hk he => ?_, fun j c hc => ?_, Nat.le_succ_of_le h.ro, fun j hj => ?_, h.glob⟩, .refl _, fun j hj hn => ⟨hn, ?_⟩, Nat.le_refl _, Nat.le_succ _, rfl, fun j hj => ?_, fun _ _ h => .inl h, fun _ _ _ => rfl, fun _ _ _ _ _ => rfl, fun j c hc hd => ⟨(hbl j c hc).trans hd, rfl⟩, rfl, rfl⟩
  · rw [hbl j c hc] at hj; rw [hbl k d hd] at hk; exact h.inj j k c d hc hd hj hk he
  · rw [hbl j c hc]
    exact BlkR.mono (s := s) (.refl _) rfl (fun m k v bm _ hm h1 h2 => ⟨h1, by rw [hbl m bm hm]; exact h2, rfl⟩) (h.blk j c hc)
  · have hj : s.next + 1 ≤ j := hj
    rw [St.blk_new, if_neg (by omega)]; exact h.fresh j (by omega)
  · rw [St.blk_new, if_neg (Nat.ne_of_lt hj)]
  · rw [St.blk_new]
    rw [if_neg]; intro he; subst he; exact absurd hj (Nat.not_lt.2 h.ro)
/-- a new id with a new block -/
theorem Rel.new {w' : World} {b : Bp} {B : Blk} (h : Rel P lv β s w) (hb : b.blk = w.heap.size)
    (hs : w'.heap.size = w.heap.size + 1) (ho : ∀ x, x < w.heap.size → w'.heap[x]? = w.heap[x]?) (hB : BlkR P lv (β.add s.next b) (s.new B) w' b B) (hio : w'.os = w.os ∧ w'.output = w.output := by exact ⟨rfl, rfl⟩) :
    Rel P lv (β.add s.next b) (s.new B) w' ∧ Tr β s w (β.add s.next b) (s.new B) w' := by
  obtain ⟨h1, h2⟩ := h.newId B
  have hn : β s.next = none := h.none_next (Nat.le_refl _)
  refine ⟨h1.addOld (Nat.lt_succ_self _) hn hb hs ho (by rw [St.blk_new, if_pos rfl]; exact hB), Bt.le_add hn, fun i hi hi' => ⟨?_, (h2.late i hi hi').2⟩, by rw [hs]; omega, h2.next, rfl, h2.old, fun i c hc => ?_, fun x hx _ => ho x hx, fun i c _ hc _ => ho _ (h.lt i c hc).2, fun i c hc hd => ⟨(h2.dark i c hc hd).1, ho _ (h.lt i c hc).2⟩, hio⟩
  · simp [Bt.add, Nat.ne_of_lt hi, hi']
  · simp only [Bt.add] at hc
    split at hc
    · cases hc; exact .inr (.inl (by rw [hb]; exact Nat.le_refl _))
    · exact .inl hc
end
end Go.Ev
