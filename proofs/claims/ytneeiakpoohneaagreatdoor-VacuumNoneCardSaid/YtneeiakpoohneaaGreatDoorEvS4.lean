/- New blocks, composite values, addresses, numbers. -/
import Derived.Test.YtneeiakpoohneaaGreatDoorEvS3
set_option linter.all false
set_option linter.unusedSimpArgs false
set_option linter.unusedVariables false
namespace Go.Ev
section
variable {P : Program} {lv : Nat → Nat → Nat → Option (List Tmp)} {β : Bt} {s : St} {w : World} {out : Out}

theorem Rel.newRow {c : AV} {cs : Array Value} {t : TypeId} {fr : Nat × Nat} {w' : World} (hr : Rel P lv β s w) (hh : w'.heap = w.heap.push (.cells cs t fr))
    (hc : RowR β c (cs.toList.take (Row.len c))) (hl : Row.len c ≤ cs.size) (hp : ∀ v ∈ cs.toList, oneC v = true) (hfr : fr.2 ≤ fr.1 ∨ (cs.size ≤ fr.1 ∧ isRow (.row t c) = false)) (hio : w'.os = w.os ∧ w'.output = w.output := by exact ⟨rfl, rfl⟩) :
    Rel P lv (β.add s.next ⟨w.heap.size, 0, cs.size⟩) (s.new (.row t c)) w' ∧ Tr β s w (β.add s.next ⟨w.heap.size, 0, cs.size⟩) (s.new (.row t c)) w' := by
  have hn : β s.next = none := hr.none_next (Nat.le_refl _)
  refine hr.new rfl (by rw [hh]; simp) (fun x hx => by rw [hh, Array.getElem?_push, if_neg (by omega)]) ?_ hio
  refine ⟨cs, t, fr, by rw [hh]; simp, rfl, by simpa using hl, ?_, hp, hfr⟩
  rw [List.drop_zero]
  exact hc.mono (Bt.le_add hn)
theorem VR.ptrNew {b : Bp} {i : Nat} (hb : b.base = 0) : VR (β.add i b) (.ptr i 0) (.pointer (some ⟨b.blk, 0, none⟩)) := by
  simp only [VR]
  exact ⟨b, Bt.add_self _ _, by rw [hb]⟩

/- the program's own values -/
theorem ofFlat_vr (v : Value) : VR β (ofFlat v) v := by
  unfold ofFlat
  split <;> simp [VR]
theorem ofFlats_lr : ∀ l : List Value, LR β (l.map ofFlat) l
  | [] => by simp [LR]
  | v :: l => by simp only [List.map_cons, LR]; exact ⟨v, l, rfl, ofFlat_vr v, ofFlats_lr l⟩
theorem ofValue_vr (v : Value) : VR β (ofValue v) v := by
  cases v with
  | agg cs =>
    simp only [ofValue]
    cases hp : cs.toList.all oneC with
    | false => simp [VR]
    | true =>
      simp only [cond_true]
      by_cases hd : Row.norm (.cells (cs.toList.map ofFlat)) = .undef
      · rw [hd]; simp [VR]
      · have h1 : RowR β (.cells (cs.toList.map ofFlat)) cs.toList := by simp only [RowR]; exact ofFlats_lr _
        have := (h1.norm hd).vr (List.all_eq_true.1 hp)
        simpa using this
  | _ => simp only [ofValue]; exact ofFlat_vr _
theorem zeroT_vr {t : TypeId} (h : zeroT P t ≠ .undef) : ∃ i z, P.info? t = some i ∧ i.zero = some z ∧ VR β (zeroT P t) z := by
  unfold zeroT at h ⊢
  cases hi : P.info? t with
  | none => rw [hi] at h; exact absurd rfl h
  | some i =>
    rw [hi] at h
    cases hz : i.zero with
    | none => simp only [hz] at h; exact absurd rfl h
    | some z => exact ⟨i, z, rfl, hz, by simp only [hz]; exact ofValue_vr z⟩
theorem run_zero {t : TypeId} {i : TypeInfo} {z : Value} (hi : P.info? t = some i) (hz : i.zero = some z) : (zeroValue t).run P w = .ok z w := by
  simp [zeroValue, typeInfo, hi, hz]
theorem cellsOf_undef {x : AV} (h : x = .undef) : cellsOf x = .undef := by subst h; rfl

theorem allocK_ok {t : TypeId} {k : AV → St → Out} (hr : Rel P lv β s w) (hd : isDef (Row.norm (cellsOf (zeroT P t))) = true) (h : allocK s t (Row.norm (cellsOf (zeroT P t))) k = out) (old : Value) :
    ∃ v x β' s' w', (Instr.alloc t true old).run P w = .ok v w' ∧ Rel P lv β' s' w' ∧ Tr β s w β' s' w' ∧ VR β' x v ∧ k x s' = out := by
  have hd' : Row.norm (cellsOf (zeroT P t)) ≠ .undef := fun e => by rw [e] at hd; cases hd
  have hd2 : cellsOf (zeroT P t) ≠ .undef := fun e => by rw [e] at hd'; exact hd' rfl
  have hd3 : zeroT P t ≠ .undef := fun e => hd2 (cellsOf_undef e)
  obtain ⟨i, z, hi, hz, hv⟩ := zeroT_vr (β := β) hd3
  have hrow := (hv.cells hd2).norm hd'
  have hlen := hrow.length
  simp only [allocK, newK_eq] at h
  have hsz : z.cells.size = Row.len (Row.norm (cellsOf (zeroT P t))) := by simpa using hlen
  obtain ⟨r1, r2⟩ := hr.newRow (w' := { w with heap := w.heap.push (.cells z.cells t (0, 0)) }) (c := Row.norm (cellsOf (zeroT P t))) (cs := z.cells) (t := t) (fr := (0, 0)) rfl (by rw [List.take_of_length_le (by simp; omega)]; exact hrow) (by omega) (hv.plain hd2) (.inl (Nat.le_refl _))
  refine ⟨_, _, _, _, _, ?_, r1, r2, VR.ptrNew rfl, h⟩
  simp [Instr.alloc, run_zero hi hz, newVar, newRow]
theorem boxK_ok {t : TypeId} {n : Nat} {x : AV} {v : Value} {k : AV → St → Out} (hr : Rel P lv β s w) (hx : VR β x v) (h : boxK s t n x k = out) (ho : out ≠ .err) :
    ∃ v' x' β' s' w', (Instr.box t v).run P w = .ok v' w' ∧ Rel P lv β' s' w' ∧ Tr β s w β' s' w' ∧ VR β' x' v' ∧ k x' s' = out := by
  obtain ⟨hd', h⟩ := defK_ok h ho
  obtain ⟨_, h⟩ := of_bif h ho
  have hd2 : cellsOf x ≠ .undef := fun e => by rw [e] at hd'; exact hd' rfl
  have hrow := (hx.cells hd2).norm hd'
  have hlen := hrow.length
  rw [newK_eq] at h
  have hsz : v.cells.size = Row.len (Row.norm (cellsOf x)) := by simpa using hlen
  obtain ⟨r1, r2⟩ := hr.newRow (w' := { w with heap := w.heap.push (.cells v.cells t (0, 0)) }) (c := Row.norm (cellsOf x)) (cs := v.cells) (t := t) (fr := (0, 0)) rfl (by rw [List.take_of_length_le (by simp; omega)]; exact hrow) (by omega) (hx.plain hd2) (.inl (Nat.le_refl _))
  refine ⟨_, _, _, _, _, ?_, r1, r2, VR.ptrNew rfl, h⟩
  simp [Instr.box, newVar, newRow]

/- composite values -/
theorem foldl_set (vs : List Value) : ∀ (l : List Value) (j : Nat) (cs : Array Value), vs.drop j = l → True := fun _ _ _ _ => trivial
theorem zipIdx_fold : ∀ (l : List Value) (off j : Nat) (cs : List Value), off + j + l.length ≤ cs.length →
    ((l.zipIdx j).foldl (fun (a : Array Value) (x : Value × Nat) => a.setIfInBounds (off + x.2) x.1) cs.toArray).toList = cs.take (off + j) ++ l ++ cs.drop (off + j + l.length)
  | [], off, j, cs, _ => by simp
  | v :: l, off, j, cs, h => by
    simp only [List.zipIdx_cons, List.foldl_cons, List.setIfInBounds_toArray]
    rw [zipIdx_fold l off (j + 1) (cs.set (off + j) v) (by simp at h ⊢; omega)]
    have e := list_seg_step cs (off + j) v l (by simp at h ⊢; omega)
    simpa [Nat.add_assoc] using e
theorem fold_cells (c : Array Value) (off : Nat) (cs : Array Value) (h : off + c.size ≤ cs.size) :
    (c.zipIdx.foldl (fun (a : Array Value) (x : Value × Nat) => a.setIfInBounds (off + x.2) x.1) cs).toList = cs.toList.take off ++ c.toList ++ cs.toList.drop (off + c.size) := by
  have := zipIdx_fold c.toList off 0 cs.toList (by simpa using h)
  rw [Array.toArray_toList] at this
  rw [← Array.foldl_toList]
  simpa using this
theorem fillK_ok (place : Nat → Option (Nat × Nat)) : ∀ (ps : List (Nat × Operand)) (l : List (Nat × Nat × AV)) (c : AV) (cs : Array Value) (vs : List (Nat × Value)) (k : AV → Out),
    RowR β c cs.toList → (∀ v ∈ cs.toList, oneC v = true) →
    (l.length = vs.length ∧ ∀ x ∈ l.zip vs, place x.2.1 = some (x.1.1, x.1.2.1) ∧ VR β x.1.2.2 x.2.2) → fillK c l k = out → out ≠ .err →
    ∃ cs' x, Instr.fill place cs vs = some cs' ∧ RowR β x cs'.toList ∧ (∀ v ∈ cs'.toList, oneC v = true) ∧ cs'.size = cs.size ∧ k x = out := by
  intro ps l
  induction l with
  | nil =>
    intro c cs vs k hc hp hl h ho
    obtain ⟨hl, _⟩ := hl
    cases vs with
    | cons _ _ => simp at hl
    | nil =>
      simp only [fillK] at h
      obtain ⟨h1, h2⟩ := defK_ok h ho
      exact ⟨cs, _, rfl, hc.norm h1, hp, rfl, h2⟩
  | cons y l ih =>
    intro c cs vs k hc hp hl h ho
    obtain ⟨hl, hz⟩ := hl
    cases vs with
    | nil => simp at hl
    | cons v vs =>
      obtain ⟨off, n, x⟩ := y
      obtain ⟨i, v⟩ := v
      have hz0 := hz ((off, n, x), (i, v)) (by simp)
      simp only at hz0
      obtain ⟨hpl, hv⟩ := hz0
      simp only [fillK] at h
      obtain ⟨h1, h⟩ := of_bif h ho
      simp only [Bool.and_eq_true] at h1
      have h2 := beq_eq h1.1
      have h3 := ble_le h1.2
      have hlen := hc.length
      have hlen' : cs.size = Row.len c := by simpa using hlen
      have hcu : cellsOf x ≠ .undef := by
        intro hu
        rw [hu] at h
        simp only [Row.splice] at h
        rw [app_undef_left, app_undef_right] at h
        have : ∀ l, fillK .undef l k = .err := by
          intro l
          induction l with
          | nil => rfl
          | cons z l ih =>
            obtain ⟨a, b, z⟩ := z
            simp only [fillK]
            cases hb : (Nat.beq (Row.len (cellsOf z)) b && Nat.ble (a + b) (Row.len AV.undef)) with
            | false => rfl
            | true => simpa [Row.splice, Row.sub, app_undef_left] using ih
        rw [this] at h
        exact ho h.symm
      have hxr := hv.cells hcu
      have hvs : v.cells.size = n := by have := hxr.length; simp at this; omega
      have hsd : Row.splice c off (cellsOf x) ≠ .undef := by
        intro hu
        rw [hu] at h
        have : ∀ l, fillK .undef l k = .err := by
          intro l
          induction l with
          | nil => rfl
          | cons z l ih =>
            obtain ⟨a, b, z⟩ := z
            simp only [fillK]
            cases hb : (Nat.beq (Row.len (cellsOf z)) b && Nat.ble (a + b) (Row.len AV.undef)) with
            | false => rfl
            | true => simpa [Row.splice, Row.sub, app_undef_left] using ih
        rw [this] at h
        exact ho h.symm
      obtain ⟨g1, g2⟩ := splice_ok hc hxr (by omega) hsd
      have hf := fold_cells v.cells off cs (by omega)
      have g1' : RowR β (Row.splice c off (cellsOf x)) (v.cells.zipIdx.foldl (fun (a : Array Value) (x : Value × Nat) => a.setIfInBounds (off + x.2) x.1) cs).toList := by
        rw [hf]; simpa using g1
      obtain ⟨cs', x', r1, r2, r3, r4, r5⟩ := ih _ _ vs k g1' (by
        intro u hu
        rw [hf] at hu
        simp only [List.mem_append] at hu
        rcases hu with (hu | hu) | hu
        · exact hp u (List.mem_of_mem_take hu)
        · exact hv.plain hcu u hu
        · exact hp u (List.mem_of_mem_drop hu)) ⟨by simpa using hl, fun q hq => hz q (by simp [hq])⟩ h ho
      refine ⟨cs', x', ?_, r2, r3, ?_, r5⟩
      · simp only [Instr.fill, hpl]
        rw [if_neg]
        · exact r1
        · simp [hvs]; omega
      · rw [r4]
        have := congrArg List.length hf
        simp only [Array.length_toList, List.length_append, List.length_take, List.length_drop] at this
        omega
end
end Go.Ev
