/- Addresses, numbers, strings. -/
import Derived.Test.YtneeiakpoohneaaGreatDoorEvS4
import Derived.Laws.Strings
set_option linter.all false
set_option linter.unusedSimpArgs false
set_option linter.unusedVariables false
namespace Go.Ev

/- strings as numbers -/
theorem packB_lt : ∀ l : List UInt8, packB l < 256 ^ l.length
  | [] => by simp [packB]
  | x :: l => by
    have h1 := packB_lt l
    have h2 := x.toNat_lt
    simp only [packB, List.length_cons, Nat.pow_succ]
    have : 256 * packB l ≤ 256 * (256 ^ l.length - 1) := Nat.mul_le_mul_left _ (by omega)
    have h3 : 0 < 256 ^ l.length := Nat.pow_pos (by omega)
    rw [Nat.mul_sub] at this
    have : 256 * 256 ^ l.length ≥ 256 := Nat.le_mul_of_pos_right _ h3
    omega
theorem packB_cells : ∀ l : List UInt8, bcells l.length (packB l) = l.map fun b => .int .u8 (Int.ofNat b.toNat)
  | [] => rfl
  | x :: l => by
    have h2 := x.toNat_lt
    simp only [packB, List.length_cons, bcells, List.map_cons]
    have h3 : (x.toNat + 256 * packB l) % 256 = x.toNat := by rw [Nat.add_mul_mod_self_left]; exact Nat.mod_eq_of_lt h2
    have h4 : (x.toNat + 256 * packB l) / 256 = packB l := by rw [Nat.add_mul_div_left _ _ (by omega : 0 < 256), Nat.div_eq_of_lt h2, Nat.zero_add]
    rw [h3, h4, packB_cells l]
theorem packB_inj {l m : List UInt8} (hl : l.length = m.length) (h : packB l = packB m) : l = m := by
  have h1 := packB_cells l
  have h2 := packB_cells m
  rw [hl, h, h2] at h1
  have := List.map_inj_right (f := fun b : UInt8 => Value.int .u8 (Int.ofNat b.toNat)) (fun x y hxy => by
    simp only [Value.int.injEq, true_and] at hxy
    exact UInt8.toNat.inj (Int.ofNat.inj hxy)) |>.1 h1
  exact this.symm
theorem packB_get : ∀ (l : List UInt8) (i : Nat) (h : i < l.length), bget (packB l) i = (l[i]).toNat
  | [], _, h => by simp at h
  | x :: l, 0, _ => by
    have h2 := x.toNat_lt
    simp only [bget_eq, packB, Nat.pow_zero, Nat.div_one, List.getElem_cons_zero]
    rw [Nat.add_mul_mod_self_left]; exact Nat.mod_eq_of_lt h2
  | x :: l, i + 1, h => by
    have h2 := x.toNat_lt
    have ih := packB_get l i (by simpa using h)
    simp only [bget_eq, packB, List.getElem_cons_succ] at ih ⊢
    rw [Nat.pow_succ', ← Nat.div_div_eq_div_mul]
    rw [Nat.add_mul_div_left _ _ (by omega : 0 < 256), Nat.div_eq_of_lt h2, Nat.zero_add]
    exact ih
theorem packB_app : ∀ l m : List UInt8, packB (l ++ m) = packB l + packB m * 256 ^ l.length
  | [], m => by simp [packB]
  | x :: l, m => by
    simp only [List.cons_append, packB, packB_app l m, List.length_cons, Nat.pow_succ]
    rw [Nat.mul_add, Nat.add_assoc, Nat.mul_comm (256 ^ l.length) 256, Nat.mul_left_comm]
theorem packB_drop : ∀ (l : List UInt8) (k : Nat), packB (l.drop k) = packB l / 256 ^ k
  | [], k => by simp [packB]
  | x :: l, 0 => by simp
  | x :: l, k + 1 => by
    have h2 := x.toNat_lt
    simp only [List.drop_succ_cons, packB_drop l k, packB]
    rw [Nat.pow_succ', ← Nat.div_div_eq_div_mul, Nat.add_mul_div_left _ _ (by omega : 0 < 256), Nat.div_eq_of_lt h2, Nat.zero_add]
theorem packB_take : ∀ (l : List UInt8) (k : Nat), packB (l.take k) = packB l % 256 ^ k
  | [], k => by simp [packB]
  | x :: l, 0 => by simp [packB, Nat.mod_one]
  | x :: l, k + 1 => by
    have h2 := x.toNat_lt
    simp only [List.take_succ_cons, packB_take l k, packB]
    rw [Nat.pow_succ', Nat.mod_mul, Nat.add_mul_mod_self_left, Nat.mod_eq_of_lt h2, Nat.add_mul_div_left _ _ (by omega : 0 < 256), Nat.div_eq_of_lt h2, Nat.zero_add]
theorem size_data (s : ByteArray) : s.size = s.data.toList.length := rfl
theorem shl_pow (q n : Nat) : q <<< (8 * n) = q * 256 ^ n := by rw [Nat.shiftLeft_eq, pow256]
theorem shr_pow (q n : Nat) : q >>> (8 * n) = q / 256 ^ n := by rw [Nat.shiftRight_eq_div_pow, pow256]

section
variable {P : Program} {lv : Nat → Nat → Nat → Option (List Tmp)} {β : Bt} {s : St} {w : World} {out : Out}

theorem fieldK_ok {off : Nat} {x : AV} {k : AV → Out} (h : fieldK off x k = out) (ho : out ≠ .err) : ∃ i o, x = .ptr i o ∧ k (.ptr i (o + off)) = out := by
  cases x <;> simp only [fieldK] at h <;> first | exact ⟨_, _, rfl, h⟩ | exact absurd h.symm ho
theorem run_sizeOf_pos {t : TypeId} (h : 0 < sizeT P t) : (sizeOf t).run P w = .ok (sizeT P t) w := by
  unfold sizeT Program.cellsOf at *
  cases hi : P.info? t with
  | none => rw [hi] at h; simp at h
  | some i => simp [sizeOf, typeInfo, hi]
theorem fieldAddr_ok {t : TypeId} {fs : Array Field} {f : Nat} {fd : Field} {x : AV} {v : Value} {k : AV → Out} (ht : P.underlying t = some (.struct fs)) (hf : fs[f]? = some fd) (hs : 0 < sizeT P fd.type)
    (hx : VR β x v) (h : fieldK fd.offset x k = out) (ho : out ≠ .err) : ∃ v' x', (Instr.fieldAt t v f).run P w = .ok v' w ∧ VR β x' v' ∧ k x' = out := by
  obtain ⟨i, o, rfl, h⟩ := fieldK_ok h ho
  simp only [VR] at hx
  obtain ⟨b, hb, rfl⟩ := hx
  refine ⟨.pointer (some ⟨b.blk, b.base + (o + fd.offset), none⟩), _, ?_, by simp only [VR]; exact ⟨b, hb, rfl⟩, h⟩
  have hne : sizeT P fd.type ≠ 0 := by omega
  simp only [Instr.fieldAt, Sem.run_bind, Result.andThen_ok, run_underlying ht, hf, Instr.sureAddr, Sem.run_pure, fieldPlace, run_sizeOf_pos hs, if_neg hne, Addr.add_plain, Nat.add_assoc]
theorem idxK_ok {n : Nat} {i : AV} {k : Nat → Out} (h : idxK n i k = out) (ho : out ≠ .err) : ∃ j m, i = .int j (Int.ofNat m) ∧ m < n ∧ k m = out := by
  obtain ⟨j, m, rfl, h⟩ := natK_ok h ho
  obtain ⟨h1, h⟩ := of_bif h ho
  exact ⟨j, m, rfl, blt_lt h1, h⟩
theorem indexArr_ok {t e : TypeId} {n : Nat} {x i : AV} {v vi : Value} {k : AV → Out} (ht : P.underlying t = some (.array n e)) (hs : 0 < sizeT P e)
    (hx : VR β x v) (hi : VR β i vi) (h : indexArrK n (sizeT P e) x i k = out) (ho : out ≠ .err) : ∃ v' x', (Instr.indexAt t v vi).run P w = .ok v' w ∧ VR β x' v' ∧ k x' = out := by
  obtain ⟨id, o, rfl, h⟩ := ptrK_ok h ho
  obtain ⟨j, m, rfl, hm, h⟩ := idxK_ok h ho
  simp only [VR] at hx hi
  obtain ⟨b, hb, rfl⟩ := hx
  subst hi
  refine ⟨.pointer (some ⟨b.blk, b.base + (o + m * sizeT P e), none⟩), _, ?_, by simp only [VR]; exact ⟨b, hb, rfl⟩, h⟩
  have h2 : (0 : Int) ≤ Int.ofNat m ∧ (Int.ofNat m : Int) < (n : Int) := ⟨Int.natCast_nonneg _, by simpa using hm⟩
  simp only [Instr.indexAt, asIntOf, Sem.run_bind, Sem.run_pure, Result.andThen_ok, run_underlying ht, Instr.sureAddr, Sem.run_ite, if_pos h2, run_sizeOf_pos hs]
  simp [Addr.add_plain, Nat.add_assoc]
theorem indexSl_ok {t e : TypeId} {x i : AV} {v vi : Value} {k : AV → Out} (ht : P.underlying t = some (.slice e)) (hs : 0 < sizeT P e)
    (hx : VR β x v) (hi : VR β i vi) (h : indexSlK (sizeT P e) x i k = out) (ho : out ≠ .err) : ∃ v' x', (Instr.indexAt t v vi).run P w = .ok v' w ∧ VR β x' v' ∧ k x' = out := by
  cases x <;> simp only [indexSlK] at h <;> try exact absurd h.symm ho
  rename_i id o n cap sz op
  obtain ⟨h1, h⟩ := of_bif h ho
  have h1 := beq_eq h1
  obtain ⟨j, m, rfl, hm, h⟩ := idxK_ok h ho
  simp only [VR] at hx hi
  obtain ⟨b, a, c, hb, rfl, h3, h4, h5, h6, h7⟩ := hx
  subst hi
  have hc : c ≠ 0 := by omega
  have ha := h3 hc
  subst ha
  refine ⟨.pointer (some ⟨b.blk, b.base + (o + m * sizeT P e), none⟩), _, ?_, by simp only [VR]; exact ⟨b, hb, rfl⟩, h⟩
  have h2 : (0 : Int) ≤ Int.ofNat m ∧ (Int.ofNat m : Int) < (n : Int) := ⟨Int.natCast_nonneg _, by simpa using hm⟩
  simp only [Instr.indexAt, asIntOf, Sem.run_bind, Sem.run_pure, Result.andThen_ok, run_underlying ht, Sem.run_ite, if_pos h2, run_sizeOf_pos hs]
  simp [Addr.add_plain, Nat.add_assoc]
theorem indexStr_ok {t : TypeId} {x i : AV} {v vi : Value} {k : AV → Out} (ht : P.underlying t = some .string)
    (hx : VR β x v) (hi : VR β i vi) (h : indexStrK x i k = out) (ho : out ≠ .err) : ∃ v' x', (Instr.index t v vi).run P w = .ok v' w ∧ VR β x' v' ∧ k x' = out := by
  cases x <;> simp only [indexStrK] at h <;> try exact absurd h.symm ho
  rename_i n p
  obtain ⟨j, m, rfl, hm, h⟩ := idxK_ok h ho
  simp only [VR] at hx hi
  obtain ⟨s, rfl, h1, h2⟩ := hx
  subst hi
  have hlt : m < s.size := by omega
  have hlt' : m < s.data.toList.length := by rw [← size_data]; exact hlt
  have hg := packB_get s.data.toList m hlt'
  rw [h2] at hg
  refine ⟨.int .u8 (Int.ofNat (s[m]'hlt).toNat), _, ?_, ?_, h⟩
  · have h0 : (0 : Int) ≤ Int.ofNat m := Int.natCast_nonneg _
    simp only [Instr.index, asIntOf, Sem.run_bind, Sem.run_pure, Result.andThen_ok, run_underlying ht, if_pos h0]
    have : (Int.ofNat m).toNat = m := rfl
    rw [this]
    have hsm : s[m]? = some (s[m]'hlt) := getElem?_pos s m hlt
    simp [hsm]
  · simp only [b8, VR, hg]
    simp [ByteArray.getElem_eq_getElem_data]
theorem indexVal_ok {t e : TypeId} {n : Nat} {x i : AV} {v vi : Value} {k : AV → Out} (ht : P.underlying t = some (.array n e)) (he : tyOk P e = true)
    (hx : VR β x v) (hi : VR β i vi) (h : indexValK n (tf P e) x i k = out) (ho : out ≠ .err) : ∃ v' x', (Instr.index t v vi).run P w = .ok v' w ∧ VR β x' v' ∧ k x' = out := by
  obtain ⟨j, m, rfl, hm, h⟩ := idxK_ok h ho
  simp only [VR] at hi
  subst hi
  have hcs : ∃ cs : Array Value, v = .agg cs ∧ RowR β x cs.toList ∧ ∀ u ∈ cs.toList, oneC u = true := by
    cases x <;> simp only [VR] at hx
    case cells l => obtain ⟨a, rfl, h1, h2⟩ := hx; exact ⟨a, rfl, by simpa only [RowR] using h2, h1⟩
    case bytes l p => obtain ⟨a, rfl, h1, h2⟩ := hx; exact ⟨a, rfl, by simp only [RowR]; exact ⟨h1, h2⟩, by rw [h2]; exact bcells_one _ _⟩
    all_goals
      exfalso
      simp only [partK, Row.sub, Row.nth, defK] at h
      split at h
      · exact ho (by have := of_bif h ho; exact this.2.symm)
      · exact ho h.symm
  obtain ⟨cs, rfl, hr, hp⟩ := hcs
  have hlen := hr.length
  have hlen' : cs.size = Row.len x := by simpa using hlen
  obtain ⟨h1, x', h2, h3⟩ := partK_ok (base := 0) (cs := cs) he (by omega) (by rw [List.drop_zero, List.take_of_length_le (by simp; omega)]; exact hr) hp h ho
  refine ⟨_, x', ?_, h3, h2⟩
  have h4 : (0 : Int) ≤ Int.ofNat m ∧ (Int.ofNat m : Int) < (n : Int) := ⟨Int.natCast_nonneg _, by simpa using hm⟩
  obtain ⟨d, hd⟩ := tyOk_under he
  simp only [Instr.index, asIntOf, Sem.run_bind, Sem.run_pure, Result.andThen_ok, run_underlying ht, Sem.run_ite, if_pos h4, run_sizeOf' hd]
  have : (Int.ofNat m).toNat = m := rfl
  rw [this]
  simp only [Nat.zero_add] at h1 ⊢
  exact run_part_at he h1
theorem field_ok {t : TypeId} {fs : Array Field} {f : Nat} {fd : Field} {x : AV} {v : Value} {k : AV → Out} (ht : P.underlying t = some (.struct fs)) (hf : fs[f]? = some fd) (he : tyOk P fd.type = true)
    (hx : VR β x v) (h : partK (tf P fd.type) x fd.offset k = out) (ho : out ≠ .err) : ∃ v' x', (Instr.field t v f).run P w = .ok v' w ∧ VR β x' v' ∧ k x' = out := by
  have hcs : ∃ cs : Array Value, v = .agg cs ∧ RowR β x cs.toList ∧ ∀ u ∈ cs.toList, oneC u = true := by
    cases x <;> simp only [VR] at hx
    case cells l => obtain ⟨a, rfl, h1, h2⟩ := hx; exact ⟨a, rfl, by simpa only [RowR] using h2, h1⟩
    case bytes l p => obtain ⟨a, rfl, h1, h2⟩ := hx; exact ⟨a, rfl, by simp only [RowR]; exact ⟨h1, h2⟩, by rw [h2]; exact bcells_one _ _⟩
    all_goals
      exfalso
      simp only [partK, Row.sub, Row.nth, defK] at h
      split at h
      · exact ho (by have := of_bif h ho; exact this.2.symm)
      · exact ho h.symm
  obtain ⟨cs, rfl, hr, hp⟩ := hcs
  have hlen := hr.length
  have hlen' : cs.size = Row.len x := by simpa using hlen
  obtain ⟨h1, x', h2, h3⟩ := partK_ok (base := 0) (cs := cs) he (by omega) (by rw [List.drop_zero, List.take_of_length_le (by simp; omega)]; exact hr) hp h ho
  refine ⟨_, x', ?_, h3, h2⟩
  simp only [Nat.zero_add] at h1 ⊢
  simp only [Instr.field, Sem.run_bind, Result.andThen_ok, run_underlying ht, hf, asAgg, Sem.run_pure]
  exact run_part_at he h1
theorem LR.get {l : List AV} {vs : List Value} (h : LR β l vs) {i : Nat} (hi : i < l.length) : ∃ v, vs[i]? = some v ∧ VR β (l.getD i .undef) v := by
  have hl := h.length
  have := h.getD i undef
  refine ⟨vs[i]'(by omega), by simp [hl, hi], ?_⟩
  simpa [hl, hi] using this
theorem extract_ok {x : AV} {v : Value} {i : Nat} {k : AV → Out} (hx : VR β x v) (h : extractK x i k = out) (ho : out ≠ .err) : ∃ v' x', (Instr.extract v i).run P w = .ok v' w ∧ VR β x' v' ∧ k x' = out := by
  cases x <;> simp only [extractK] at h <;> try exact absurd h.symm ho
  rename_i l
  obtain ⟨h1, h⟩ := of_bif h ho
  have h1 := blt_lt h1
  rw [lenL_eq] at h1
  rw [nthL_eq] at h
  simp only [VR] at hx
  obtain ⟨a, rfl, hl⟩ := hx
  obtain ⟨v', hv, hr⟩ := hl.get h1
  refine ⟨v', _, ?_, hr, h⟩
  have hv' : a[i]? = some v' := by simpa using hv
  simp [Instr.extract, hv']
end
end Go.Ev
