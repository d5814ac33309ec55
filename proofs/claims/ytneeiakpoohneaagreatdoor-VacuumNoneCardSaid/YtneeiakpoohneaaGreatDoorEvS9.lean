/- append, copy, make, bytes and strings: as operations. -/
import Derived.Test.YtneeiakpoohneaaGreatDoorEvS8
set_option linter.all false
set_option linter.unusedSimpArgs false
set_option linter.unusedVariables false
namespace Go.Ev
section
variable {P : Program} {lv : Nat → Nat → Nat → Option (List Tmp)} {β : Bt} {s : St} {w : World} {out : Out}

theorem zeroCells_succ (z : Array Value) (n : Nat) : (Builtin.zeroCells z (n + 1)).toList = z.toList ++ (Builtin.zeroCells z n).toList := by
  apply List.ext_getElem
  · simp [Builtin.zeroCells, Nat.add_mul]; omega
  · intro i h1 h2
    simp only [Builtin.zeroCells, Array.toList_map, List.getElem_map, Array.getElem_toList, Array.getElem_range]
    have hz : 0 < z.size := by
      rcases Nat.eq_zero_or_pos z.size with h | h
      · simp [Builtin.zeroCells, h] at h1
      · exact h
    by_cases hi : i < z.size
    · rw [List.getElem_append_left (by simpa using hi)]
      rw [Nat.mod_eq_of_lt hi, getElem!_pos z i hi]
      simp
    · rw [List.getElem_append_right (by simpa using hi)]
      simp only [Array.toList_map, List.getElem_map, Array.getElem_toList, Array.getElem_range, Array.length_toList]
      congr 1
      rw [← Nat.mod_eq_sub_mod (by omega)]
theorem zeroCells_zero (z : Array Value) : (Builtin.zeroCells z 0).toList = [] := by simp [Builtin.zeroCells]
theorem bcells_zeros : ∀ n, bcells (n + 1) 0 = .int .u8 0 :: bcells n 0 := fun _ => rfl
theorem rep_ok {v : AV} {z : Array Value} (hv : RowR β v z.toList) : ∀ n, rep v n ≠ .undef → RowR β (rep v n) (Builtin.zeroCells z n).toList
  | 0, _ => by rw [zeroCells_zero]; simp [rep, RowR, LR]
  | n + 1, hd => by
    rw [zeroCells_succ]
    have h1 : rep v n ≠ .undef := fun e => by simp only [rep] at hd; rw [e, app_undef_right] at hd; exact hd rfl
    exact hv.app (rep_ok hv n h1) hd
theorem zeros_ok {x : AV} {z : Value} (hx : VR β x z) (hc : cellsOf x ≠ .undef) (n : Nat) (hd : zeros x n ≠ .undef) : RowR β (zeros x n) (Builtin.zeroCells z.cells n).toList := by
  have hrow := hx.cells hc
  have gen : zeros x n = rep (cellsOf x) n → RowR β (zeros x n) (Builtin.zeroCells z.cells n).toList := fun e => by
    rw [e] at hd ⊢; exact rep_ok hrow n hd
  cases x with
  | bytes k p =>
    cases p with
    | succ p => exact absurd rfl hd
    | zero =>
      simp only [VR] at hx
      obtain ⟨a, rfl, _, ha⟩ := hx
      simp only [zeros, RowR, Value.cells]
      refine ⟨Nat.pow_pos (by omega), ?_⟩
      clear hd gen hrow hc
      induction n with
      | zero => rw [zeroCells_zero]; rfl
      | succ n ih =>
        rw [zeroCells_succ, ih, ha, Nat.mul_succ, Nat.add_comm (k * n) k]
        have := bcells_app k (k * n) 0 0 (Nat.pow_pos (by omega))
        simpa using this.symm
  | int j m =>
    cases j
    case u8 =>
      cases m with
      | negSucc m => exact absurd rfl hd
      | ofNat m =>
        cases m with
        | succ m => exact absurd rfl hd
        | zero =>
          simp only [VR] at hx
          subst hx
          simp only [zeros, RowR, Value.cells]
          refine ⟨Nat.pow_pos (by omega), ?_⟩
          clear hd gen hrow hc
          induction n with
          | zero => rw [zeroCells_zero]; rfl
          | succ n ih =>
            rw [zeroCells_succ, ih]
            rfl
    all_goals exact gen rfl
  | _ => exact gen rfl
theorem elemOk_ok {e : TypeId} (h : elemOk P e = true) : 0 < sizeT P e ∧ ∃ i z, P.info? e = some i ∧ i.zero = some z ∧ i.size = sizeT P e ∧ i.bytes ≤ 65536 ∧ cellsOf (zeroT P e) ≠ .undef ∧ (∀ β, VR β (zeroT P e) z) ∧ z.cells.size = sizeT P e ∧ ∀ v ∈ z.cells.toList, oneC v = true := by
  simp only [elemOk, Bool.and_eq_true] at h
  obtain ⟨⟨h1, h2⟩, h3⟩ := h
  have h1 := blt_lt h1
  have h2 := beq_eq h2
  have hc : cellsOf (zeroT P e) ≠ .undef := fun e' => by rw [e'] at h2; simp [Row.len] at h2; omega
  have hz : zeroT P e ≠ .undef := fun e' => hc (cellsOf_undef e')
  obtain ⟨i, z, hi, hz, _⟩ := zeroT_vr (β := fun _ => none) hz
  have hv : ∀ β, VR β (zeroT P e) z := fun β => by
    obtain ⟨i', z', hi', hz', hv'⟩ := zeroT_vr (β := β) (P := P) (t := e) (fun e' => hc (cellsOf_undef e'))
    rw [hi] at hi'; cases hi'
    rw [hz] at hz'; cases hz'
    exact hv'
  rw [hi] at h3
  have hrow := ((hv (fun _ => none)).cells hc).length
  refine ⟨h1, i, z, hi, hz, (sizeT_eq hi).symm, ble_le h3, hc, hv, ?_, (hv (fun _ => none)).plain hc⟩
  simp only [Array.length_toList] at hrow
  omega
theorem appendK_undef {e : TypeId} {sz n : Nat} {x : AV} {k : AV → St → Out} (hn : n ≠ 0) : appendK e sz s x n .undef k = .err := by
  cases n with
  | zero => exact absurd rfl hn
  | succ n =>
    cases x <;> simp only [appendK] <;> try rfl
    rename_i id o len cap sz' op
    cases Nat.beq sz sz' with
    | false => rfl
    | true =>
      simp only [cond_true]
      cases Nat.ble (len + (n + 1)) cap with
      | true =>
        simp only [cond_true, rowK]
        cases s.blk id <;> simp only
        rename_i t c
        cases Nat.ble (o + (len + (n + 1)) * sz) (Row.len c) with
        | false => rfl
        | true =>
          simp only [cond_true, Row.splice]
          rw [app_undef_left, app_undef_right]
          rfl
      | false =>
        simp only [cond_false, rowK]
        cases s.blk id <;> simp only
        rename_i t c
        simp only [growK]
        rw [app_undef_right]
        rfl

theorem appK_ok {t u ty e : TypeId} {d : TypeDesc} {x y : AV} {vx vy : Value} {k : AV → St → Out} (hr : Rel P lv β s w) (ht : P.underlying t = some (.slice e)) (hu : P.underlying u = some d) (hd : d = .string ∨ ∃ e', d = .slice e')
    (he : elemOk P e = true) (hx : VR β x vx) (hy : VR β y vy) (h : appK e (sizeT P e) s x y k = out) (ho : out ≠ .err) :
    ∃ v' x' β' s' w', (Builtin.append_ #[t, u] ty #[vx, vy]).run P w = .ok v' w' ∧ Rel P lv β' s' w' ∧ Tr β s w β' s' w' ∧ VR β' x' v' ∧ k x' s' = out := by
  obtain ⟨hpos, i, z, hi, hz, hsz, hby, hc, hv, hzs, hzp⟩ := elemOk_ok he
  obtain ⟨n, l1, l2, h1⟩ := lenK_ok (P := P) (w := w) hy h ho
  have hlen : ∀ w' : World, (Builtin.lenOf vy).run P w' = .ok n w' := by
    intro w'
    cases vy <;> simp [Builtin.lenOf] at l1 ⊢ <;> exact l1
  obtain ⟨cs, new, c1, c2, c3, c4, h2⟩ := headK_ok hr hy (sz := sizeT P e) (n := n) (by
    intro id o l c zz p hyy
    rcases l2 with ⟨rfl, _⟩ | ⟨_, _, _, _, _, rfl⟩ | ⟨_, rfl⟩
    · cases hyy
    · cases hyy; exact Nat.le_refl _
    · cases hyy) h1 ho
  refine appendK_ok (ap := fun sv => (Builtin.append_ #[t, u] ty #[sv, vy]).run P w) (news := cs) (z := z) hr hx ⟨?_, ?_, ?_⟩ hzs hzp c2 c3 c4 h2 ho
  · intro a sLen sCap w' hn hf hst
    exact run_app_fits ht hu hd hi l1 (by rw [hsz]; exact c1 w rfl) (by rw [hsz]; exact hst) hf
  · intro base sLen sCap hn hle hb
    subst hn
    have hcs : cs.toList = [] := List.eq_nil_of_length_eq_zero (by simp [c4])
    cases base with
    | none =>
      obtain ⟨rfl, rfl⟩ := hb rfl
      exact run_app_none ht hu hd hi l1 (by rw [hsz]; exact c1 w rfl)
    | some a => exact run_app_fits ht hu hd hi l1 (by rw [hsz]; exact c1 w rfl) (by rw [hcs]; rfl) hle
  · intro base sLen sCap olds hold hg hb
    exact run_app_grow ht hu hd hi hz l1 (by rw [hsz]; exact hold) (by rw [hsz]; exact c1 w.drew rfl) hg hb hby
theorem appZK_ok {t u ty e : TypeId} {j : IntKind} {x y : AV} {vx vy : Value} {k : AV → St → Out} (hr : Rel P lv β s w) (ht : P.underlying t = some (.slice e)) (hu : P.underlying u = some (.int j))
    (he : elemOk P e = true) (hx : VR β x vx) (hy : VR β y vy) (h : appZK e (sizeT P e) (zeroT P e) s x y k = out) (ho : out ≠ .err) :
    ∃ v' x' β' s' w', (Builtin.append_ #[t, u] ty #[vx, vy]).run P w = .ok v' w' ∧ Rel P lv β' s' w' ∧ Tr β s w β' s' w' ∧ VR β' x' v' ∧ k x' s' = out := by
  obtain ⟨hpos, i, z, hi, hz, hsz, hby, hc, hv, hzs, hzp⟩ := elemOk_ok he
  obtain ⟨kx, n, rfl, h1⟩ := natK_ok h ho
  obtain ⟨h9, h2⟩ := of_bif h1 ho
  have h9 := ble_le h9
  simp only [VR] at hy
  subst hy
  by_cases hn : n = 0
  · subst hn
    have hx0 := hx
    cases x <;> simp only [appendK] at h2 <;> try exact absurd h2.symm ho
    · simp only [VR] at hx; subst hx
      exact ⟨_, _, β, s, w, run_appZ_zero ht hu hi (Nat.le_refl _), hr, .refl _ _ _, hx0, h2⟩
    · obtain ⟨hbq, h3⟩ := of_bif h2 ho
      have hbq := beq_eq hbq
      subst hbq
      simp only [VR] at hx
      obtain ⟨b, a, c, hbi, rfl, g3, g4, g5, g6, g7⟩ := hx
      rw [Nat.add_zero, Nat.ble_eq_true_of_le g6] at h3
      exact ⟨_, _, β, s, w, run_appZ_zero ht hu hi (by omega), hr, .refl _ _ _, hx0, h3⟩
  · have hnew : zeros (zeroT P e) n ≠ .undef := fun e' => by rw [e', appendK_undef hn] at h2; exact ho h2.symm
    have hnz : n * i.size ≠ 0 := by rw [hsz]; exact Nat.mul_ne_zero hn (by omega)
    refine appendK_ok (ap := fun sv => (Builtin.append_ #[t, u] ty #[sv, .int kx (Int.ofNat n)]).run P w) (news := Builtin.zeroCells z.cells n) (z := z) hr hx ⟨?_, ?_, ?_⟩ hzs hzp (zeros_ok (hv β) hc n hnew) (mem_zeroCells hzp) (by rw [size_zeroCells, hzs]) h2 ho
    · intro a sLen sCap w' _ hf hst
      exact run_appZ_fits ht hu hi hz hnz h9 hby (by rw [hsz]; exact hst) hf
    · intro base sLen sCap hn' _ _; exact absurd hn' hn
    · intro base sLen sCap olds hold hg hb
      exact run_appZ_grow ht hu hi hz hnz (by rw [hsz]; exact hold) hg hb hby

theorem run_copy' {t u ty e : TypeId} {i : TypeInfo} {w w' : World} {base : Option Addr} {dLen dCap n : Nat} {x : Value} {cs : Array Value} (ht : P.underlying t = some (.slice e)) (hi : P.info? e = some i)
    (hn : (Builtin.lenOf x).run P w = .ok n w) (hf : (Builtin.firstCells i.size (Nat.min n dLen) x).run P w = .ok cs w)
    (hst : match base with | some a => (storeCells a cs.toList).run P w = .ok () w' | none => w' = w) :
    (Builtin.copy_ #[t, u] ty #[.slice base dLen dCap, x]).run P w = .ok (Go.goInt (Nat.min n dLen)) w' := by
  have hf' : (Builtin.firstCells i.size (min n dLen) x).run P w = .ok cs w := hf
  cases base with
  | none => simp only at hst; subst hst; simp [Builtin.copy_, run_underlying ht, sizeOf, typeInfo, hi, hn, hf']
  | some a => simp only at hst; simp [Builtin.copy_, run_underlying ht, sizeOf, typeInfo, hi, hn, hf', hst]
theorem copyK_ok {t u ty e : TypeId} {x y : AV} {vx vy : Value} {k : AV → St → Out} (hr : Rel P lv β s w) (ht : P.underlying t = some (.slice e))
    (he : elemOk P e = true) (hx : VR β x vx) (hy : VR β y vy) (h : copyK (sizeT P e) s x y k = out) (ho : out ≠ .err) :
    ∃ v' x' β' s' w', (Builtin.copy_ #[t, u] ty #[vx, vy]).run P w = .ok v' w' ∧ Rel P lv β' s' w' ∧ Tr β s w β' s' w' ∧ VR β' x' v' ∧ k x' s' = out := by
  obtain ⟨hpos, i, z, hi, hz, hsz, hby, hc, hv, hzs, hzp⟩ := elemOk_ok he
  obtain ⟨a, a1, a2, h1⟩ := lenK_ok (P := P) (w := w) hx h ho
  obtain ⟨b, l1, l2, h2⟩ := lenK_ok (P := P) (w := w) hy h1 ho
  obtain ⟨cs, new, c1, c2, c3, c4, h3⟩ := headK_ok hr hy (sz := sizeT P e) (n := Nat.min b a) (by
    intro id o l c zz p hyy
    rcases l2 with ⟨rfl, _⟩ | ⟨_, _, _, _, _, rfl⟩ | ⟨_, rfl⟩
    · cases hyy
    · cases hyy; exact Nat.min_le_left _ _
    · cases hyy) h2 ho
  have hfc := c1 w rfl
  cases x <;> simp only at h3 <;> try exact absurd h3.symm ho
  case nils =>
    simp only [VR] at hx; subst hx
    have ha : a = 0 := by rcases a2 with ⟨_, e⟩ | ⟨_, _, _, _, _, e⟩ | ⟨_, e⟩ <;> first | exact e | cases e
    subst ha
    refine ⟨_, _, β, s, w, run_copy' (base := none) (cs := cs) ht hi l1 (by rw [hsz]; exact hfc) rfl, hr, .refl _ _ _, ?_, h3⟩
    have : Nat.min b 0 = 0 := Nat.min_zero b
    rw [this]; simp only [Ev.goInt, Go.goInt, VR]; rfl
  case slice id o len cap sz' op =>
    obtain ⟨g0, hA⟩ := of_bif h3 ho
    have g0 := beq_eq g0
    have ha : a = len := by rcases a2 with ⟨e, _⟩ | ⟨_, _, _, _, _, e⟩ | ⟨_, e⟩ <;> cases e; rfl
    subst ha
    simp only [VR] at hx
    obtain ⟨bp, ad, c, hbi, rfl, g3, g4, g5, g6, g7⟩ := hx
    cases hm : Nat.min b a with
    | zero =>
      rw [hm] at hA
      have hcs : cs.toList = [] := List.eq_nil_of_length_eq_zero (by simp [c4, hm])
      refine ⟨_, _, β, s, w, run_copy' (base := some ad) (cs := cs) ht hi l1 (by rw [hsz]; exact hfc) (by rw [hcs]; rfl), hr, .refl _ _ _, ?_, hA⟩
      rw [hm]; simp only [Ev.goInt, Go.goInt, VR]; rfl
    | succ m =>
      rw [hm] at hA
      simp only at hA
      obtain ⟨tb, c0, hb, hB⟩ := rowK_ok hA ho
      obtain ⟨q1, hC⟩ := of_bif hB ho
      have q1 := ble_le q1
      obtain ⟨q2, hD⟩ := defK_ok hC ho
      obtain ⟨q3, hE⟩ := putK_ok hD ho
      have hmin : Nat.min b a ≤ a := Nat.min_le_right _ _
      have had := g3 (by omega)
      subst had
      rw [hm] at c4
      have hnl : Row.len new = cs.size := by have := c2.length; simpa using this.symm
      obtain ⟨w', r1, r2, r3⟩ := hr.store (c' := Row.splice c0 o new) (o := o) (vs := cs.toList) hbi hb q3 (by simp; omega) c3 (isRow_splice _ _ _ _)
        (fun cur hcur => splice_ok hcur c2 (by omega) q2)
      refine ⟨_, _, β, _, w', run_copy' (base := some ⟨bp.blk, bp.base + o, none⟩) (cs := cs) ht hi l1 (by rw [hsz]; exact hfc) r1, r2, r3, ?_, hE⟩
      rw [hm]; simp only [Ev.goInt, Go.goInt, VR]; rfl
end
end Go.Ev
