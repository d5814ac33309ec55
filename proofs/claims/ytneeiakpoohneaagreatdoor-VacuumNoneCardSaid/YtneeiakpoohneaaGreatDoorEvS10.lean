/- make, bytes and strings, composite values: as operations. -/
import Derived.Test.YtneeiakpoohneaaGreatDoorEvS9
set_option linter.all false
set_option linter.unusedSimpArgs false
set_option linter.unusedVariables false
namespace Go.Ev
section
variable {P : Program} {lv : Nat → Nat → Nat → Option (List Tmp)} {β : Bt} {s : St} {w : World} {out : Out}

theorem makeSliceK_ok {t e : TypeId} {x y : AV} {vx vy : Value} {k : AV → St → Out} (hr : Rel P lv β s w) (ht : P.underlying t = some (.slice e))
    (he : elemOk P e = true) (hx : VR β x vx) (hy : VR β y vy) (h : makeSliceK e (sizeT P e) (zeroT P e) s x y k = out) (ho : out ≠ .err) :
    ∃ v' x' β' s' w', (Instr.makeSlice t vx vy).run P w = .ok v' w' ∧ Rel P lv β' s' w' ∧ Tr β s w β' s' w' ∧ VR β' x' v' ∧ k x' s' = out := by
  obtain ⟨hpos, i, z, hi, hz, hsz, hby, hc, hv, hzs, hzp⟩ := elemOk_ok he
  obtain ⟨jl, l, rfl, h1⟩ := natK_ok h ho
  clear h
  obtain ⟨jc, c, rfl, h2⟩ := natK_ok h1 ho
  clear h1
  obtain ⟨g1, h3⟩ := of_bif h2 ho
  simp only [Bool.and_eq_true] at g1
  have g2 := ble_le g1.1
  have g3 := ble_le g1.2
  obtain ⟨h4, h5⟩ := defK_ok h3 ho
  rw [newK_eq] at h5
  simp only [VR] at hx hy
  subst hx; subst hy
  have hrun := run_make (P := P) w t e i z ht hi hz jl jc (Int.ofNat l) (Int.ofNat c) (Int.natCast_nonneg _) (by simpa using g2) (by
    have : i.bytes * c ≤ 65536 * 1000000000 := Nat.mul_le_mul hby g3
    have e : ((i.bytes * c : Nat) : Int) = (i.bytes : Int) * (c : Int) := by simp
    simp only [Int.ofNat_eq_natCast]
    omega) (by simp only [Int.ofNat_eq_natCast]; omega)
  have hcells : madeCells z.cells ((Int.ofNat c).toNat * i.size) = Builtin.zeroCells z.cells c := by
    have : (Int.ofNat c).toNat = c := rfl
    rw [this, hsz]
    simp only [madeCells, Builtin.zeroCells, hzs]
  rw [hcells] at hrun
  have hrow := zeros_ok (hv β) hc c h4
  have hlen := hrow.length
  have hsize : (Builtin.zeroCells z.cells c).size = c * sizeT P e := by rw [size_zeroCells, hzs]
  obtain ⟨r1, r2⟩ := hr.newRow (w' := w.alloc (.cells (Builtin.zeroCells z.cells c) e)) (c := zeros (zeroT P e) c) (cs := Builtin.zeroCells z.cells c) (t := e) (fr := (0, 0)) rfl
    (by rw [List.take_of_length_le (by simp at hlen ⊢; omega)]; exact hrow) (by simp at hlen; omega) (mem_zeroCells hzp) (.inl (Nat.le_refl _))
  refine ⟨_, _, _, _, _, hrun, r1, r2, ?_, h5⟩
  simp only [VR]
  exact ⟨_, _, c, Bt.add_self _ _, rfl, fun _ => rfl, fun _ => rfl, Nat.le_refl _, g2, fun h => by simp at h⟩

theorem toBytesK_ok {src dst e : TypeId} {x : AV} {v : Value} {k : AV → St → Out} (hr : Rel P lv β s w) (hs : P.underlying src = some .string) (hd : P.underlying dst = some (.slice e)) (he : P.underlying e = some (.int .u8))
    (hx : VR β x v) (h : toBytesK e s x k = out) (ho : out ≠ .err) :
    ∃ v' x' β' s' w', (convert src dst v).run P w = .ok v' w' ∧ Rel P lv β' s' w' ∧ Tr β s w β' s' w' ∧ VR β' x' v' ∧ k x' s' = out := by
  cases x <;> simp only [toBytesK] at h <;> try exact absurd h.symm ho
  rename_i n p
  rw [newK_eq] at h
  simp only [VR] at hx
  obtain ⟨t, rfl, rfl, rfl⟩ := hx
  have hrun := run_bytes_of_string (P := P) w src dst e t hs hd he
  have hg := grownCap_ge w t.size 0 e
  have hb : (bytesRow t (grownCap w t.size 0 e)).toList = bcells t.size (packB t.data.toList) ++ List.replicate (grownCap w t.size 0 e - t.size) (.int .u8 0) := by
    have := packB_cells t.data.toList
    rw [← size_data] at this
    rw [this]
    simp [bytesRow]
  have hsz : (bytesRow t (grownCap w t.size 0 e)).size = grownCap w t.size 0 e := by
    have := congrArg List.length hb
    simp [bcells_length] at this
    omega
  obtain ⟨r1, r2⟩ := hr.newRow (w' := w.drew.alloc (.cells (bytesRow t (grownCap w t.size 0 e)) e ((bytesRow t (grownCap w t.size 0 e)).size, (bytesRow t (grownCap w t.size 0 e)).size + 1)))
    (c := .bytes t.size (packB t.data.toList)) (cs := bytesRow t (grownCap w t.size 0 e)) (t := e) (fr := ((bytesRow t (grownCap w t.size 0 e)).size, (bytesRow t (grownCap w t.size 0 e)).size + 1)) rfl
    (by
      simp only [Row.len, RowR]
      rw [hb, List.take_append_of_le_length (by rw [bcells_length]; exact Nat.le_refl _), List.take_of_length_le (by rw [bcells_length]; exact Nat.le_refl _)]
      exact ⟨by rw [size_data]; exact packB_lt _, rfl⟩)
    (by simp only [Row.len]; omega) (by
      intro u hu
      rw [hb] at hu
      simp only [List.mem_append] at hu
      rcases hu with hu | hu
      · exact bcells_one _ _ u hu
      · rw [List.eq_of_mem_replicate hu]; rfl) (.inr ⟨Nat.le_refl _, rfl⟩)
  refine ⟨_, _, _, _, _, hrun, r1, r2, ?_, h⟩
  simp only [VR]
  refine ⟨_, _, grownCap w t.size 0 e, Bt.add_self _ _, rfl, fun _ => rfl, fun h => by simp at h, hg, Nat.le_refl _, fun _ _ => ?_⟩
  simp [hsz]

theorem foldl_push : ∀ (l : List UInt8) (b : ByteArray), ((l.map fun x : UInt8 => (Int.ofNat x.toNat)).foldl (fun r n => r.push (UInt8.ofNat n.toNat)) b).data.toList = b.data.toList ++ l
  | [], b => by simp
  | x :: l, b => by
    simp only [List.map_cons, List.foldl_cons]
    rw [foldl_push l]
    have : UInt8.ofNat (Int.ofNat x.toNat).toNat = x := by
      show UInt8.ofNat x.toNat = x
      simp
    rw [this]
    simp [ByteArray.push]
theorem bcells_bytes : ∀ (n p : Nat), p < 256 ^ n → ∃ l : List UInt8, l.length = n ∧ packB l = p ∧ bcells n p = (l.map fun x => Int.ofNat x.toNat).map (Value.int .u8)
  | 0, p, h => ⟨[], rfl, by simp at h; simp [packB, h], rfl⟩
  | n + 1, p, h => by
    obtain ⟨l, h1, h2, h3⟩ := bcells_bytes n (p / 256) (by rw [Nat.pow_succ] at h; exact Nat.div_lt_of_lt_mul (by rw [Nat.mul_comm]; exact h))
    refine ⟨UInt8.ofNat (p % 256) :: l, by simp [h1], ?_, ?_⟩
    · have : (UInt8.ofNat (p % 256)).toNat = p % 256 := by simp
      simp only [packB, h2, this]
      omega
    · have : (UInt8.ofNat (p % 256)).toNat = p % 256 := by simp
      simp only [bcells, List.map_cons, this, h3]
theorem toStrK_ok {src dst e : TypeId} {x : AV} {v : Value} {k : AV → Out} (hr : Rel P lv β s w) (hs : P.underlying src = some (.slice e)) (hd : P.underlying dst = some .string) (he : P.underlying e = some (.int .u8))
    (hx : VR β x v) (h : toStrK s x k = out) (ho : out ≠ .err) : ∃ v' x', (convert src dst v).run P w = .ok v' w ∧ VR β x' v' ∧ k x' = out := by
  have hns : ∀ n p, x ≠ .str n p := fun n p e => by subst e; exact ho h.symm
  have h : (lenK x fun n => headK s 1 x n fun c => match c with
    | .bytes n p => k (.str n p)
    | .cells [] => k (.str 0 0)
    | _ => .err) = out := by
    cases x <;> first | exact h | exact absurd rfl (hns _ _)
  obtain ⟨n, a1, a2, h1⟩ := lenK_ok (P := P) (w := w) hx h ho
  obtain ⟨cs, new, c1, c2, c3, c4, h3⟩ := headK_ok hr hx (sz := 1) (n := n) (by
    intro id o l c zz p hyy
    rcases a2 with ⟨rfl, _⟩ | ⟨_, _, _, _, _, rfl⟩ | ⟨_, rfl⟩
    · cases hyy
    · cases hyy; exact Nat.le_refl _
    · cases hyy) h1 ho
  have hfc := c1 w rfl
  rw [Nat.mul_one] at c4
  have main : ∀ l : List UInt8, cs.toList = (l.map fun x => Int.ofNat x.toNat).map (Value.int .u8) → l.length = n → ∃ t : ByteArray, (convert src dst v).run P w = .ok (.string t) w ∧ t.size = n ∧ t.data.toList = l := by
    intro l hl hn
    rcases a2 with ⟨rfl, rfl⟩ | ⟨_, _, _, _, _, rfl⟩ | ⟨_, rfl⟩
    · simp only [VR] at hx; subst hx
      have : l = [] := List.eq_nil_of_length_eq_zero hn
      subst this
      exact ⟨.empty, by simp [convert, run_underlying hs, run_underlying hd, run_underlying he, Conv.bytesToString], rfl, rfl⟩
    · simp only [VR] at hx
      obtain ⟨b, ad, c, hbi, rfl, _⟩ := hx
      have hload : (loadCells ad n).run P w = .ok ((l.map fun x => Int.ofNat x.toNat).map (Value.int .u8)).toArray w := by
        simp only [Builtin.firstCells, Nat.mul_one] at hfc
        rw [hfc, ← hl]
      have hb := run_bytesToString (P := P) w ad n c _ hload
      have hdat := foldl_push l ByteArray.empty
      refine ⟨_, ?_, ?_, hdat.trans (by rfl)⟩
      · rw [run_convert_bytes_string w src dst e (some ad) n c hs he hd, hb]
      · rw [size_data, hdat]; simpa using hn
    · exact absurd rfl (hns _ _)
  cases new with
  | cells l =>
    cases l with
    | cons _ _ => exact absurd h3.symm ho
    | nil =>
      simp only [RowR, LR] at c2
      have hn0 : n = 0 := by rw [← c4, ← Array.length_toList, c2]; rfl
      obtain ⟨t, q1, q2, q3⟩ := main [] (by rw [c2]; rfl) (by simp [hn0])
      exact ⟨_, _, q1, by simp only [VR]; exact ⟨t, rfl, by omega, by rw [q3]; rfl⟩, h3⟩
  | bytes m p =>
    simp only [RowR] at c2
    obtain ⟨l, l1, l2, l3⟩ := bcells_bytes m p c2.1
    have hmn : m = n := by have := congrArg List.length c2.2; simp [bcells_length] at this; omega
    obtain ⟨t, q1, q2, q3⟩ := main l (c2.2.trans l3) (by omega)
    exact ⟨_, _, q1, by simp only [VR]; exact ⟨t, rfl, by omega, by rw [q3, l2]⟩, h3⟩
  | _ => exact absurd h3.symm ho
end
end Go.Ev
