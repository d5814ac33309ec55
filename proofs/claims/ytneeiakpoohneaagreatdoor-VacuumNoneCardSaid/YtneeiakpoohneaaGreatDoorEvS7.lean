/- append, copy, make, bytes and strings. -/
import Derived.Test.YtneeiakpoohneaaGreatDoorEvS6
import Derived.Laws.Append
import Derived.Laws.AppendOwn
import Derived.Laws.MakeOwn
import Derived.Laws.BytesString
import Derived.Laws.IdiomStrings
set_option linter.all false
set_option linter.unusedSimpArgs false
set_option linter.unusedVariables false
namespace Go.Ev
section
variable {P : Program} {lv : Nat → Nat → Nat → Option (List Tmp)} {β : Bt} {s : St} {w : World} {out : Out}

theorem lenK_ok {x : AV} {v : Value} {k : Nat → Out} (hx : VR β x v) (h : lenK x k = out) (ho : out ≠ .err) : ∃ n, (Builtin.lenOf v).run P w = .ok n w ∧ (x = .nils ∧ n = 0 ∨ (∃ i o c z p, x = .slice i o n c z p) ∨ ∃ p, x = .str n p) ∧ k n = out := by
  cases x <;> simp only [lenK] at h <;> try exact absurd h.symm ho
  · simp only [VR] at hx; subst hx; exact ⟨0, rfl, .inl ⟨rfl, rfl⟩, h⟩
  · simp only [VR] at hx; obtain ⟨b, a, c, hb, rfl, _⟩ := hx; exact ⟨_, rfl, .inr (.inl ⟨_, _, _, _, _, rfl⟩), h⟩
  · simp only [VR] at hx; obtain ⟨s, rfl, rfl, _⟩ := hx; exact ⟨_, rfl, .inr (.inr ⟨_, rfl⟩), h⟩

/-- the first elements' cells -/
theorem headK_ok {x : AV} {v : Value} {sz n : Nat} {k : AV → Out} (hr : Rel P lv β s w) (hx : VR β x v) (hn : ∀ i o l c z p, x = .slice i o l c z p → n ≤ l) (h : headK s sz x n k = out) (ho : out ≠ .err) :
    ∃ cs new, (∀ w', w'.heap = w.heap → (Builtin.firstCells sz n v).run P w' = .ok cs w') ∧ RowR β new cs.toList ∧ (∀ u ∈ cs.toList, oneC u = true) ∧ cs.size = n * sz ∧ k new = out := by
  cases x <;> simp only [headK] at h <;> try exact absurd h.symm ho
  case nils =>
    obtain ⟨h1, h⟩ := of_bif h ho
    have h1 := beq_eq h1
    simp only [VR] at hx; subst hx; subst h1
    exact ⟨#[], _, fun _ _ => rfl, by simp [RowR, LR], by simp, by simp, h⟩
  case slice id o len cap sz' op =>
    obtain ⟨t, c, hb, h2⟩ := rowK_ok h ho
    clear h
    obtain ⟨h1, h3⟩ := of_bif h2 ho
    clear h2
    have h1 := ble_le h1
    obtain ⟨h4, h5⟩ := defK_ok h3 ho
    have hn := hn _ _ _ _ _ _ rfl
    simp only [VR] at hx
    obtain ⟨b, a, ca, hbi, rfl, g3, g4, g5, g6, g7⟩ := hx
    have hB := hr.blk id b hbi
    rw [hb] at hB
    obtain ⟨cs, t', fr, c1, c2, c3, c4, c5, c6⟩ := hB
    by_cases hz : n = 0
    · subst hz
      refine ⟨#[], _, fun w' _ => ?_, ?_, by simp, by simp, h5⟩
      · simp [Builtin.firstCells, loadCells, loadCellsFrom]
      · have := c4.sub (off := o) (n := 0 * sz) h1
        simpa using this
    · have ha := g3 (by omega)
      subst ha
      have c3' : b.base + o + n * sz ≤ cs.size := by omega
      refine ⟨cs.extract (b.base + o) (b.base + o + n * sz), _, fun w' hw => ?_, ?_, ?_, by simp; omega, h5⟩
      · simp only [Builtin.firstCells]
        exact run_loadCells_at (t := t') (fr := fr) (by rw [hw]; exact c1) c3'
      · have h3 := c4.sub h1
        have e : (((cs.toList.drop b.base).take (Row.len c)).drop o).take (n * sz) = (cs.extract (b.base + o) (b.base + o + n * sz)).toList := by
          simp only [Array.toList_extract, List.extract_eq_take_drop, List.drop_take, List.take_take, List.drop_drop]
          congr 1
          omega
        rw [e] at h3
        exact h3
      · intro v hv
        rw [Array.toList_extract, List.extract_eq_take_drop] at hv
        exact c5 v (List.mem_of_mem_drop (List.mem_of_mem_take hv))
  case str m p =>
    obtain ⟨h1, h'⟩ := of_bif h ho
    simp only [Bool.and_eq_true] at h1
    have h2 := ble_le h1.1
    have h3 := beq_eq h1.2
    subst h3
    simp only [VR] at hx
    obtain ⟨t, rfl, rfl, rfl⟩ := hx
    have e : ((t.extract 0 n).data.map fun b => Value.int .u8 b.toNat).toList = bcells n (packB t.data.toList % 2 ^ (8 * n)) := by
      rw [Array.toList_map, ByteArray.data_extract, Array.toList_extract, List.extract_eq_take_drop, List.drop_zero, Nat.sub_zero, pow256, ← packB_take]
      have := packB_cells (t.data.toList.take n)
      rw [List.length_take, Nat.min_eq_left (by rw [← size_data]; exact h2)] at this
      rw [this]
      rfl
    refine ⟨_, _, fun _ _ => rfl, ?_, ?_, ?_, h'⟩
    · simp only [RowR]
      exact ⟨by rw [pow256]; exact Nat.mod_lt _ (Nat.pow_pos (by omega)), e⟩
    · rw [e]; exact bcells_one _ _
    · have := congrArg List.length e
      rw [bcells_length] at this
      simpa using this

/- append -/
theorem wrap_small {n : Nat} (h : n ≤ 1000000000) : IntKind.i64.wrap (n : Int) = (n : Int) := by
  rw [IntKind.wrap_i64]; omega
/-- what is appended: cells of a slice or a string -/
theorem run_app_fits {t u ty e : TypeId} {d : TypeDesc} {i : TypeInfo} (ht : P.underlying t = some (.slice e)) (hu : P.underlying u = some d) (hd : d = .string ∨ ∃ e', d = .slice e') (hi : P.info? e = some i)
    {a : Addr} {sLen sCap n : Nat} {x : Value} {w w' : World} {news : Array Value}
    (hn : (Builtin.lenOf x).run P w = .ok n w) (happ : (Builtin.firstCells i.size n x).run P w = .ok news w)
    (hst : (storeCells (a.add (sLen * i.size)) news.toList).run P w = .ok () w') (hf : sLen + n ≤ sCap) :
    (Builtin.append_ #[t, u] ty #[.slice (some a) sLen sCap, x]).run P w = .ok (.slice (some a) (sLen + n) sCap) w' := by
  rcases hd with rfl | ⟨e', rfl⟩ <;> simp [Builtin.append_, run_underlying ht, run_underlying hu, sizeOf, typeInfo, hi, hn, happ, hf, hst]
theorem run_app_none {t u ty e : TypeId} {d : TypeDesc} {i : TypeInfo} (ht : P.underlying t = some (.slice e)) (hu : P.underlying u = some d) (hd : d = .string ∨ ∃ e', d = .slice e') (hi : P.info? e = some i)
    {x : Value} {w : World} {news : Array Value}
    (hn : (Builtin.lenOf x).run P w = .ok 0 w) (happ : (Builtin.firstCells i.size 0 x).run P w = .ok news w) :
    (Builtin.append_ #[t, u] ty #[.slice none 0 0, x]).run P w = .ok (.slice none 0 0) w := by
  rcases hd with rfl | ⟨e', rfl⟩ <;> simp [Builtin.append_, run_underlying ht, run_underlying hu, sizeOf, typeInfo, hi, hn, happ]
theorem run_app_grow {t u ty e : TypeId} {d : TypeDesc} {i : TypeInfo} {z : Value} (ht : P.underlying t = some (.slice e)) (hu : P.underlying u = some d) (hd : d = .string ∨ ∃ e', d = .slice e') (hi : P.info? e = some i) (hz : i.zero = some z)
    {base : Option Addr} {sLen sCap n : Nat} {x : Value} {w : World} {olds news : Array Value}
    (hn : (Builtin.lenOf x).run P w = .ok n w) (hold : (Builtin.firstCells i.size sLen (.slice base sLen sCap)).run P w.drew = .ok olds w.drew) (happ : (Builtin.firstCells i.size n x).run P w.drew = .ok news w.drew)
    (hg : sCap < sLen + n) (hb : sLen + n ≤ 1000000000) (hby : i.bytes ≤ 65536) :
    (Builtin.append_ #[t, u] ty #[.slice base sLen sCap, x]).run P w =
      .ok (.slice (some ⟨w.heap.size, 0, none⟩) (sLen + n) (grownCap w (sLen + n) sCap e)) (w.drew.alloc (.cells (olds ++ news ++ Builtin.zeroCells z.cells (grownCap w (sLen + n) sCap e - (sLen + n))) e)) := by
  have hn' : ¬ (sLen + n ≤ sCap) := by omega
  have h63' : ¬ (9223372036854775807 < ((sLen : Int) + (n : Int))) := by omega
  have h48' : ¬ (281474976710656 < Builtin.nextslicecap (sLen + n) sCap * i.bytes) := by
    have h1 : (sLen + n) * i.bytes ≤ 1000000000 * 65536 := Nat.mul_le_mul hb hby
    have := growslice_fits hg (bytes := i.bytes) (by omega)
    omega
  rcases hd with rfl | ⟨e', rfl⟩ <;> simp [Builtin.append_, run_underlying ht, run_underlying hu, sizeOf, typeInfo, zeroValue, hi, hz, hn, hn', h63', h48', Question.forced, hold, happ, newRow, grownCap]
/-- append(x, make([]T, n)...) -/
theorem run_appZ_fits {t u ty e : TypeId} {j kx : IntKind} {i : TypeInfo} {z : Value} (ht : P.underlying t = some (.slice e)) (hu : P.underlying u = some (.int j)) (hi : P.info? e = some i) (hz : i.zero = some z)
    {a : Addr} {sLen sCap n : Nat} {w w' : World} (hnz : n * i.size ≠ 0) (h9 : n ≤ 1000000000) (hby : i.bytes ≤ 65536)
    (hst : (storeCells (a.add (sLen * i.size)) (Builtin.zeroCells z.cells n).toList).run P w = .ok () w') (hf : sLen + n ≤ sCap) :
    (Builtin.append_ #[t, u] ty #[.slice (some a) sLen sCap, .int kx (n : Int)]).run P w = .ok (.slice (some a) (sLen + n) sCap) w' := by
  have h1 : ¬ ((n : Int) < 0) := by omega
  have h2 : ¬ (281474976710656 < (n : Int) * (i.bytes : Int)) := by
    have : n * i.bytes ≤ 1000000000 * 65536 := Nat.mul_le_mul h9 hby
    have e : ((n * i.bytes : Nat) : Int) = (n : Int) * (i.bytes : Int) := by simp
    omega
  have hne : n ≠ 0 ∧ i.size ≠ 0 := ⟨fun e => hnz (by simp [e]), fun e => hnz (by simp [e])⟩
  simp [Builtin.append_, run_underlying ht, run_underlying hu, sizeOf, typeInfo, zeroValue, hi, hz, asInt, asIntOf, wrap_small h9, h1, h2, hnz, hne.1, hne.2, hf, hst]
theorem run_appZ_zero {t u ty e : TypeId} {j kx : IntKind} {i : TypeInfo} (ht : P.underlying t = some (.slice e)) (hu : P.underlying u = some (.int j)) (hi : P.info? e = some i)
    {base : Option Addr} {sLen sCap : Nat} {w : World} (hf : sLen ≤ sCap) :
    (Builtin.append_ #[t, u] ty #[.slice base sLen sCap, .int kx ((0 : Nat) : Int)]).run P w = .ok (.slice base sLen sCap) w := by
  have := wrap_small (n := 0) (by omega)
  simp only [Int.ofNat_zero, Int.natCast_zero] at this
  cases base <;> simp [Builtin.append_, run_underlying ht, run_underlying hu, sizeOf, typeInfo, hi, asInt, asIntOf, this, hf, storeCells]
theorem run_appZ_grow {t u ty e : TypeId} {j kx : IntKind} {i : TypeInfo} {z : Value} (ht : P.underlying t = some (.slice e)) (hu : P.underlying u = some (.int j)) (hi : P.info? e = some i) (hz : i.zero = some z)
    {base : Option Addr} {sLen sCap n : Nat} {w : World} {olds : Array Value} (hnz : n * i.size ≠ 0)
    (hold : (Builtin.firstCells i.size sLen (.slice base sLen sCap)).run P w.drew = .ok olds w.drew)
    (hg : sCap < sLen + n) (hb : sLen + n ≤ 1000000000) (hby : i.bytes ≤ 65536) :
    (Builtin.append_ #[t, u] ty #[.slice base sLen sCap, .int kx (n : Int)]).run P w =
      .ok (.slice (some ⟨w.heap.size, 0, none⟩) (sLen + n) (grownCap w (sLen + n) sCap e)) (w.drew.alloc (.cells (olds ++ Builtin.zeroCells z.cells n ++ Builtin.zeroCells z.cells (grownCap w (sLen + n) sCap e - (sLen + n))) e)) := by
  have h9 : n ≤ 1000000000 := by omega
  have h1 : ¬ ((n : Int) < 0) := by omega
  have h2 : ¬ (281474976710656 < (n : Int) * (i.bytes : Int)) := by
    have : n * i.bytes ≤ 1000000000 * 65536 := Nat.mul_le_mul h9 hby
    have e : ((n * i.bytes : Nat) : Int) = (n : Int) * (i.bytes : Int) := by simp
    omega
  have hn' : ¬ (sLen + n ≤ sCap) := by omega
  have h63' : ¬ (9223372036854775807 < ((sLen : Int) + (n : Int))) := by omega
  have h48' : ¬ (281474976710656 < Builtin.nextslicecap (sLen + n) sCap * i.bytes) := by
    have h1 : (sLen + n) * i.bytes ≤ 1000000000 * 65536 := Nat.mul_le_mul hb hby
    have := growslice_fits hg (bytes := i.bytes) (by omega)
    omega
  have hne : n ≠ 0 ∧ i.size ≠ 0 := ⟨fun e => hnz (by simp [e]), fun e => hnz (by simp [e])⟩
  simp [Builtin.append_, run_underlying ht, run_underlying hu, sizeOf, typeInfo, zeroValue, hi, hz, asInt, asIntOf, wrap_small h9, h1, h2, hnz, hne.1, hne.2, hn', h63', h48', Question.forced, hold, newRow, grownCap]
end
end Go.Ev
