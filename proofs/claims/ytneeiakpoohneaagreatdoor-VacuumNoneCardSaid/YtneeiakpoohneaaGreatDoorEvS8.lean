/- append and copy. -/
import Derived.Test.YtneeiakpoohneaaGreatDoorEvS7
set_option linter.all false
set_option linter.unusedSimpArgs false
set_option linter.unusedVariables false
namespace Go.Ev
section
variable {P : Program} {lv : Nat → Nat → Nat → Option (List Tmp)} {β : Bt} {s : St} {w : World} {out : Out}

/-- a new id for a block that no live id stands for -/
theorem Rel.alias {b : Bp} {B : Blk} (h : Rel P lv β s w) (hb : b.blk < w.heap.size) (hk : ∃ j c, β j = some c ∧ c.blk = b.blk) (hl : ∀ j c, β j = some c → s.blk j ≠ .none → c.blk ≠ b.blk) (hB : BlkR P lv (β.add s.next b) (s.new B) w b B) :
    Rel P lv (β.add s.next b) (s.new B) w ∧ Tr β s w (β.add s.next b) (s.new B) w := by
  obtain ⟨h1, h2⟩ := h.newId B
  have hn : β s.next = none := h.none_next (Nat.le_refl _)
  have hbl : ∀ j c, β j = some c → (s.new B).blk j = s.blk j := fun j c hc => by
    rw [St.blk_new, if_neg]; intro he; subst he; rw [hn] at hc; cases hc
  refine ⟨⟨fun j c hc => ?_, fun j k c d hc hd hj hk he => ?_, fun j c hc => ?_, h1.ro, h1.fresh, fun g hg => ?_⟩, Bt.le_add hn, fun i hi hi' => ⟨?_, (h2.late i hi hi').2⟩, Nat.le_refl _, h2.next, rfl, h2.old, fun i c hc => ?_, fun _ _ _ => rfl, fun _ _ _ _ _ => rfl, h2.dark, rfl, rfl⟩
  · simp only [Bt.add] at hc
    split at hc
    · cases hc; rename_i he; subst he; exact ⟨Nat.lt_succ_self _, hb⟩
    · exact h1.lt j c hc
  · simp only [Bt.add] at hc hd
    split at hc
    · split at hd
      · simp_all
      · cases hc
        rw [hbl k d hd] at hk
        exact absurd he.symm (hl k d hd hk)
    · split at hd
      · cases hd
        rw [hbl j c hc] at hj
        exact absurd he (hl j c hc hj)
      · exact h1.inj j k c d hc hd hj hk he
  · simp only [Bt.add] at hc
    split at hc
    · cases hc; rename_i he; subst he
      rw [St.blk_new, if_pos rfl]; exact hB
    · exact (h1.blk j c hc).mono (Bt.le_add hn) rfl (fun m k v bm _ hm g1 g2 => ⟨g1, g2, rfl⟩)
  · obtain ⟨c, hc, g1, g2⟩ := h.glob g hg
    exact ⟨c, Bt.le_add hn _ _ hc, g1, g2⟩
  · simp [Bt.add, Nat.ne_of_lt hi, hi']
  · simp only [Bt.add] at hc
    split at hc
    · cases hc; exact .inr (.inr hk)
    · exact .inl hc
theorem Rel.kill {i : Nat} {b : Bp} (h : Rel P lv β s w) (hb : β i = some b) (hro : s.ro ≤ i) (hl : s.blk i ≠ .none ∧ s.blk i ≠ .dark) : Rel P lv β (s.put i .none) w ∧ Tr β s w β (s.put i .none) w :=
  h.put hb hro hl rfl (fun _ _ => rfl) trivial

/-- how an append runs -/
structure AppRun (P : Program) (w : World) (ap : Value → Result Value) (e : TypeId) (z : Value) (n sz : Nat) (news : Array Value) : Prop where
  fits : ∀ a sLen sCap w', n ≠ 0 → sLen + n ≤ sCap → (storeCells (a.add (sLen * sz)) news.toList).run P w = .ok () w' → ap (.slice (some a) sLen sCap) = .ok (.slice (some a) (sLen + n) sCap) w'
  zero : ∀ base sLen sCap, n = 0 → sLen ≤ sCap → (base = none → sLen = 0 ∧ sCap = 0) → ap (.slice base sLen sCap) = .ok (.slice base sLen sCap) w
  grow : ∀ base sLen sCap olds, (Builtin.firstCells sz sLen (.slice base sLen sCap)).run P w.drew = .ok olds w.drew → sCap < sLen + n → sLen + n ≤ 1000000000 →
    ap (.slice base sLen sCap) = .ok (.slice (some ⟨w.heap.size, 0, none⟩) (sLen + n) (grownCap w (sLen + n) sCap e)) (w.drew.alloc (.cells (olds ++ news ++ Builtin.zeroCells z.cells (grownCap w (sLen + n) sCap e - (sLen + n))) e))

theorem grownCap_ge (w : World) (need old : Nat) (e : TypeId) : need ≤ grownCap w need old e := by
  simp only [grownCap, Question.cut]; omega
theorem mem_zeroCells {z : Array Value} {n : Nat} (hp : ∀ v ∈ z.toList, oneC v = true) : ∀ v ∈ (Builtin.zeroCells z n).toList, oneC v = true := by
  intro v hv
  simp only [Builtin.zeroCells, Array.toList_map, List.mem_map] at hv
  obtain ⟨i, _, rfl⟩ := hv
  by_cases hz : z.size = 0
  · rename_i hi
    simp [hz] at hi
  · have : i % z.size < z.size := Nat.mod_lt _ (by omega)
    rw [getElem!_pos z _ this]
    exact hp _ (by simp)

/-- a row that has grown in a new block -/
theorem grow_new {e : TypeId} {z : Value} {c' : AV} {olds news : Array Value} {need g sz : Nat} (hr : Rel P lv β s w) (hsz : z.cells.size = sz) (hz : ∀ v ∈ z.cells.toList, oneC v = true)
    (hc : RowR β c' (olds.toList ++ news.toList)) (ho : ∀ v ∈ olds.toList, oneC v = true) (hp : ∀ v ∈ news.toList, oneC v = true) (hl : olds.size + news.size = need * sz) (hg : need ≤ g) :
    ∃ β', Rel P lv β' (s.new (.row e c')) (w.drew.alloc (.cells (olds ++ news ++ Builtin.zeroCells z.cells (g - need)) e)) ∧
      Tr β s w β' (s.new (.row e c')) (w.drew.alloc (.cells (olds ++ news ++ Builtin.zeroCells z.cells (g - need)) e)) ∧
      VR β' (.slice s.next 0 need need sz true) (.slice (some ⟨w.heap.size, 0, none⟩) need g) := by
  have hlen := hc.length
  simp only [List.length_append, Array.length_toList] at hlen
  obtain ⟨r1, r2⟩ := hr.newRow (w' := w.drew.alloc (.cells (olds ++ news ++ Builtin.zeroCells z.cells (g - need)) e)) (c := c') (cs := olds ++ news ++ Builtin.zeroCells z.cells (g - need)) (t := e) (fr := (0, 0)) rfl
    (by
      rw [Array.toList_append, Array.toList_append, List.take_append_of_le_length (by simp; omega), List.take_of_length_le (by simp; omega)]
      exact hc) (by simp; omega) (by
      intro v hv
      rw [Array.toList_append, Array.toList_append] at hv
      simp only [List.mem_append] at hv
      rcases hv with (hv | hv) | hv
      · exact ho v hv
      · exact hp v hv
      · exact mem_zeroCells hz v hv) (.inl (Nat.le_refl _))
  refine ⟨_, r1, r2, ?_⟩
  simp only [VR]
  refine ⟨_, _, g, Bt.add_self _ _, rfl, fun _ => rfl, fun h => by simp at h, hg, Nat.le_refl _, fun _ _ => ?_⟩
  simp only [Array.size_append, size_zeroCells, Nat.zero_add]
  rw [hsz, hl, ← Nat.add_mul]
  apply Nat.mul_le_mul_right
  omega

theorem isRow_norm (t : TypeId) (x : AV) (h : isRow (.row t (Row.norm x)) = true) : isRow (.row t x) = true := by
  cases x with
  | cells l => rfl
  | _ => exact h
theorem isRow_grown (e t : TypeId) (c0 new : AV) (o n : Nat) (h : isRow (.row e (Row.norm (Row.app (Row.sub c0 o n) new))) = true) : isRow (.row t c0) = true := by
  have := isRow_app e _ _ (isRow_norm e _ h)
  cases c0 <;> simp_all [Row.sub, isRow]
theorem appendK_ok {ap : Value → Result Value} {e : TypeId} {z : Value} {n sz : Nat} {news : Array Value} {x new : AV} {sv : Value} {k : AV → St → Out} (hr : Rel P lv β s w) (hx : VR β x sv)
    (hap : AppRun P w ap e z n sz news) (hsz : z.cells.size = sz) (hz : ∀ v ∈ z.cells.toList, oneC v = true) (hnew : RowR β new news.toList) (hp : ∀ v ∈ news.toList, oneC v = true) (hn : news.size = n * sz)
    (h : appendK e sz s x n new k = out) (ho : out ≠ .err) :
    ∃ v' x' β' s' w', ap sv = .ok v' w' ∧ Rel P lv β' s' w' ∧ Tr β s w β' s' w' ∧ VR β' x' v' ∧ k x' s' = out := by
  cases x <;> simp only [appendK] at h <;> try exact absurd h.symm ho
  case nils =>
    simp only [VR] at hx; subst hx
    cases n with
    | zero => exact ⟨_, _, β, s, w, hap.zero none 0 0 rfl (Nat.le_refl _) (fun _ => ⟨rfl, rfl⟩), hr, .refl _ _ _, by simp [VR], h⟩
    | succ n =>
      simp only at h
      obtain ⟨h1, h2⟩ := defK_ok h ho
      obtain ⟨h3, h4⟩ := of_bif h2 ho
      have h3 := ble_le h3
      rw [newK_eq] at h4
      have hg := hap.grow none 0 0 #[] rfl (by omega) (by omega)
      simp only [Nat.zero_add] at hg
      obtain ⟨β', r1, r2, r3⟩ := grow_new (e := e) (olds := #[]) (news := news) (need := n + 1) (g := grownCap w (n + 1) 0 e) hr hsz hz (by simpa using hnew.norm h1) (by simp) hp (by simpa using hn) (grownCap_ge _ _ _ _)
      exact ⟨_, _, β', _, _, hg, r1, r2, r3, h4⟩
  case slice id o len cap sz' op =>
    obtain ⟨h1, hA⟩ := of_bif h ho
    clear h
    have h1 := beq_eq h1
    subst h1
    have hx0 := hx
    simp only [VR] at hx
    obtain ⟨b, a, c, hbi, rfl, g3, g4, g5, g6, g7⟩ := hx
    cases hfit : Nat.ble (len + n) cap with
    | true =>
      rw [hfit] at hA
      have hfit := ble_le hfit
      simp only [cond_true] at hA
      cases n with
      | zero => exact ⟨_, _, β, s, w, hap.zero (some a) len c rfl (by omega) (fun h => by cases h), hr, .refl _ _ _, hx0, hA⟩
      | succ n =>
        simp only at hA
        obtain ⟨t, c0, hb, hB⟩ := rowK_ok hA ho
        obtain ⟨h5, hC⟩ := of_bif hB ho
        have h5 := ble_le h5
        obtain ⟨h6, hD⟩ := defK_ok hC ho
        obtain ⟨h7, hE⟩ := putK_ok hD ho
        have ha := g3 (by omega)
        subst ha
        have hnl : Row.len new = news.size := by have := hnew.length; simpa using this.symm
        have hmul : (len + (n + 1)) * sz = len * sz + (n + 1) * sz := Nat.add_mul _ _ _
        obtain ⟨w', q1, q2, q3⟩ := hr.store (c' := Row.splice c0 (o + len * sz) new) (o := o + len * sz) (vs := news.toList) hbi hb h7 (by simp; omega) hp (isRow_splice _ _ _ _)
          (fun cur hcur => splice_ok hcur hnew (by omega) h6)
        refine ⟨_, _, β, _, w', hap.fits ⟨b.blk, b.base + o, none⟩ len c w' (by omega) (by omega) (by rw [Addr.add_plain, Nat.add_assoc]; exact q1), q2, q3, ?_, hE⟩
        simp only [VR]
        exact ⟨b, _, c, hbi, rfl, fun _ => rfl, g4, g5, by omega, g7⟩
    | false =>
      rw [hfit] at hA
      have hfit : cap < len + n := by
        rcases Nat.lt_or_ge cap (len + n) with h | h
        · exact h
        · have := Nat.ble_eq_true_of_le h; rw [this] at hfit; cases hfit
      simp only [cond_false] at hA
      obtain ⟨t, c0, hb, hB⟩ := rowK_ok hA ho
      simp only [growK] at hB
      obtain ⟨h5, hC⟩ := defK_ok hB ho
      obtain ⟨h6, hD⟩ := of_bif hC ho
      simp only [Bool.and_eq_true] at h6
      have h7 := ble_le h6.1
      have h8 := ble_le h6.2
      have hBl := hr.blk id b hbi
      rw [hb] at hBl
      obtain ⟨cs, t', fr, c1, c2, c3, c4, c5, c6⟩ := hBl
      -- the old cells
      have hold : ∀ sCap, sCap = c → ∃ olds : Array Value, (Builtin.firstCells sz len (.slice (some a) len sCap)).run P w.drew = .ok olds w.drew ∧ RowR β (Row.sub c0 o (len * sz)) olds.toList ∧ (∀ v ∈ olds.toList, oneC v = true) ∧ olds.size = len * sz := by
        intro sCap _
        by_cases hl : len = 0
        · subst hl
          refine ⟨#[], by simp [Builtin.firstCells, loadCells, loadCellsFrom], ?_, by simp, by simp⟩
          have := c4.sub (off := o) (n := 0 * sz) h7
          simpa using this
        · have ha := g3 (by omega)
          subst ha
          refine ⟨cs.extract (b.base + o) (b.base + o + len * sz), ?_, ?_, ?_, by simp; omega⟩
          · simp only [Builtin.firstCells]
            exact run_loadCells_at (t := t') (fr := fr) (w := w.drew) c1 (by omega)
          · have h3 := c4.sub h7
            have e : (((cs.toList.drop b.base).take (Row.len c0)).drop o).take (len * sz) = (cs.extract (b.base + o) (b.base + o + len * sz)).toList := by
              simp only [Array.toList_extract, List.extract_eq_take_drop, List.drop_take, List.take_take, List.drop_drop]
              congr 1
              omega
            rw [e] at h3
            exact h3
          · intro v hv
            rw [Array.toList_extract, List.extract_eq_take_drop] at hv
            exact c5 v (List.mem_of_mem_drop (List.mem_of_mem_take hv))
      obtain ⟨olds, q1, q2, q3, q4⟩ := hold c rfl
      have happd : Row.app (Row.sub c0 o (len * sz)) new ≠ .undef := fun e => by rw [e] at h5; exact h5 rfl
      have hrow := (q2.app hnew happd).norm h5
      cases op with
      | false =>
        simp only at hD
        rw [newK_eq] at hD
        have hcc := g4 rfl
        have hg := hap.grow (some a) len c olds q1 (by omega) h8
        obtain ⟨β', r1, r2, r3⟩ := grow_new (e := e) (need := len + n) (g := grownCap w (len + n) c e) hr hsz hz hrow q3 hp (by rw [q4, hn, Nat.add_mul]) (grownCap_ge _ _ _ _)
        exact ⟨_, _, β', _, _, hg, r1, r2, r3, hD⟩
      | true =>
        simp only at hD
        obtain ⟨h9, hE⟩ := putK_ok hD ho
        rw [newK_eq] at hE
        have hne : s.blk id ≠ .none := by rw [hb]; simp
        have hnd : s.blk id ≠ .dark := by rw [hb]; simp
        rcases Nat.lt_or_ge c (len + n) with hlt | hge
        · obtain ⟨k1, k2⟩ := hr.kill hbi h9 ⟨hne, hnd⟩
          have hg := hap.grow (some a) len c olds q1 hlt h8
          obtain ⟨β', r1, r2, r3⟩ := grow_new (e := e) (need := len + n) (g := grownCap w (len + n) c e) k1 hsz hz hrow q3 hp (by rw [q4, hn, Nat.add_mul]) (grownCap_ge _ _ _ _)
          exact ⟨_, _, β', _, _, hg, r1, k2.trans r2, r3, hE⟩
        · have ha := g3 (by omega)
          subst ha
          have hbound := g7 rfl (by omega)
          have hmul : len * sz + n * sz ≤ c * sz := by rw [← Nat.add_mul]; exact Nat.mul_le_mul_right _ hge
          have hst := run_storeCells_in (P := P) b.blk (b.base + o + len * sz) t' fr news.toList 0 cs w c1 (by simp; omega) (c6.imp (fun h => h) (·.1)) hp
          simp only [Nat.add_zero] at hst
          obtain ⟨k1, k2⟩ := hr.put (w' := w.setRow b.blk (cs.toList.take (b.base + o + len * sz) ++ news.toList ++ cs.toList.drop (b.base + o + len * sz + news.toList.length)).toArray) (B := .none) hbi h9 ⟨hne, hnd⟩ (setRow_size _ _ _) (fun x hx => setRow_other _ _ _ _ hx) trivial
          have hlive : ∀ j d, β j = some d → (s.put id .none).blk j ≠ .none → d.blk ≠ b.blk := by
            intro j d hd hj he
            rw [St.blk_put] at hj
            split at hj
            · exact hj rfl
            · rename_i hji
              exact hji (hr.inj j id d b hd hbi hj hne he)
          have hcl : cs.toList.length = cs.size := by simp
          have hnl : news.toList.length = news.size := by simp
          have hol : olds.toList = (cs.toList.drop (b.base + o)).take (len * sz) := by
            by_cases hl : len = 0
            · have : olds.toList.length = 0 := by simp [q4, hl]
              rw [List.eq_nil_of_length_eq_zero this, hl]; simp
            · have hfc : (Builtin.firstCells sz len (.slice (some ⟨b.blk, b.base + o, none⟩) len c)).run P w.drew = .ok (cs.extract (b.base + o) (b.base + o + len * sz)) w.drew := by
                simp only [Builtin.firstCells]
                exact run_loadCells_at (t := t') (fr := fr) (w := w.drew) c1 (by omega)
              rw [hfc] at q1
              simp only [Result.ok.injEq, and_true] at q1
              rw [← q1, Array.toList_extract, List.extract_eq_take_drop]
              congr 1; omega
          have hrl := hrow.length
          simp only [List.length_append, Array.length_toList] at hrl
          have hsl := (c4.sub h7).length
          have hgl := (hrow.length)
          obtain ⟨r1, r2⟩ := k1.alias (b := ⟨b.blk, b.base + o, b.size⟩) (B := .row e (Row.norm (Row.app (Row.sub c0 o (len * sz)) new))) (by rw [setRow_size]; exact (hr.lt id b hbi).2) ⟨id, b, hbi, rfl⟩ hlive (by
            have hcut : ((cs.toList.take (b.base + o + len * sz) ++ news.toList ++ cs.toList.drop (b.base + o + len * sz + news.toList.length)).drop (b.base + o)).take (Row.len (Row.norm (Row.app (Row.sub c0 o (len * sz)) new))) = olds.toList ++ news.toList := by
              rw [hol]
              apply List.ext_getElem?
              intro j
              simp only [List.getElem?_take, List.getElem?_drop, List.getElem?_append, List.length_take, List.length_append, List.length_drop, hcl, hnl]
              (repeat' split) <;> first | omega | rfl | (congr 1; omega) | (rw [List.getElem?_eq_none (by omega)]) | (rw [List.getElem?_eq_none (by omega), List.getElem?_eq_none (by omega)])
            refine ⟨_, t', fr, setRow_heap w b.blk cs _ t' fr c1, ?_, ?_, ?_, ?_, ?_⟩
            · simp only [List.size_toArray, List.length_append, List.length_take, List.length_drop, hcl, hnl]; omega
            · simp only [List.size_toArray, List.length_append, List.length_take, List.length_drop, hcl, hnl]; omega
            · show RowR _ _ (List.take _ (List.drop (b.base + o) _))
              rw [hcut]
              exact hrow.mono (Bt.le_add (k1.none_next (Nat.le_refl _)))
            · intro v hv
              simp only [List.mem_append] at hv
              rcases hv with (hv | hv) | hv
              · exact c5 v (List.mem_of_mem_take hv)
              · exact hp v hv
              · exact c5 v (List.mem_of_mem_drop hv)
            · rcases c6 with c6 | ⟨c6, c6'⟩
              · exact .inl c6
              · refine .inr ⟨by simp only [List.size_toArray, List.length_append, List.length_take, List.length_drop, hcl, hnl]; omega, ?_⟩
                cases hq : isRow (.row e (Row.norm (Row.app (Row.sub c0 o (len * sz)) new))) with
                | false => rfl
                | true => rw [isRow_grown _ t _ _ _ _ hq] at c6'; cases c6')
          refine ⟨_, _, _, _, _, hap.fits ⟨b.blk, b.base + o, none⟩ len c _ (by omega) hge (by rw [Addr.add_plain]; exact hst), r1, k2.trans r2, ?_, hE⟩
          simp only [VR]
          exact ⟨_, _, c, Bt.add_self _ _, rfl, fun _ => by simp, fun h => by simp at h, hge, Nat.le_refl _, fun _ _ => by simp only [Nat.add_zero]; exact hbound⟩
end
end Go.Ev
