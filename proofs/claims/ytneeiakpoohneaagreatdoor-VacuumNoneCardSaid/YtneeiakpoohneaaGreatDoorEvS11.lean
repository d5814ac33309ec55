/- Maps. -/
import Derived.Test.YtneeiakpoohneaaGreatDoorEvS10
import Derived.MapKept
import Derived.RangeFuncRecord
import Derived.Laws.StructEq
import Derived.Laws.RangeString
set_option linter.all false
set_option linter.unusedSimpArgs false
set_option linter.unusedVariables false
namespace Go.Ev
section
variable {P : Program} {lv : Nat → Nat → Nat → Option (List Tmp)} {β : Bt} {s : St} {w : World} {out : Out}

/-- a description fits a key's kind -/
def KD (d : EqD) (td : TypeDesc) : Prop := match d with
  | .map => ∃ k, td = .int k
  | .str => td = .string
  | .bool => td = .bool
  | _ => False
def keyFits (d : EqD) (x : AV) : Prop := match d with
  | .map => ∃ k n, x = .int k n
  | .str => ∃ n p, x = .str n p
  | .bool => ∃ b, x = .bool b
  | _ => False
theorem keyK_ok {d : EqD} {x : AV} {k : Out} (h : keyK d x k = out) (ho : out ≠ .err) : keyFits d x ∧ k = out := by
  cases d <;> simp only [keyK] at h <;> try exact absurd h.symm ho
  all_goals
    cases x <;> simp only at h <;> first | exact absurd h.symm ho | exact ⟨⟨_, rfl⟩, h⟩ | exact ⟨⟨_, _, rfl⟩, h⟩
theorem keyD_ok {kt : TypeId} {x : AV} (h : keyFits (keyD P kt) x) : ∃ td, P.underlying kt = some td ∧ KD (keyD P kt) td := by
  unfold keyD at h ⊢
  cases hu : P.underlying kt with
  | none => simp only [und, hu] at h; exact h.elim
  | some td =>
    simp only [und, hu] at h ⊢
    refine ⟨td, rfl, ?_⟩
    cases td <;> first | exact h.elim | simp [KD]
theorem beqS_now {d : EqD} {td : TypeDesc} {x y : AV} {u v : Value} {r : Bool} (hd : KD d td) (hf : keyFits d x) (hx : VR β x u) (hy : VR β y v) (h : beqS x y = some r) : Instr.sameNow td u v = some r := by
  cases d <;> simp only [KD] at hd <;> simp only [keyFits] at hf
  case map =>
    obtain ⟨k, rfl⟩ := hd
    obtain ⟨j, n, rfl⟩ := hf
    cases y <;> simp only [beqS] at h <;> try (cases h)
    rename_i i m
    cases hk : kindEq j i with
    | false => rw [hk] at h; cases h
    | true =>
      rw [hk] at h
      have := kindEq_eq hk
      subst this
      simp only [VR] at hx hy
      subst hx; subst hy
      simpa [Instr.sameNow] using h
  case bool =>
    subst hd
    obtain ⟨b, rfl⟩ := hf
    cases y <;> simp only [beqS] at h <;> try (cases h)
    simp only [VR] at hx hy
    subst hx; subst hy
    simp [Instr.sameNow]
  case str =>
    subst hd
    obtain ⟨n, p, rfl⟩ := hf
    cases y <;> simp only [beqS] at h <;> try (cases h)
    simp only [VR] at hx hy
    obtain ⟨s, rfl, rfl, rfl⟩ := hx
    obtain ⟨t, rfl, rfl, rfl⟩ := hy
    simp only [Instr.sameNow, beq_toListBytes, str_eq]
/-- an equal key is the same one -/
theorem sameNow_eq {d : EqD} {td : TypeDesc} {u v : Value} (hd : KD d td) (h : Instr.sameNow td u v = some true) : u = v := by
  cases d <;> simp only [KD] at hd
  case map =>
    obtain ⟨k, rfl⟩ := hd
    cases u <;> cases v <;> simp [Instr.sameNow] at h
    obtain ⟨rfl, rfl⟩ := h
    rfl
  case bool => subst hd; cases u <;> cases v <;> simp [Instr.sameNow] at h; subst h; rfl
  case str =>
    subst hd
    cases u <;> cases v <;> simp [Instr.sameNow] at h
    rename_i a b
    have : a = b := by
      have := (MapKept.bytes_beq a b).1 (by simpa using h)
      exact this
    rw [this]
theorem run_checkKey' {d : EqD} {td : TypeDesc} {kt : TypeId} {v : Value} (hu : P.underlying kt = some td) (hd : KD d td) (e : Bool) (n : Nat) : (Instr.checkKey e (n + 1) kt v).run P w = .ok () w := by
  unfold Instr.checkKey
  simp only [Sem.run_bind, run_underlying hu, Result.andThen_ok]
  cases d <;> simp only [KD] at hd
  · obtain ⟨k, rfl⟩ := hd; rfl
  · subst hd; rfl
  · subst hd; rfl
theorem find_ok {d : EqD} {td : TypeDesc} {x : AV} {u : Value} (hd : KD d td) (hf : keyFits d x) (hx : VR β x u) : ∀ (es : ME) (l : List MapEntry) (i : Nat) (r : Option AV), MR β es l → es.find x = some r →
    (r = none ∧ Instr.findNow td u l i = some none) ∨ ∃ v j e, r = some v ∧ Instr.findNow td u l i = some (some (i + j, e.val)) ∧ l[j]? = some e ∧ VR β v e.val ∧ e.key = u
  | .nil, l, i, r, hm, h => by
    simp only [MR] at hm
    subst hm
    simp only [ME.find] at h
    cases h
    exact .inl ⟨rfl, rfl⟩
  | .cons k v b t, l, i, r, hm, h => by
    simp only [MR] at hm
    obtain ⟨e, l', rfl, h1, h2, h3, h4⟩ := hm
    simp only [ME.find] at h
    cases hb : beqS x k with
    | none => rw [hb] at h; cases h
    | some q =>
      rw [hb] at h
      have hs := beqS_now hd hf hx h1 hb
      cases q with
      | true =>
        simp only at h
        cases h
        exact .inr ⟨v, 0, e, rfl, by simp [Instr.findNow, hs], rfl, h2, (sameNow_eq hd hs).symm⟩
      | false =>
        simp only at h
        rcases find_ok hd hf hx t l' (i + 1) r h4 h with ⟨g1, g2⟩ | ⟨v', j, e', g1, g2, g3, g4, g5⟩
        · exact .inl ⟨g1, by simp [Instr.findNow, hs, g2]⟩
        · exact .inr ⟨v', j + 1, e', g1, by simp [Instr.findNow, hs, g2]; omega, by simpa using g3, g4, g5⟩
theorem set_found {d : EqD} {td : TypeDesc} {x v : AV} {u uv : Value} {clk : Nat} (hd : KD d td) (hf : keyFits d x) (hx : VR β x u) (hv : VR β v uv) : ∀ (es : ME) (l : List MapEntry) (i j : Nat) (q : AV) (val : Value), MR β es l → es.find x = some (some q) →
    Instr.findNow td u l i = some (some (i + j, val)) → MR β (es.set x v clk) (l.modify j fun e => { e with key := u, val := uv }) ∧ (es.set x v clk).borns = es.borns
  | .nil, l, i, j, q, val, hm, h, hn => by simp [ME.find] at h
  | .cons k y b t, l, i, j, q, val, hm, h, hn => by
    simp only [MR] at hm
    obtain ⟨e, l', rfl, h1, h2, h3, h4⟩ := hm
    simp only [ME.find] at h
    cases hb : beqS x k with
    | none => rw [hb] at h; cases h
    | some r =>
      rw [hb] at h
      have hs := beqS_now hd hf hx h1 hb
      cases r with
      | true =>
        simp only [Instr.findNow, hs, Option.some.injEq, Prod.mk.injEq] at hn
        have hj : j = 0 := by omega
        subst hj
        simp only [ME.set, hb, ME.borns, and_true]
        exact ⟨_, _, rfl, hx, hv, h3, h4⟩
      | false =>
        simp only at h
        simp only [Instr.findNow, hs] at hn
        have hj : 0 < j := by
          rcases find_ok hd hf hx t l' (i + 1) (some q) h4 h with ⟨g1, _⟩ | ⟨v', j', e', g1, g2, _⟩
          · cases g1
          · rw [g2] at hn
            simp only [Option.some.injEq, Prod.mk.injEq] at hn
            omega
        obtain ⟨j, rfl⟩ : ∃ m, j = m + 1 := ⟨j - 1, by omega⟩
        obtain ⟨g1, g2⟩ := set_found (clk := clk) hd hf hx hv t l' (i + 1) j q val h4 h (by rw [hn]; simp; omega)
        simp only [ME.set, hb, ME.borns, g2, and_true]
        exact ⟨_, _, rfl, h1, h2, h3, g1⟩
theorem set_new {d : EqD} {td : TypeDesc} {x v : AV} {u uv : Value} {clk : Nat} (hd : KD d td) (hf : keyFits d x) (hx : VR β x u) (hv : VR β v uv) : ∀ (es : ME) (l : List MapEntry), MR β es l → es.find x = some none →
    MR β (es.set x v clk) (l ++ [{ key := u, val := uv, born := clk }]) ∧ (es.set x v clk).borns = es.borns ++ [clk]
  | .nil, l, hm, h => by
    simp only [MR] at hm
    subst hm
    simp only [ME.set, ME.borns, List.nil_append, and_true]
    exact ⟨_, _, rfl, hx, hv, rfl, by simp [MR]⟩
  | .cons k y b t, l, hm, h => by
    simp only [MR] at hm
    obtain ⟨e, l', rfl, h1, h2, h3, h4⟩ := hm
    simp only [ME.find] at h
    cases hb : beqS x k with
    | none => rw [hb] at h; cases h
    | some r =>
      rw [hb] at h
      cases r with
      | true => simp at h
      | false =>
        simp only at h
        obtain ⟨g1, g2⟩ := set_new (clk := clk) hd hf hx hv t l' h4 h
        simp only [ME.set, hb, ME.borns, g2, List.cons_append, and_true]
        exact ⟨_, _, rfl, h1, h2, h3, g1⟩
theorem erase_found {d : EqD} {td : TypeDesc} {x : AV} {u : Value} (hd : KD d td) (hf : keyFits d x) (hx : VR β x u) : ∀ (es : ME) (l : List MapEntry) (i j : Nat) (q : AV) (val : Value), MR β es l → es.find x = some (some q) →
    Instr.findNow td u l i = some (some (i + j, val)) → MR β (es.erase x) (l.eraseIdx j) ∧ (es.erase x).borns.Sublist es.borns
  | .nil, l, i, j, q, val, hm, h, hn => by simp [ME.find] at h
  | .cons k y b t, l, i, j, q, val, hm, h, hn => by
    simp only [MR] at hm
    obtain ⟨e, l', rfl, h1, h2, h3, h4⟩ := hm
    simp only [ME.find] at h
    cases hb : beqS x k with
    | none => rw [hb] at h; cases h
    | some r =>
      rw [hb] at h
      have hs := beqS_now hd hf hx h1 hb
      cases r with
      | true =>
        simp only [Instr.findNow, hs, Option.some.injEq, Prod.mk.injEq] at hn
        have hj : j = 0 := by omega
        subst hj
        simp only [ME.erase, hb, ME.borns]
        exact ⟨h4, List.sublist_cons_self _ _⟩
      | false =>
        simp only at h
        simp only [Instr.findNow, hs] at hn
        have hj : 0 < j := by
          rcases find_ok hd hf hx t l' (i + 1) (some q) h4 h with ⟨g1, _⟩ | ⟨v', j', e', g1, g2, _⟩
          · cases g1
          · rw [g2] at hn
            simp only [Option.some.injEq, Prod.mk.injEq] at hn
            omega
        obtain ⟨j, rfl⟩ : ∃ m, j = m + 1 := ⟨j - 1, by omega⟩
        obtain ⟨g1, g2⟩ := erase_found hd hf hx t l' (i + 1) j q val h4 h (by rw [hn]; simp; omega)
        simp only [ME.erase, hb, ME.borns]
        exact ⟨⟨_, _, rfl, h1, h2, h3, g1⟩, g2.cons_cons _⟩
theorem erase_none {d : EqD} {td : TypeDesc} {x : AV} {u : Value} (hd : KD d td) (hf : keyFits d x) (hx : VR β x u) : ∀ (es : ME) (l : List MapEntry), MR β es l → es.find x = some none → es.erase x = es
  | .nil, l, hm, h => rfl
  | .cons k y b t, l, hm, h => by
    simp only [MR] at hm
    obtain ⟨e, l', rfl, h1, h2, h3, h4⟩ := hm
    simp only [ME.find] at h
    cases hb : beqS x k with
    | none => rw [hb] at h; cases h
    | some r =>
      rw [hb] at h
      cases r with
      | true => simp at h
      | false => simp only [ME.erase, hb, erase_none hd hf hx t l' h4 h]
theorem MR.len {es : ME} {l : List MapEntry} (h : MR β es l) : es.len = l.length := by
  induction es generalizing l with
  | nil => simp only [MR] at h; subst h; rfl
  | cons k v b t ih =>
    simp only [MR] at h
    obtain ⟨e, l', rfl, _, _, _, h4⟩ := h
    simp [ME.len, ih h4]

theorem mapK_ok {m : AV} {k : Nat → ME → Nat → Out} (h : mapK s m k = out) (ho : out ≠ .err) : ∃ id es clk, m = .map id ∧ s.blk id = .map es clk ∧ k id es clk = out := by
  cases m <;> simp only [mapK] at h <;> try exact absurd h.symm ho
  rename_i id
  cases hb : s.blk id <;> simp only [hb] at h <;> first | exact ⟨_, _, _, rfl, hb, h⟩ | exact absurd h.symm ho
theorem Rel.map {id : Nat} {es : ME} {clk : Nat} {v : Value} (hr : Rel P lv β s w) (hv : VR β (.map id) v) (hb : s.blk id = .map es clk) :
    ∃ b ents, β id = some b ∧ v = .map (some b.blk) ∧ w.heap[b.blk]? = some (.map ents clk) ∧ MR β es ents.toList ∧ es.good clk := by
  simp only [VR] at hv
  obtain ⟨b, hbi, rfl⟩ := hv
  have hB := hr.blk id b hbi
  rw [hb] at hB
  obtain ⟨ents, h1, h2, h3⟩ := hB
  exact ⟨b, ents, hbi, rfl, h1, h2, h3⟩
/-- a map's block is laid anew -/
theorem Rel.putMap {id : Nat} {b : Bp} {es es' : ME} {clk clk' : Nat} {ents : Array MapEntry} (hr : Rel P lv β s w) (hbi : β id = some b) (hb : s.blk id = .map es clk) (hro : s.ro ≤ id)
    (hm : MR β es' ents.toList) (hg : es'.good clk') :
    Rel P lv β (s.put id (.map es' clk')) { w with heap := w.heap.setIfInBounds b.blk (.map ents clk') } ∧ Tr β s w β (s.put id (.map es' clk')) { w with heap := w.heap.setIfInBounds b.blk (.map ents clk') } := by
  have hlt := (hr.lt id b hbi).2
  refine hr.put hbi hro (by rw [hb]; simp) (by simp) (fun x hx => by simp [Array.getElem?_setIfInBounds, Ne.symm hx]) ⟨ents, by simp [hlt], hm, hg⟩

theorem lookupK_ok {t kt e : TypeId} {okF : Bool} {m x : AV} {vm vx : Value} {k : AV → Out} (hr : Rel P lv β s w) (ht : P.underlying t = some (.map kt e)) (hz : isDef (zeroT P e) = true)
    (hm : VR β m vm) (hx : VR β x vx) (h : lookupK (keyD P kt) (zeroT P e) okF s m x k = out) (ho : out ≠ .err) : ∃ v' x', (Instr.lookup t vm vx okF).run P w = .ok v' w ∧ VR β x' v' ∧ k x' = out := by
  obtain ⟨hf, h⟩ := keyK_ok h ho
  obtain ⟨td, hu, hd⟩ := keyD_ok hf
  obtain ⟨i, z, hi, hzz, hzv⟩ := zeroT_vr (β := β) (P := P) (t := e) (fun e' => by rw [e'] at hz; cases hz)
  have hchk : ∀ b, (Instr.checkKey b 10000 kt vx).run P w = .ok () w := fun b => run_checkKey' hu hd b 9999
  have fin : ∀ (es : Array MapEntry) (r : Option AV), ((vm = .map none ∧ es = #[]) ∨ ∃ b clk, vm = .map (some b) ∧ w.heap[b]? = some (.map es clk)) →
      ((r = none ∧ Instr.findNow td vx es.toList 0 = some none) ∨ ∃ v j e, r = some v ∧ Instr.findNow td vx es.toList 0 = some (some (0 + j, e.val)) ∧ es.toList[j]? = some e ∧ VR β v e.val ∧ e.key = vx) →
      k (found (zeroT P e) okF r) = out → ∃ v' x', (Instr.lookup t vm vx okF).run P w = .ok v' w ∧ VR β x' v' ∧ k x' = out := by
    intro es r hes hfn hk
    rcases hfn with ⟨rfl, hfn⟩ | ⟨v, j, en, rfl, hfn, _, hv, _⟩
    · refine ⟨if okF then .tuple #[z, .bool false] else z, _, ?_, ?_, hk⟩
      · rcases hes with ⟨rfl, rfl⟩ | ⟨b, clk, rfl, hb⟩
        · simp only [Instr.lookup, Sem.run_bind, run_underlying ht, Result.andThen_ok, hchk, MapKept.run_findKey hu hfn, run_zero hi hzz, Sem.run_pure]
        · simp only [Instr.lookup, Sem.run_bind, run_underlying ht, Result.andThen_ok, MapKept.run_getObj_map hb, hchk, MapKept.run_findKey hu hfn, run_zero hi hzz, Sem.run_pure]
      · cases okF
        · exact hzv
        · simp only [found, VR, if_true]
          exact ⟨_, rfl, _, _, rfl, hzv, _, _, rfl, by simp [VR], rfl⟩
    · refine ⟨if okF then .tuple #[en.val, .bool true] else en.val, _, ?_, ?_, hk⟩
      · rcases hes with ⟨rfl, rfl⟩ | ⟨b, clk, rfl, hb⟩
        · simp only [Instr.lookup, Sem.run_bind, run_underlying ht, Result.andThen_ok, hchk, MapKept.run_findKey hu hfn, run_zero hi hzz, Sem.run_pure]
        · simp only [Instr.lookup, Sem.run_bind, run_underlying ht, Result.andThen_ok, MapKept.run_getObj_map hb, hchk, MapKept.run_findKey hu hfn, run_zero hi hzz, Sem.run_pure]
      · cases okF
        · exact hv
        · simp only [found, VR, if_true]
          exact ⟨_, rfl, _, _, rfl, hv, _, _, rfl, by simp [VR], rfl⟩
  by_cases hn : m = .nilm
  · subst hn
    simp only [VR] at hm
    subst hm
    exact fin #[] none (.inl ⟨rfl, rfl⟩) (.inl ⟨rfl, rfl⟩) h
  · have h' : (mapK s m fun _ es _ => match es.find x with
      | some r => k (found (zeroT P e) okF r)
      | none => .err) = out := by
      cases m <;> first | exact h | exact absurd rfl hn
    obtain ⟨id, es, clk, rfl, hb, h2⟩ := mapK_ok h' ho
    obtain ⟨b, ents, hbi, rfl, g1, g2, g3⟩ := hr.map hm hb
    cases hfi : es.find x with
    | none => rw [hfi] at h2; exact absurd h2.symm ho
    | some r =>
      rw [hfi] at h2
      exact fin ents r (.inr ⟨_, _, rfl, g1⟩) (find_ok hd hf hx es _ 0 r g2 hfi) h2

theorem keyThatStays_same {d : EqD} {td : TypeDesc} {x : AV} {u : Value} (hf : keyFits d x) (hx : VR β x u) : (Instr.keyThatStays u u).run P w = .ok u w := by
  have : Instr.sameBits 10000 u u = true := by
    cases d <;> simp only [keyFits] at hf
    · obtain ⟨k, n, rfl⟩ := hf; simp only [VR] at hx; subst hx; simp [Instr.sameBits]
    · obtain ⟨b, rfl⟩ := hf; simp only [VR] at hx; subst hx; simp [Instr.sameBits]
    · obtain ⟨n, p, rfl⟩ := hf; simp only [VR] at hx; obtain ⟨t, rfl, _⟩ := hx; simp only [Instr.sameBits]; exact (MapKept.bytes_beq t t).2 rfl
  simp [Instr.keyThatStays, this]
theorem updateK_ok {t kt e : TypeId} {m x v : AV} {vm vx vv : Value} {k : St → Out} (hr : Rel P lv β s w) (ht : P.underlying t = some (.map kt e))
    (hm : VR β m vm) (hx : VR β x vx) (hv : VR β v vv) (h : updateK (keyD P kt) s m x v k = out) (ho : out ≠ .err) :
    ∃ s' w', (Instr.mapUpdate t vm vx vv).run P w = .ok () w' ∧ Rel P lv β s' w' ∧ Tr β s w β s' w' ∧ k s' = out := by
  obtain ⟨id, es, clk, rfl, hb, h1⟩ := mapK_ok h ho
  obtain ⟨hf, h2⟩ := keyK_ok h1 ho
  obtain ⟨td, hu, hd⟩ := keyD_ok hf
  obtain ⟨b, ents, hbi, rfl, g1, g2, g3⟩ := hr.map hm hb
  have hchk : ∀ b, (Instr.checkKey b 10000 kt vx).run P w = .ok () w := fun b => run_checkKey' hu hd b 9999
  cases hfi : es.find x with
  | none => rw [hfi] at h2; exact absurd h2.symm ho
  | some r =>
    rw [hfi] at h2
    rcases find_ok hd hf hx es _ 0 r g2 hfi with ⟨rfl, hfn⟩ | ⟨q, j, en, rfl, hfn, hj, hq, hkey⟩
    · simp only at h2
      obtain ⟨hro, h3⟩ := putK_ok h2 ho
      obtain ⟨k1, k2⟩ := set_new (clk := clk) hd hf hx hv es _ g2 hfi
      obtain ⟨r1, r2⟩ := hr.putMap (es' := es.set x v clk) (clk' := clk + 1) (ents := ents.push { key := vx, val := vv, born := clk }) hbi hb hro (by simpa using k1) ⟨by
          rw [k2, List.nodup_append]
          refine ⟨g3.1, by simp, fun a ha c hc => ?_⟩
          simp only [List.mem_singleton] at hc
          subst hc
          exact Nat.ne_of_lt (g3.2 a ha), fun c hc => by
          rw [k2] at hc
          simp only [List.mem_append, List.mem_singleton] at hc
          rcases hc with hc | rfl
          · exact Nat.lt_succ_of_lt (g3.2 c hc)
          · exact Nat.lt_succ_self _⟩
      refine ⟨_, _, ?_, r1, r2, h3⟩
      simp only [Instr.mapUpdate, Sem.run_bind, run_underlying ht, Result.andThen_ok, MapKept.run_getObj_map g1, hchk, MapKept.run_findKey hu hfn, MapKept.run_setObj_map _ g1]
    · simp only at h2
      obtain ⟨hro, h3⟩ := putK_ok h2 ho
      obtain ⟨k1, k2⟩ := set_found (clk := clk) hd hf hx hv es _ 0 j q en.val g2 hfi hfn
      obtain ⟨r1, r2⟩ := hr.putMap (es' := es.set x v clk) (clk' := clk) (ents := ents.modify j fun e => { e with key := vx, val := vv }) hbi hb hro (by rw [Array.toList_modify]; exact k1) ⟨by rw [k2]; exact g3.1, by rw [k2]; exact g3.2⟩
      refine ⟨_, _, ?_, r1, r2, h3⟩
      have hj' : ents[j]? = some en := by simpa using hj
      simp only [Instr.mapUpdate, Sem.run_bind, run_underlying ht, Result.andThen_ok, MapKept.run_getObj_map g1, hchk, MapKept.run_findKey hu hfn, Nat.zero_add, hj', Option.map_some, Option.getD_some, hkey, keyThatStays_same (td := td) hf hx, MapKept.run_setObj_map _ g1]
theorem deleteK_ok {t kt e ty : TypeId} {ts : Array TypeId} (hts : ts[0]? = some t) {m x : AV} {vm vx : Value} {k : AV → St → Out} (hr : Rel P lv β s w) (ht : P.underlying t = some (.map kt e))
    (hm : VR β m vm) (hx : VR β x vx) (h : deleteK (keyD P kt) s m x k = out) (ho : out ≠ .err) :
    ∃ v' x' s' w', (Builtin.delete_ ts ty #[vm, vx]).run P w = .ok v' w' ∧ Rel P lv β s' w' ∧ Tr β s w β s' w' ∧ VR β x' v' ∧ k x' s' = out := by
  obtain ⟨id, es, clk, rfl, hb, h1⟩ := mapK_ok h ho
  obtain ⟨hf, h2⟩ := keyK_ok h1 ho
  obtain ⟨td, hu, hd⟩ := keyD_ok hf
  obtain ⟨b, ents, hbi, rfl, g1, g2, g3⟩ := hr.map hm hb
  have hchk : ∀ b, (Instr.checkKey b 10000 kt vx).run P w = .ok () w := fun b => run_checkKey' hu hd b 9999
  cases hfi : es.find x with
  | none => rw [hfi] at h2; exact absurd h2.symm ho
  | some r =>
    rw [hfi] at h2
    simp only at h2
    obtain ⟨hro, h3⟩ := putK_ok h2 ho
    rcases find_ok hd hf hx es _ 0 r g2 hfi with ⟨rfl, hfn⟩ | ⟨q, j, en, rfl, hfn, hj, hq, hkey⟩
    · obtain ⟨r1, r2⟩ := hr.putMap (es' := es.erase x) (clk' := clk) (ents := ents) hbi hb hro (by rw [erase_none hd hf hx es _ g2 hfi]; exact g2) (by rw [erase_none hd hf hx es _ g2 hfi]; exact g3)
      refine ⟨.tuple #[], _, _, _, ?_, r1, r2, by simp [VR, LR], h3⟩
      simp only [Builtin.delete_, hts, List.getElem?_toArray, List.getElem?_cons_zero, List.getElem?_cons_succ, Sem.run_bind, run_underlying ht, Result.andThen_ok, MapKept.run_getObj_map g1, hchk, MapKept.run_findKey hu hfn, MapKept.run_setObj_map _ g1, Sem.run_pure]
    · obtain ⟨k1, k2⟩ := erase_found hd hf hx es _ 0 j q en.val g2 hfi hfn
      obtain ⟨r1, r2⟩ := hr.putMap (es' := es.erase x) (clk' := clk) (ents := ents.eraseIdxIfInBounds j) hbi hb hro (by rw [Array.toList_eraseIdxIfInBounds]; exact k1) ⟨g3.1.sublist k2, fun c hc => g3.2 c (k2.subset hc)⟩
      refine ⟨.tuple #[], _, _, _, ?_, r1, r2, by simp [VR, LR], h3⟩
      simp only [Builtin.delete_, hts, List.getElem?_toArray, List.getElem?_cons_zero, List.getElem?_cons_succ, Sem.run_bind, run_underlying ht, Result.andThen_ok, MapKept.run_getObj_map g1, hchk, MapKept.run_findKey hu hfn, Nat.zero_add, MapKept.run_setObj_map _ g1, Sem.run_pure]
theorem clearK_ok {t ty : TypeId} {ts : Array TypeId} (hts : ts[0]? = some t) {d : TypeDesc} {m : AV} {vm : Value} {k : AV → St → Out} (hr : Rel P lv β s w) (ht : P.underlying t = some d)
    (hm : VR β m vm) (h : clearK s m k = out) (ho : out ≠ .err) :
    ∃ v' x' s' w', (Builtin.clear_ ts ty #[vm]).run P w = .ok v' w' ∧ Rel P lv β s' w' ∧ Tr β s w β s' w' ∧ VR β x' v' ∧ k x' s' = out := by
  obtain ⟨id, es, clk, rfl, hb, h1⟩ := mapK_ok h ho
  obtain ⟨b, ents, hbi, rfl, g1, g2, g3⟩ := hr.map hm hb
  obtain ⟨hro, h3⟩ := putK_ok h1 ho
  obtain ⟨r1, r2⟩ := hr.putMap (es' := .nil) (clk' := clk) (ents := #[]) hbi hb hro (by simp [MR]) (by simp [ME.good, ME.borns])
  refine ⟨.tuple #[], _, _, _, ?_, r1, r2, by simp [VR, LR], h3⟩
  simp [Builtin.clear_, hts, run_underlying ht, MapKept.run_getObj_map g1, MapKept.run_setObj_map _ g1]
theorem lenMapK_ok {t kt e ty : TypeId} {ts : Array TypeId} (hts : ts[0]? = some t) {m : AV} {vm : Value} {k : AV → Out} (hr : Rel P lv β s w) (ht : P.underlying t = some (.map kt e))
    (hm : VR β m vm) (h : lenMapK s m k = out) (ho : out ≠ .err) : ∃ v' x', (Builtin.len_ ts ty #[vm]).run P w = .ok v' w ∧ VR β x' v' ∧ k x' = out := by
  by_cases hn : m = .nilm
  · subst hn
    simp only [VR] at hm
    subst hm
    exact ⟨Go.goInt 0, _, by simp [Builtin.len_, hts, run_underlying ht], by simp [Ev.goInt, Go.goInt, VR], h⟩
  · have h' : (mapK s m fun _ es _ => k (goInt es.len)) = out := by
      cases m <;> first | exact h | exact absurd rfl hn
    obtain ⟨id, es, clk, rfl, hb, h2⟩ := mapK_ok h' ho
    obtain ⟨b, ents, hbi, rfl, g1, g2, g3⟩ := hr.map hm hb
    refine ⟨Go.goInt ents.size, _, by simp [Builtin.len_, hts, run_underlying ht, MapKept.run_getObj_map g1], ?_, h2⟩
    have := MR.len g2
    simp only [Ev.goInt, Go.goInt, VR, this, Array.length_toList]
    rfl
theorem alloc_size (w : World) (o : Obj) : (w.alloc o).heap.size = w.heap.size + 1 := by show (w.heap.push o).size = _; simp
theorem alloc_old' (w : World) (o : Obj) (x : Nat) (hx : x < w.heap.size) : (w.alloc o).heap[x]? = w.heap[x]? := by show (w.heap.push o)[x]? = _; rw [Array.getElem?_push, if_neg (Nat.ne_of_lt hx)]
theorem alloc_new' (w : World) (o : Obj) : (w.alloc o).heap[w.heap.size]? = some o := by show (w.heap.push o)[w.heap.size]? = _; simp
theorem Rel.newObj {o : Obj} {B : Blk} (hr : Rel P lv β s w) (hB : BlkR P lv (β.add s.next ⟨w.heap.size, 0, 0⟩) (s.new B) (w.alloc o) ⟨w.heap.size, 0, 0⟩ B) :
    Rel P lv (β.add s.next ⟨w.heap.size, 0, 0⟩) (s.new B) (w.alloc o) ∧ Tr β s w (β.add s.next ⟨w.heap.size, 0, 0⟩) (s.new B) (w.alloc o) :=
  hr.new rfl (alloc_size _ _) (fun x hx => alloc_old' _ _ x hx) hB
theorem makeMap_ok {t : TypeId} {k : AV → St → Out} (hr : Rel P lv β s w) (h : newK s (.map .nil 0) (fun i s => k (.map i) s) = out) :
    ∃ v' x' β' s' w', (Instr.makeMap t none).run P w = .ok v' w' ∧ Rel P lv β' s' w' ∧ Tr β s w β' s' w' ∧ VR β' x' v' ∧ k x' s' = out := by
  rw [newK_eq] at h
  obtain ⟨r1, r2⟩ := hr.newObj (o := .map #[] 0) (B := .map .nil 0) ⟨#[], alloc_new' _ _, by simp [MR], by simp [ME.good, ME.borns]⟩
  refine ⟨.map (some w.heap.size), _, _, _, _, ?_, r1, r2, ?_, h⟩
  · rfl
  · simp only [VR]; exact ⟨_, Bt.add_self _ _, rfl⟩

/- iterators -/
theorem rangeStrK_ok {t : TypeId} {x : AV} {v : Value} {k : AV → St → Out} (hr : Rel P lv β s w) (ht : P.underlying t = some .string) (hx : VR β x v) (h : rangeStrK s x k = out) (ho : out ≠ .err) :
    ∃ v' x' β' s' w', (Instr.range t v).run P w = .ok v' w' ∧ Rel P lv β' s' w' ∧ Tr β s w β' s' w' ∧ VR β' x' v' ∧ k x' s' = out := by
  cases x <;> simp only [rangeStrK] at h <;> try exact absurd h.symm ho
  rename_i n p
  rw [newK_eq] at h
  simp only [VR] at hx
  obtain ⟨u, rfl, hu1, hu2⟩ := hx
  obtain ⟨r1, r2⟩ := hr.newObj (o := .stringIter u 0) (B := .sit n p 0) ⟨rfl, u, alloc_new' _ _, hu1, hu2⟩
  refine ⟨.pointer (some ⟨w.heap.size, 0, none⟩), _, _, _, _, ?_, r1, r2, VR.ptrNew rfl, h⟩
  simp [Instr.range, run_underlying ht]
theorem rangeMapK_ok {t kt e : TypeId} {x : AV} {v : Value} {k : AV → St → Out} (hr : Rel P lv β s w) (ht : P.underlying t = some (.map kt e)) (hx : VR β x v) (h : rangeMapK s x k = out) (ho : out ≠ .err) :
    ∃ v' x' β' s' w', (Instr.range t v).run P w = .ok v' w' ∧ Rel P lv β' s' w' ∧ Tr β s w β' s' w' ∧ VR β' x' v' ∧ k x' s' = out := by
  obtain ⟨id, es, clk, rfl, hb, h1⟩ := mapK_ok h ho
  obtain ⟨b, ents, hbi, rfl, g1, g2, g3⟩ := hr.map hx hb
  rw [newK_eq] at h1
  obtain ⟨r1, r2⟩ := hr.newObj (o := .mapIter (some b.blk) clk #[] clk) (B := .mit id clk) ⟨rfl, b, Bt.le_add (hr.none_next (Nat.le_refl _)) _ _ hbi, alloc_new' _ _⟩
  refine ⟨.pointer (some ⟨w.heap.size, 0, none⟩), _, _, _, _, ?_, r1, r2, VR.ptrNew rfl, h1⟩
  simp [Instr.range, run_underlying ht, MapKept.run_getObj_map g1]
theorem nextStrK_ok {ty : TypeId} {x : AV} {v : Value} {k : AV → St → Out} (hr : Rel P lv β s w) (hx : VR β x v) (h : nextStrK s x k = out) (ho : out ≠ .err) :
    ∃ v' x' s' w', (Instr.next v true ty).run P w = .ok v' w' ∧ Rel P lv β s' w' ∧ Tr β s w β s' w' ∧ VR β x' v' ∧ k x' s' = out := by
  cases x <;> simp only [nextStrK] at h <;> try exact absurd h.symm ho
  rename_i id o
  cases o with
  | succ o => exact absurd h.symm ho
  | zero =>
    simp only at h
    simp only [VR] at hx
    obtain ⟨b, hbi, rfl⟩ := hx
    have hB := hr.blk id b hbi
    cases hb : s.blk id <;> simp only [hb] at h <;> try exact absurd h.symm ho
    rename_i n p pos
    rw [hb] at hB
    obtain ⟨h0, u, g1, rfl, rfl⟩ := hB
    have hget : (getObj b.blk).run P w = .ok (.stringIter u pos) w := by simp [getObj, Sem.run, g1]
    have hset : ∀ o, (setObj b.blk o).run P w = .ok () { w with heap := w.heap.setIfInBounds b.blk o } := fun o => by simp [setObj, Sem.run, g1]
    rw [h0]
    cases hlt : Nat.blt pos u.size with
    | false =>
      rw [hlt] at h
      simp only [cond_false] at h
      have hnl : ¬ pos < u.size := fun hh => by have := Nat.ble_eq_true_of_le hh; rw [show Nat.ble (pos + 1) u.size = Nat.blt pos u.size from rfl, hlt] at this; cases this
      refine ⟨.tuple #[.bool false], _, s, w, ?_, hr, .refl _ _ _, ?_, h⟩
      · simp [Instr.next, hget, hnl]
      · simp only [VR, LR]; exact ⟨_, rfl, _, _, rfl, rfl, rfl⟩
    | true =>
      rw [hlt] at h
      have hl := blt_lt hlt
      obtain ⟨h2, h3⟩ := of_bif h ho
      have h2 := blt_lt h2
      obtain ⟨hro, h4⟩ := putK_ok h3 ho
      have hl' : pos < u.data.toList.length := by rw [← size_data]; exact hl
      have hg := packB_get u.data.toList pos hl'
      rw [hg] at h2 h4
      have hu : (u[pos]'hl).toNat = (u.data.toList[pos]).toNat := by simp [ByteArray.getElem_eq_getElem_data]
      have hdec := decode_ascii u pos hl (by rw [hu]; exact h2)
      have hlt' := (hr.lt id b hbi).2
      obtain ⟨r1, r2⟩ := hr.put (w' := { w with heap := w.heap.setIfInBounds b.blk (.stringIter u (pos + 1)) }) (B := .sit u.size (packB u.data.toList) (pos + 1)) hbi hro (by rw [hb]; simp) (by simp)
        (fun x hx => by simp [Array.getElem?_setIfInBounds, Ne.symm hx]) ⟨h0, u, by simp [hlt'], rfl, rfl⟩
      refine ⟨.tuple #[.bool true, Go.goInt pos, .int .i32 (u[pos]'hl).toNat], _, _, _, ?_, r1, r2, ?_, h4⟩
      · simp [Instr.next, hget, hl, hdec, hset]
      · simp only [VR, LR]
        refine ⟨_, rfl, _, _, rfl, rfl, _, _, rfl, rfl, _, _, rfl, ?_, rfl⟩
        rw [hu]
        rfl
end
end Go.Ev
