/- The relation between the evaluator's values and the model's; rows. -/
import Derived.Test.YtneeiakpoohneaaGreatDoorEvB
set_option linter.all false
namespace Go.Ev

/-- a block of the evaluator's: the model's block, where it begins there, how many cells that has -/
structure Bp where
  blk : Nat
  base : Nat
  size : Nat
abbrev Bt := Nat → Option Bp

/-- n cells that are bytes, the first lowest in p -/
def bcells : Nat → Nat → List Value
  | 0, _ => []
  | n + 1, p => .int .u8 (Int.ofNat (p % 256)) :: bcells n (p / 256)

mutual
def VR (β : Bt) : AV → Value → Prop
  | .undef, _ => True
  | .int k n, v => v = .int k n
  | .bool b, v => v = .bool b
  | .nilv, v => v = .pointer none
  | .nils, v => v = .slice none 0 0
  | .nilm, v => v = .map none
  | .nilf, v => v = .nilFunc
  | .nili, v => v = .nilIface
  | .ptr i o, v => ∃ b, β i = some b ∧ v = .pointer (some ⟨b.blk, b.base + o, none⟩)
  | .slice i o len cap sz op, v => ∃ b a c, β i = some b ∧ v = .slice (some a) len c ∧ (c ≠ 0 → a = ⟨b.blk, b.base + o, none⟩) ∧ (op = false → c = cap) ∧ cap ≤ c ∧ len ≤ cap ∧ (op = true → c ≠ 0 → b.base + o + c * sz ≤ b.size)
  | .str n p, v => ∃ s, v = .string s ∧ s.size = n ∧ packB s.data.toList = p
  | .cells l, v => ∃ a, v = .agg a ∧ (∀ v ∈ a.toList, oneC v = true) ∧ LR β l a.toList
  | .bytes n p, v => ∃ a, v = .agg a ∧ p < 256 ^ n ∧ a.toList = bcells n p
  | .tup l, v => ∃ a, v = .tuple a ∧ LR β l a.toList
  | .map i, v => ∃ b, β i = some b ∧ v = .map (some b.blk)
  | .func f x c, v => ∃ a b, v = .func (.func f) a b ∧ LR β x a.toList ∧ LR β c b.toList
  | .yield l, v => ∃ b, β l = some b ∧ v = .func (.yield b.blk) #[] #[]
  | .iface t x, v => ∃ y, v = .iface t y ∧ VR β x y
def LR (β : Bt) : List AV → List Value → Prop
  | [], l => l = []
  | x :: xs, l => ∃ v vs, l = v :: vs ∧ VR β x v ∧ LR β xs vs
end

/-- a row of cells -/
def RowR (β : Bt) : AV → List Value → Prop
  | .cells l, vs => LR β l vs
  | .bytes n p, vs => p < 256 ^ n ∧ vs = bcells n p
  | _, _ => False

def BtLe (β β' : Bt) : Prop := ∀ i b, β i = some b → β' i = some b

theorem BtLe.refl (β : Bt) : BtLe β β := fun _ _ h => h
theorem BtLe.trans {β β' β'' : Bt} (h : BtLe β β') (h' : BtLe β' β'') : BtLe β β'' := fun i b hb => h' i b (h i b hb)

mutual
theorem VR.mono {β β' : Bt} (hle : BtLe β β') : ∀ (x : AV) (v : Value), VR β x v → VR β' x v
  | .undef, _, _ => by simp [VR]
  | .int k n, v, h => by simpa [VR] using h
  | .bool b, v, h => by simpa [VR] using h
  | .nilv, v, h => by simpa [VR] using h
  | .nils, v, h => by simpa [VR] using h
  | .nilm, v, h => by simpa [VR] using h
  | .nilf, v, h => by simpa [VR] using h
  | .nili, v, h => by simpa [VR] using h
  | .ptr i o, v, h => by
    simp only [VR] at h ⊢
    obtain ⟨b, hb, h⟩ := h
    exact ⟨b, hle _ _ hb, h⟩
  | .slice i o len cap sz op, v, h => by
    simp only [VR] at h ⊢
    obtain ⟨b, a, c, hb, h⟩ := h
    exact ⟨b, a, c, hle _ _ hb, h⟩
  | .str n p, v, h => by simpa [VR] using h
  | .cells l, v, h => by
    simp only [VR] at h ⊢
    obtain ⟨a, ha, hp, h⟩ := h
    exact ⟨a, ha, hp, LR.mono hle l _ h⟩
  | .bytes n p, v, h => by simpa [VR] using h
  | .tup l, v, h => by
    simp only [VR] at h ⊢
    obtain ⟨a, ha, h⟩ := h
    exact ⟨a, ha, LR.mono hle l _ h⟩
  | .map i, v, h => by
    simp only [VR] at h ⊢
    obtain ⟨b, hb, h⟩ := h
    exact ⟨b, hle _ _ hb, h⟩
  | .func f x c, v, h => by
    simp only [VR] at h ⊢
    obtain ⟨a, b, hv, h1, h2⟩ := h
    exact ⟨a, b, hv, LR.mono hle x _ h1, LR.mono hle c _ h2⟩
  | .yield l, v, h => by
    simp only [VR] at h ⊢
    obtain ⟨b, hb, h⟩ := h
    exact ⟨b, hle _ _ hb, h⟩
  | .iface t x, v, h => by
    simp only [VR] at h ⊢
    obtain ⟨y, hy, h⟩ := h
    exact ⟨y, hy, VR.mono hle x y h⟩
theorem LR.mono {β β' : Bt} (hle : BtLe β β') : ∀ (x : List AV) (v : List Value), LR β x v → LR β' x v
  | [], v, h => by simpa [LR] using h
  | x :: xs, v, h => by
    simp only [LR] at h ⊢
    obtain ⟨y, ys, hv, h1, h2⟩ := h
    exact ⟨y, ys, hv, VR.mono hle x y h1, LR.mono hle xs ys h2⟩
end

mutual
/-- what is related above is related below, where the identifiers are there below -/
theorem VR.back {β β' : Bt} (hle : BtLe β β') : ∀ (x : AV) (v u : Value), VR β x u → VR β' x v → VR β x v
  | .undef, _, _, _, _ => by simp [VR]
  | .int k n, v, _, _, h => by simpa [VR] using h
  | .bool b, v, _, _, h => by simpa [VR] using h
  | .nilv, v, _, _, h => by simpa [VR] using h
  | .nils, v, _, _, h => by simpa [VR] using h
  | .nilm, v, _, _, h => by simpa [VR] using h
  | .nilf, v, _, _, h => by simpa [VR] using h
  | .nili, v, _, _, h => by simpa [VR] using h
  | .ptr i o, v, u, hu, h => by
    simp only [VR] at h hu ⊢
    obtain ⟨b, hb, h⟩ := h
    obtain ⟨c, hc, _⟩ := hu
    have := hle _ _ hc
    rw [hb] at this
    obtain rfl : b = c := by simpa using this
    exact ⟨b, hc, h⟩
  | .slice i o len cap sz op, v, u, hu, h => by
    simp only [VR] at h hu ⊢
    obtain ⟨b, a, c, hb, h⟩ := h
    obtain ⟨b', _, _, hc, _⟩ := hu
    have := hle _ _ hc
    rw [hb] at this
    obtain rfl : b = b' := by simpa using this
    exact ⟨b, a, c, hc, h⟩
  | .str n p, v, _, _, h => by simpa [VR] using h
  | .cells l, v, u, hu, h => by
    simp only [VR] at h hu ⊢
    obtain ⟨a, ha, hp, h⟩ := h
    obtain ⟨_, _, _, hu⟩ := hu
    exact ⟨a, ha, hp, LR.back hle l _ _ hu h⟩
  | .bytes n p, v, _, _, h => by simpa [VR] using h
  | .tup l, v, u, hu, h => by
    simp only [VR] at h hu ⊢
    obtain ⟨a, ha, h⟩ := h
    obtain ⟨_, _, hu⟩ := hu
    exact ⟨a, ha, LR.back hle l _ _ hu h⟩
  | .map i, v, u, hu, h => by
    simp only [VR] at h hu ⊢
    obtain ⟨b, hb, h⟩ := h
    obtain ⟨c, hc, _⟩ := hu
    have := hle _ _ hc
    rw [hb] at this
    obtain rfl : b = c := by simpa using this
    exact ⟨b, hc, h⟩
  | .func f x c, v, u, hu, h => by
    simp only [VR] at h hu ⊢
    obtain ⟨a, b, hv, h1, h2⟩ := h
    obtain ⟨_, _, _, g1, g2⟩ := hu
    exact ⟨a, b, hv, LR.back hle x _ _ g1 h1, LR.back hle c _ _ g2 h2⟩
  | .yield l, v, u, hu, h => by
    simp only [VR] at h hu ⊢
    obtain ⟨b, hb, h⟩ := h
    obtain ⟨c, hc, _⟩ := hu
    have := hle _ _ hc
    rw [hb] at this
    obtain rfl : b = c := by simpa using this
    exact ⟨b, hc, h⟩
  | .iface t x, v, u, hu, h => by
    simp only [VR] at h hu ⊢
    obtain ⟨y, hy, h⟩ := h
    obtain ⟨_, _, hu⟩ := hu
    exact ⟨y, hy, VR.back hle x _ _ hu h⟩
theorem LR.back {β β' : Bt} (hle : BtLe β β') : ∀ (x : List AV) (v u : List Value), LR β x u → LR β' x v → LR β x v
  | [], v, _, _, h => by simpa [LR] using h
  | x :: xs, v, u, hu, h => by
    simp only [LR] at h hu ⊢
    obtain ⟨y, ys, hv, h1, h2⟩ := h
    obtain ⟨_, _, _, g1, g2⟩ := hu
    exact ⟨y, ys, hv, VR.back hle x _ _ g1 h1, LR.back hle xs _ _ g2 h2⟩
end

theorem RowR.mono {β β' : Bt} (hle : BtLe β β') {c : AV} {l : List Value} (h : RowR β c l) : RowR β' c l := by
  cases c <;> simp only [RowR] at h ⊢
  · exact LR.mono hle _ _ h
  · exact h
theorem RowR.back {β β' : Bt} (hle : BtLe β β') {c : AV} {l u : List Value} (hu : RowR β c u) (h : RowR β' c l) : RowR β c l := by
  cases c <;> simp only [RowR] at h hu ⊢
  · exact LR.back hle _ _ _ hu h
  · exact h

/- lists -/
theorem lenL_eq : ∀ l : List AV, lenL l = l.length
  | [] => rfl
  | _ :: t => by simp [lenL, lenL_eq t]
theorem appL_eq : ∀ l m : List AV, appL l m = l ++ m
  | [], _ => rfl
  | _ :: t, m => by simp [appL, appL_eq t]
theorem takeL_eq : ∀ (l : List AV) (n : Nat), takeL l n = l.take n
  | [], n => by simp [takeL]
  | h :: t, 0 => by simp [takeL]
  | h :: t, n + 1 => by simp [takeL, takeL_eq t]
theorem dropL_eq : ∀ (l : List AV) (n : Nat), dropL l n = l.drop n
  | [], n => by simp [dropL]
  | h :: t, 0 => by simp [dropL]
  | h :: t, n + 1 => by simp [dropL, dropL_eq t]
theorem nthL_eq : ∀ (l : List AV) (n : Nat), nthL l n = l.getD n .undef
  | [], n => by simp [nthL]
  | h :: t, 0 => by simp [nthL]
  | h :: t, n + 1 => by simp [nthL, nthL_eq t]
theorem setL_eq : ∀ (l : List AV) (n : Nat) (v : AV), setL l n v = l.set n v
  | [], n, _ => by simp [setL]
  | h :: t, 0, _ => by simp [setL]
  | h :: t, n + 1, v => by simp [setL, setL_eq t]

theorem LR.length {β : Bt} : ∀ {l : List AV} {vs : List Value}, LR β l vs → vs.length = l.length
  | [], vs, h => by simp only [LR] at h; simp [h]
  | x :: xs, vs, h => by
    simp only [LR] at h
    obtain ⟨v, ws, rfl, _, h⟩ := h
    simp [LR.length h]
theorem LR.append {β : Bt} : ∀ {l m : List AV} {vs ws : List Value}, LR β l vs → LR β m ws → LR β (l ++ m) (vs ++ ws)
  | [], m, vs, ws, h, h' => by simp only [LR] at h; subst h; simpa using h'
  | x :: xs, m, vs, ws, h, h' => by
    simp only [LR] at h
    obtain ⟨v, us, rfl, hv, h⟩ := h
    simp only [List.cons_append, LR]
    exact ⟨v, us ++ ws, rfl, hv, LR.append h h'⟩
theorem LR.take {β : Bt} : ∀ {l : List AV} {vs : List Value} (n : Nat), LR β l vs → LR β (l.take n) (vs.take n)
  | [], vs, n, h => by simp only [LR] at h; subst h; simp [LR]
  | x :: xs, vs, 0, h => by simp [LR]
  | x :: xs, vs, n + 1, h => by
    simp only [LR] at h
    obtain ⟨v, us, rfl, hv, h⟩ := h
    simp only [List.take_succ_cons, LR]
    exact ⟨v, _, rfl, hv, LR.take n h⟩
theorem LR.drop {β : Bt} : ∀ {l : List AV} {vs : List Value} (n : Nat), LR β l vs → LR β (l.drop n) (vs.drop n)
  | [], vs, n, h => by simp only [LR] at h; subst h; simp [LR]
  | x :: xs, vs, 0, h => by simpa using h
  | x :: xs, vs, n + 1, h => by
    simp only [LR] at h
    obtain ⟨v, us, rfl, hv, h⟩ := h
    simpa using LR.drop n h
theorem LR.getD {β : Bt} : ∀ {l : List AV} {vs : List Value} (n : Nat) (d : Value), LR β l vs → VR β (l.getD n .undef) (vs.getD n d)
  | [], vs, n, d, h => by simp [VR]
  | x :: xs, vs, 0, d, h => by
    simp only [LR] at h
    obtain ⟨v, us, rfl, hv, h⟩ := h
    simpa using hv
  | x :: xs, vs, n + 1, d, h => by
    simp only [LR] at h
    obtain ⟨v, us, rfl, hv, h⟩ := h
    simpa using LR.getD n d h
theorem LR.set {β : Bt} : ∀ {l : List AV} {vs : List Value} (n : Nat) {x : AV} {v : Value}, LR β l vs → VR β x v → LR β (l.set n x) (vs.set n v)
  | [], vs, n, x, v, h, _ => by simp only [LR] at h; subst h; simp [LR]
  | y :: ys, vs, 0, x, v, h, hx => by
    simp only [LR] at h
    obtain ⟨w, us, rfl, hv, h⟩ := h
    simp only [List.set_cons_zero, LR]
    exact ⟨v, us, rfl, hx, h⟩
  | y :: ys, vs, n + 1, x, v, h, hx => by
    simp only [LR] at h
    obtain ⟨w, us, rfl, hv, h⟩ := h
    simp only [List.set_cons_succ, LR]
    exact ⟨w, _, rfl, hv, LR.set n h hx⟩

/- bytes -/
theorem bcells_length : ∀ n p, (bcells n p).length = n
  | 0, _ => rfl
  | n + 1, p => by simp [bcells, bcells_length n]
theorem pow256 (n : Nat) : (2 : Nat) ^ (8 * n) = 256 ^ n := by rw [Nat.pow_mul]
theorem bcells_app : ∀ (n m p q : Nat), p < 256 ^ n → bcells (n + m) (p + q * 256 ^ n) = bcells n p ++ bcells m q
  | 0, m, p, q, h => by
    have : p = 0 := by simpa using h
    simp [this, bcells]
  | n + 1, m, p, q, h => by
    have e : n + 1 + m = (n + m) + 1 := by omega
    have h1 : (p + q * 256 ^ (n + 1)) % 256 = p % 256 := by
      rw [Nat.pow_succ, ← Nat.mul_assoc, Nat.add_mul_mod_self_right]
    have h2 : (p + q * 256 ^ (n + 1)) / 256 = p / 256 + q * 256 ^ n := by
      rw [Nat.pow_succ, ← Nat.mul_assoc, Nat.add_mul_div_right _ _ (by omega)]
    rw [e]
    simp only [bcells, List.cons_append]
    rw [h1, h2, bcells_app n m (p / 256) q (by rw [Nat.pow_succ] at h; omega)]
theorem bcells_drop : ∀ (n k p : Nat), (bcells n p).drop k = bcells (n - k) (p / 256 ^ k)
  | 0, k, p => by simp [bcells]
  | n + 1, 0, p => by simp
  | n + 1, k + 1, p => by
    have e : n + 1 - (k + 1) = n - k := by omega
    rw [e]
    simp only [bcells, List.drop_succ_cons]
    rw [bcells_drop n k, Nat.div_div_eq_div_mul, Nat.pow_succ, Nat.mul_comm 256]
theorem bcells_take : ∀ (n k p : Nat), k ≤ n → (bcells n p).take k = bcells k (p % 256 ^ k)
  | _, 0, p, _ => by simp [bcells]
  | 0, k + 1, p, h => by omega
  | n + 1, k + 1, p, h => by
    simp only [bcells, List.take_succ_cons]
    rw [bcells_take n k (p / 256) (by omega)]
    have h1 : p % 256 ^ (k + 1) % 256 = p % 256 := by
      rw [Nat.pow_succ]; exact Nat.mod_mul_left_mod _ _ _
    have h2 : p % 256 ^ (k + 1) / 256 = p / 256 % 256 ^ k := by
      rw [Nat.pow_succ, Nat.mul_comm, Nat.mod_mul_right_div_self]
    rw [h1, h2]
theorem bcells_getD : ∀ (n i p : Nat) (d : Value), i < n → (bcells n p).getD i d = .int .u8 (Int.ofNat (p / 256 ^ i % 256))
  | 0, i, p, d, h => by omega
  | n + 1, 0, p, d, h => by simp [bcells]
  | n + 1, i + 1, p, d, h => by
    simp only [bcells, List.getD_cons_succ]
    rw [bcells_getD n i (p / 256) d (by omega), Nat.div_div_eq_div_mul, Nat.pow_succ, Nat.mul_comm 256]
theorem bget_eq (p i : Nat) : bget p i = p / 256 ^ i % 256 := by
  unfold bget; rw [Nat.shiftRight_eq_div_pow, pow256]
theorem bcells_set : ∀ (n i p x : Nat), i < n → x < 256 → p < 256 ^ n →
    (bcells n p).set i (.int .u8 (Int.ofNat x)) = bcells n (p - (bget p i) <<< (8 * i) + x <<< (8 * i)) ∧ p - (bget p i) <<< (8 * i) + x <<< (8 * i) < 256 ^ n
  | 0, i, p, x, h, _, _ => by omega
  | n + 1, 0, p, x, h, hx, hp => by
    have hb : bget p 0 = p % 256 := by rw [bget_eq]; simp
    have he : p - p % 256 = 256 * (p / 256) := by omega
    have h1 : (p - p % 256 + x) % 256 = x := by rw [he]; omega
    have h2 : (p - p % 256 + x) / 256 = p / 256 := by rw [he]; omega
    rw [Nat.pow_succ] at hp ⊢
    simp only [bcells, List.set_cons_zero, hb, Nat.mul_zero, Nat.shiftLeft_zero]
    rw [h1, h2]
    exact ⟨rfl, by omega⟩
  | n + 1, i + 1, p, x, h, hx, hp => by
    have hp' : p / 256 < 256 ^ n := by rw [Nat.pow_succ] at hp; omega
    obtain ⟨h1, h2⟩ := bcells_set n i (p / 256) x (by omega) hx hp'
    have hb : bget p (i + 1) = bget (p / 256) i := by
      rw [bget_eq, bget_eq, Nat.div_div_eq_div_mul, Nat.pow_succ, Nat.mul_comm 256]
    simp only [Nat.shiftLeft_eq, pow256] at h1 h2 ⊢
    have hle : bget (p / 256) i * 256 ^ i ≤ p / 256 := by
      rw [bget_eq]
      calc p / 256 / 256 ^ i % 256 * 256 ^ i ≤ p / 256 / 256 ^ i * 256 ^ i := Nat.mul_le_mul_right _ (Nat.mod_le _ _)
        _ ≤ p / 256 := Nat.div_mul_le_self _ _
    have e : p - bget p (i + 1) * 256 ^ (i + 1) + x * 256 ^ (i + 1) = p % 256 + 256 * (p / 256 - bget (p / 256) i * 256 ^ i + x * 256 ^ i) := by
      rw [hb, Nat.pow_succ]
      have a1 : bget (p / 256) i * (256 ^ i * 256) = 256 * (bget (p / 256) i * 256 ^ i) := by rw [← Nat.mul_assoc, Nat.mul_comm]
      have a2 : x * (256 ^ i * 256) = 256 * (x * 256 ^ i) := by rw [← Nat.mul_assoc, Nat.mul_comm]
      rw [a1, a2]
      generalize bget (p / 256) i * 256 ^ i = u at hle ⊢
      generalize x * 256 ^ i = y
      omega
    rw [e]
    generalize p / 256 - bget (p / 256) i * 256 ^ i + x * 256 ^ i = q at h1 h2 ⊢
    have h3 : (p % 256 + 256 * q) % 256 = p % 256 := by omega
    have h4 : (p % 256 + 256 * q) / 256 = q := by omega
    simp only [bcells, List.set_cons_succ]
    rw [h3, h4, h1, Nat.pow_succ]
    exact ⟨rfl, by omega⟩
theorem packL_spec {β : Bt} : ∀ {l : List AV} {vs : List Value} {n p : Nat}, packL l = some (n, p) → LR β l vs → vs = bcells n p ∧ p < 256 ^ n ∧ n = l.length
  | [], vs, n, p, h, hr => by
    simp only [packL, Option.some.injEq, Prod.mk.injEq] at h
    simp only [LR] at hr
    obtain ⟨rfl, rfl⟩ := h
    subst hr
    simp [bcells]
  | x :: xs, vs, n, p, h, hr => by
    simp only [LR] at hr
    obtain ⟨v, us, rfl, hv, hr⟩ := hr
    simp only [packL] at h
    split at h
    · rename_i y
      split at h
      · rename_i m q hq
        cases hy : Nat.blt y 256
        · simp [hy] at h
        · simp only [hy, cond_true, Option.some.injEq, Prod.mk.injEq] at h
          obtain ⟨rfl, rfl⟩ := h
          obtain ⟨h1, h2, h3⟩ := packL_spec hq hr
          simp only [VR] at hv
          have hy' : y < 256 := by simpa [Nat.blt_eq] using hy
          have e1 : (y + 256 * q) % 256 = y := by omega
          have e2 : (y + 256 * q) / 256 = q := by omega
          refine ⟨by simp only [bcells]; rw [e1, e2, hv, h1], by rw [Nat.pow_succ]; omega, by simp [h3]⟩
      · simp at h
    · simp at h

/- rows -/
theorem RowR.length {β : Bt} {c : AV} {vs : List Value} (h : RowR β c vs) : vs.length = Row.len c := by
  cases c <;> simp only [RowR] at h
  · rw [LR.length h]; simp [Row.len, lenL_eq]
  · simp [Row.len, h.2, bcells_length]
theorem RowR.sub {β : Bt} {c : AV} {vs : List Value} (h : RowR β c vs) {off n : Nat} (hn : off + n ≤ Row.len c) : RowR β (Row.sub c off n) ((vs.drop off).take n) := by
  cases c <;> simp only [RowR] at h
  · simp only [Row.sub, RowR, takeL_eq, dropL_eq]
    exact LR.take n (LR.drop off h)
  · rename_i m p
    obtain ⟨hp, rfl⟩ := h
    simp only [Row.len] at hn
    simp only [Row.sub, RowR]
    rw [bcells_drop, bcells_take _ _ _ (by omega), Nat.shiftRight_eq_div_pow, pow256, pow256]
    exact ⟨Nat.mod_lt _ (Nat.pow_pos (by omega)), rfl⟩
theorem RowR.nth {β : Bt} {c : AV} {vs : List Value} (h : RowR β c vs) (i : Nat) (d : Value) : VR β (Row.nth c i) (vs.getD i d) := by
  cases c <;> simp only [RowR] at h
  · simp only [Row.nth, nthL_eq]
    exact LR.getD i d h
  · rename_i m p
    obtain ⟨hp, rfl⟩ := h
    simp only [Row.nth]
    cases hi : Nat.blt i m
    · simp [VR]
    · simp only [cond_true, b8, VR]
      rw [bcells_getD _ _ _ _ (by simpa [Nat.blt_eq] using hi), bget_eq]
theorem RowR.norm {β : Bt} {c : AV} {vs : List Value} (h : RowR β c vs) (hd : Row.norm c ≠ .undef) : RowR β (Row.norm c) vs := by
  unfold Row.norm at hd ⊢
  split
  · rename_i l
    split
    · rename_i l' _ _ heq
      split
      · rename_i n p hp
        simp only [RowR] at h ⊢
        obtain ⟨h1, h2, _⟩ := packL_spec hp h
        exact ⟨h2, h1⟩
      · rename_i hp
        exfalso
        apply hd
        simp [hp]
    · exact h
  · exact h
theorem RowR.app {β : Bt} {x y : AV} {vs ws : List Value} (hx : RowR β x vs) (hy : RowR β y ws) (hd : Row.app x y ≠ .undef) : RowR β (Row.app x y) (vs ++ ws) := by
  cases x <;> simp only [RowR] at hx <;> cases y <;> simp only [RowR] at hy
  · simp only [Row.app, RowR, appL_eq]
    exact LR.append hx hy
  · rename_i l m q
    obtain ⟨hq, rfl⟩ := hy
    simp only [Row.app] at hd ⊢
    split at hd
    · rename_i n p hp
      obtain ⟨h1, h2, _⟩ := packL_spec hp hx
      simp only [hp, RowR]
      rw [Nat.shiftLeft_eq, pow256]
      refine ⟨?_, by rw [bcells_app _ _ _ _ h2, h1]⟩
      calc p + q * 256 ^ n < 256 ^ n + q * 256 ^ n := by omega
        _ = (q + 1) * 256 ^ n := by rw [Nat.add_mul]; omega
        _ ≤ 256 ^ m * 256 ^ n := Nat.mul_le_mul_right _ hq
        _ = 256 ^ (n + m) := by rw [Nat.pow_add, Nat.mul_comm]
    · exact absurd rfl hd
  · rename_i n p l
    obtain ⟨hp, rfl⟩ := hx
    simp only [Row.app] at hd ⊢
    split at hd
    · rename_i m q hq
      obtain ⟨h1, h2, _⟩ := packL_spec hq hy
      simp only [hq, RowR]
      rw [Nat.shiftLeft_eq, pow256]
      refine ⟨?_, by rw [bcells_app _ _ _ _ hp, h1]⟩
      calc p + q * 256 ^ n < 256 ^ n + q * 256 ^ n := by omega
        _ = (q + 1) * 256 ^ n := by rw [Nat.add_mul]; omega
        _ ≤ 256 ^ m * 256 ^ n := Nat.mul_le_mul_right _ h2
        _ = 256 ^ (n + m) := by rw [Nat.pow_add, Nat.mul_comm]
    · exact absurd rfl hd
  · rename_i n p m q
    obtain ⟨hp, rfl⟩ := hx
    obtain ⟨hq, rfl⟩ := hy
    simp only [Row.app, RowR]
    rw [Nat.shiftLeft_eq, pow256]
    refine ⟨?_, by rw [bcells_app _ _ _ _ hp]⟩
    calc p + q * 256 ^ n < 256 ^ n + q * 256 ^ n := by omega
      _ = (q + 1) * 256 ^ n := by rw [Nat.add_mul]; omega
      _ ≤ 256 ^ m * 256 ^ n := Nat.mul_le_mul_right _ hq
      _ = 256 ^ (n + m) := by rw [Nat.pow_add, Nat.mul_comm]
theorem app_undef_left (y : AV) : Row.app .undef y = .undef := rfl
theorem app_undef_right (x : AV) : Row.app x .undef = .undef := by cases x <;> rfl
theorem RowR.splice {β : Bt} {c new : AV} {vs ws : List Value} (h : RowR β c vs) (hn : RowR β new ws) {off : Nat} (ho : off + Row.len new ≤ Row.len c)
    (hd : Row.splice c off new ≠ .undef) : RowR β (Row.splice c off new) (vs.take off ++ (ws ++ vs.drop (off + ws.length))) := by
  have hl := hn.length
  unfold Row.splice at hd ⊢
  have h2 : Row.app new (Row.sub c (off + Row.len new) (Row.len c - (off + Row.len new))) ≠ .undef := fun e => hd (by rw [e, app_undef_right])
  have h3 := RowR.app hn (RowR.sub h (off := off + Row.len new) (n := Row.len c - (off + Row.len new)) (by omega)) h2
  have h1 := RowR.sub h (off := 0) (n := off) (by omega)
  have := RowR.app h1 h3 hd
  rw [List.drop_zero] at this
  have hv := h.length
  have e : ((vs.drop (off + Row.len new)).take (Row.len c - (off + Row.len new))) = vs.drop (off + ws.length) := by
    rw [List.take_of_length_le (by simp; omega), hl]
  rw [e] at this
  exact this
theorem RowR.setNth {β : Bt} {c x : AV} {vs : List Value} {v : Value} (h : RowR β c vs) (hx : VR β x v) {i : Nat} (hi : i < Row.len c)
    (hd : Row.setNth c i x ≠ .undef) : RowR β (Row.setNth c i x) (vs.set i v) := by
  cases c <;> simp only [RowR] at h
  · simp only [Row.setNth, RowR, setL_eq]
    exact LR.set i h hx
  · rename_i n p
    obtain ⟨hp, rfl⟩ := h
    simp only [Row.setNth] at hd ⊢
    split at hd
    · rename_i y
      cases hy : Nat.blt y 256
      · simp [hy] at hd
      · simp only [VR] at hx
        subst hx
        simp only [cond_true, RowR]
        obtain ⟨h1, h2⟩ := bcells_set n i p y (by simpa [Row.len] using hi) (by simpa [Nat.blt_eq] using hy) hp
        exact ⟨h2, h1⟩
    · exact absurd rfl hd
theorem RowR.undef {β : Bt} {vs : List Value} : ¬ RowR β .undef vs := by simp [RowR]

/-- a value's cells -/
theorem VR.cells {β : Bt} {x : AV} {v : Value} (h : VR β x v) (hd : cellsOf x ≠ .undef) : RowR β (cellsOf x) v.cells.toList := by
  cases x <;> simp only [VR] at h <;> simp only [cellsOf] at hd ⊢ <;> try (exact absurd rfl hd)
  case cells l => obtain ⟨a, rfl, _, h⟩ := h; simpa [RowR, Value.cells] using h
  case bytes n p => obtain ⟨a, rfl, h⟩ := h; simpa [RowR, Value.cells] using h
  all_goals simp only [RowR, LR]
  case int k n => subst h; exact ⟨_, _, rfl, by simp [VR], rfl⟩
  case bool b => subst h; exact ⟨_, _, rfl, by simp [VR], rfl⟩
  case nilv => subst h; exact ⟨_, _, rfl, by simp [VR], rfl⟩
  case nils => subst h; exact ⟨_, _, rfl, by simp [VR], rfl⟩
  case nilm => subst h; exact ⟨_, _, rfl, by simp [VR], rfl⟩
  case nilf => subst h; exact ⟨_, _, rfl, by simp [VR], rfl⟩
  case nili => subst h; exact ⟨_, _, rfl, by simp [VR], rfl⟩
  case ptr i o => obtain ⟨b, hb, rfl⟩ := h; exact ⟨_, _, rfl, by simp only [VR]; exact ⟨b, hb, rfl⟩, rfl⟩
  case slice => obtain ⟨b, a, c, hb, rfl, h⟩ := h; exact ⟨_, _, rfl, by simp only [VR]; exact ⟨b, a, c, hb, rfl, h⟩, rfl⟩
  case str => obtain ⟨s, rfl, h⟩ := h; exact ⟨_, _, rfl, by simp only [VR]; exact ⟨s, rfl, h⟩, rfl⟩
  case map => obtain ⟨b, hb, rfl⟩ := h; exact ⟨_, _, rfl, by simp only [VR]; exact ⟨b, hb, rfl⟩, rfl⟩
  case func => obtain ⟨a, b, rfl, h⟩ := h; exact ⟨_, _, rfl, by simp only [VR]; exact ⟨a, b, rfl, h⟩, rfl⟩
  case yield => obtain ⟨b, hb, rfl⟩ := h; exact ⟨_, _, rfl, by simp only [VR]; exact ⟨b, hb, rfl⟩, rfl⟩
  case iface => obtain ⟨y, rfl, h⟩ := h; exact ⟨_, _, rfl, by simp only [VR]; exact ⟨y, rfl, h⟩, rfl⟩
theorem bcells_one : ∀ (n p : Nat), ∀ v ∈ bcells n p, oneC v = true
  | 0, _, _, h => by simp [bcells] at h
  | n + 1, p, v, h => by
    simp only [bcells, List.mem_cons] at h
    rcases h with rfl | h
    · rfl
    · exact bcells_one n _ v h
theorem VR.plain {β : Bt} {x : AV} {v : Value} (h : VR β x v) (hd : cellsOf x ≠ .undef) : ∀ u ∈ v.cells.toList, oneC u = true := by
  cases x <;> simp only [VR] at h <;> simp only [cellsOf] at hd <;> try (exact absurd rfl hd)
  case cells l => obtain ⟨a, rfl, hp, h⟩ := h; simpa [Value.cells] using hp
  case bytes n p =>
    obtain ⟨a, rfl, hp, h⟩ := h
    intro u hu
    simp only [Value.cells] at hu
    rw [h] at hu
    exact bcells_one _ _ u hu
  case int => subst h; simp [Value.cells, oneC]
  case bool => subst h; simp [Value.cells, oneC]
  case nilv => subst h; simp [Value.cells, oneC]
  case nils => subst h; simp [Value.cells, oneC]
  case nilm => subst h; simp [Value.cells, oneC]
  case nilf => subst h; simp [Value.cells, oneC]
  case nili => subst h; simp [Value.cells, oneC]
  case ptr i o => obtain ⟨b, hb, rfl⟩ := h; simp [Value.cells, oneC]
  case slice => obtain ⟨b, a, c, hb, rfl, h⟩ := h; simp [Value.cells, oneC]
  case str => obtain ⟨s, rfl, h⟩ := h; simp [Value.cells, oneC]
  case map => obtain ⟨b, hb, rfl⟩ := h; simp [Value.cells, oneC]
  case func => obtain ⟨a, b, rfl, h⟩ := h; simp [Value.cells, oneC]
  case yield => obtain ⟨b, hb, rfl⟩ := h; simp [Value.cells, oneC]
  case iface => obtain ⟨y, rfl, h⟩ := h; simp [Value.cells, oneC]
end Go.Ev
