/-
  PLAIN LAWS on rows of options: the bits of a row, its things, where a thing stands; no program in sight.
-/
import Derived.Lib.BitFns
import Derived.Lib.TrailingZeros
namespace Go.Proofs.YtbgmlcakdkkfdaaDoor
namespace Sp
universe u
variable {α : Type u}

/-- The bits of a row: bit i is set just where place i has something. -/
def bitsL : List (Option α) → Nat
  | [] => 0
  | o :: m => (if o.isSome then 1 else 0) + 2 * bitsL m
/-- The things of a row, by rising places. -/
def vals (m : List (Option α)) : List α := m.filterMap id
/-- What place i has. -/
def at_ (m : List (Option α)) (i : Nat) : Option α := (m[i]?).join

theorem bitsL_cons (o : Option α) (m : List (Option α)) : bitsL (o :: m) = (if o.isSome then 1 else 0) + 2 * bitsL m := rfl
theorem bitsL_lt : ∀ m : List (Option α), bitsL m < 2 ^ m.length
  | [] => by simp [bitsL]
  | o :: m => by
    have := bitsL_lt m
    rw [bitsL_cons, List.length_cons, Nat.pow_succ]
    split <;> omega
theorem testBit_bitsL : ∀ (m : List (Option α)) (i : Nat), (bitsL m).testBit i = (at_ m i).isSome
  | [], i => by simp [bitsL, at_]
  | o :: m, 0 => by
    rw [bitsL_cons, Nat.testBit_zero]
    cases o <;> simp [at_] <;> omega
  | o :: m, i + 1 => by
    rw [bitsL_cons, Nat.testBit_succ]
    have : ((if o.isSome then 1 else 0) + 2 * bitsL m) / 2 = bitsL m := by split <;> omega
    rw [this, testBit_bitsL m i]
    simp [at_]
theorem bitsL_take : ∀ (m : List (Option α)) (i : Nat), bitsL m % 2 ^ i = bitsL (m.take i)
  | [], i => by simp [bitsL]
  | o :: m, 0 => by simp [bitsL, Nat.mod_one]
  | o :: m, i + 1 => by
    rw [List.take_succ_cons, bitsL_cons, bitsL_cons, ← bitsL_take m i, Nat.pow_succ, Nat.mul_comm (2 ^ i) 2, Nat.mod_mul]
    have h1 : ((if o.isSome then 1 else 0) + 2 * bitsL m) % 2 = (if o.isSome then 1 else 0) := by split <;> omega
    have h2 : ((if o.isSome then 1 else 0) + 2 * bitsL m) / 2 = bitsL m := by split <;> omega
    rw [h1, h2]
theorem vals_cons (o : Option α) (m : List (Option α)) : vals (o :: m) = o.toList ++ vals m := by
  cases o <;> simp [vals]
theorem vals_append (m m' : List (Option α)) : vals (m ++ m') = vals m ++ vals m' := by simp [vals]
theorem popAux_succ (f x : Nat) : Lib.popAux (f + 1) x = x % 2 + Lib.popAux f (x / 2) := rfl
theorem pop_bitsL : ∀ (f : Nat) (m : List (Option α)), m.length ≤ f → Lib.popAux f (bitsL m) = (vals m).length
  | 0, m, h => by
    have : m = [] := List.eq_nil_of_length_eq_zero (by omega)
    subst this; simp [vals, Lib.popAux]
  | f + 1, [], _ => by
    have : ∀ f, Lib.popAux f 0 = 0 := by intro f; induction f with
      | zero => rfl
      | succ f ih => simp [Lib.popAux, ih]
    simp [bitsL, vals, this]
  | f + 1, o :: m, h => by
    rw [vals_cons, List.length_append, ← pop_bitsL f m (by simpa using h), bitsL_cons, popAux_succ]
    have h1 : ((if o.isSome then 1 else 0) + 2 * bitsL m) % 2 = (if o.isSome then 1 else 0) := by split <;> omega
    have h2 : ((if o.isSome then 1 else 0) + 2 * bitsL m) / 2 = bitsL m := by split <;> omega
    rw [h1, h2]
    cases o <;> simp
/-- How many places below i have something. -/
def rank (m : List (Option α)) (i : Nat) : Nat := (vals (m.take i)).length
theorem pop_rank (m : List (Option α)) (i : Nat) (hm : m.length ≤ 64) : Lib.onesCount (bitsL m &&& (2 ^ i - 1)) = rank m i := by
  rw [Nat.and_two_pow_sub_one_eq_mod, bitsL_take, Lib.onesCount, pop_bitsL _ _ (by simp; omega), rank]
theorem split_at (m : List (Option α)) (i : Nat) (hi : i < m.length) : m = m.take i ++ (m[i] :: m.drop (i + 1)) := by
  rw [← List.drop_eq_getElem_cons hi, List.take_append_drop]
theorem at_eq (m : List (Option α)) (i : Nat) (hi : i < m.length) : at_ m i = m[i] := by simp [at_, hi]
theorem at_none (m : List (Option α)) (i : Nat) (hi : m.length ≤ i) : at_ m i = none := by simp [at_, hi]
theorem vals_at (m : List (Option α)) (i : Nat) (hi : i < m.length) : vals m = vals (m.take i) ++ ((at_ m i).toList ++ vals (m.drop (i + 1))) := by
  have h := congrArg vals (split_at m i hi)
  rw [vals_append, vals_cons, ← at_eq m i hi] at h
  exact h
theorem vals_get (m : List (Option α)) (i : Nat) (hi : i < m.length) (x : α) (hx : at_ m i = some x) : (vals m)[rank m i]? = some x := by
  rw [vals_at m i hi, hx, rank]
  simp
theorem rank_lt (m : List (Option α)) (i : Nat) (hi : i < m.length) (x : α) (hx : at_ m i = some x) : rank m i < (vals m).length := by
  have := congrArg List.length (vals_at m i hi)
  rw [hx] at this
  simp at this
  unfold rank
  omega
theorem rank_le (m : List (Option α)) (i : Nat) (hi : i < m.length) : rank m i ≤ (vals m).length := by
  have := congrArg List.length (vals_at m i hi)
  simp only [List.length_append] at this
  unfold rank
  omega
theorem vals_len_le (m : List (Option α)) : (vals m).length ≤ m.length := by
  unfold vals; exact List.length_filterMap_le _ _
theorem vals_set (m : List (Option α)) (i : Nat) (hi : i < m.length) (o : Option α) :
    vals (m.set i o) = (vals m).take (rank m i) ++ (o.toList ++ (vals m).drop (rank m i + (at_ m i).toList.length)) := by
  have h := vals_at (m.set i o) i (by simpa using hi)
  have e1 : (m.set i o).take i = m.take i := List.take_set_of_le (Nat.le_refl _)
  have e2 : (m.set i o).drop (i + 1) = m.drop (i + 1) := List.drop_set_of_lt (by omega)
  have e3 : at_ (m.set i o) i = o := by simp [at_, hi]
  rw [h, e1, e2, e3]
  have k := vals_at m i hi
  have ht : (vals m).take (rank m i) = vals (m.take i) := by rw [k, rank]; simp
  have hd : (vals m).drop (rank m i + (at_ m i).toList.length) = vals (m.drop (i + 1)) := by
    conv => lhs; rw [k]
    rw [rank, ← List.append_assoc, List.drop_append]
    simp
  rw [ht, hd]
theorem at_set (m : List (Option α)) (i j : Nat) (hi : i < m.length) (o : Option α) : at_ (m.set i o) j = if j = i then o else at_ m j := by
  unfold at_
  rw [List.getElem?_set]
  by_cases h : i = j
  · subst h; simp [hi]
  · simp [h, Ne.symm h]
theorem bits_set (m : List (Option α)) (i : Nat) (hi : i < m.length) (x : α) : bitsL (m.set i (some x)) = bitsL m ||| 2 ^ i := by
  apply Nat.eq_of_testBit_eq
  intro j
  rw [testBit_bitsL, at_set m i j hi, Nat.testBit_or, testBit_bitsL, Nat.testBit_two_pow]
  by_cases h : j = i
  · subst h; simp
  · simp [h, Ne.symm h]
theorem bits_cut (m : List (Option α)) (i : Nat) (hi : i < m.length) (n : Nat) (hn : m.length ≤ n) : bitsL (m.set i none) = bitsL m &&& (2 ^ n - 1 - 2 ^ i) := by
  apply Nat.eq_of_testBit_eq
  intro j
  have hp : 2 ^ i < 2 ^ n := Nat.pow_lt_pow_right (by omega) (by omega)
  have e : 2 ^ n - 1 - 2 ^ i = 2 ^ n - (2 ^ i + 1) := by omega
  rw [testBit_bitsL, at_set m i j hi, Nat.testBit_and, testBit_bitsL, e, Nat.testBit_two_pow_sub_succ hp, Nat.testBit_two_pow]
  by_cases h : j = i
  · subst h; simp
  · by_cases hj : j < n
    · simp [h, hj, Ne.symm h]
    · rw [at_none m j (by omega)]; simp [h]
theorem ext_at (m m' : List (Option α)) (hl : m.length = m'.length) (h : ∀ i, at_ m i = at_ m' i) : m = m' := by
  apply List.ext_getElem hl
  intro i h1 h2
  rw [← at_eq m i h1, ← at_eq m' i h2, h]

/-- The sum that OnesCount32 reckons, byte by byte. -/
theorem pop_add : ∀ (f x y : Nat), x < 256 → Lib.popAux (f + 8) (256 * y + x) = Lib.popAux 8 x + Lib.popAux f y := by
  intro f x y hx
  simp only [Lib.popAux]
  have h1 : (256 * y + x) % 2 = x % 2 := by omega
  have h2 : (256 * y + x) / 2 % 2 = x / 2 % 2 := by omega
  have h3 : (256 * y + x) / 2 / 2 % 2 = x / 2 / 2 % 2 := by omega
  have h4 : (256 * y + x) / 2 / 2 / 2 % 2 = x / 2 / 2 / 2 % 2 := by omega
  have h5 : (256 * y + x) / 2 / 2 / 2 / 2 % 2 = x / 2 / 2 / 2 / 2 % 2 := by omega
  have h6 : (256 * y + x) / 2 / 2 / 2 / 2 / 2 % 2 = x / 2 / 2 / 2 / 2 / 2 % 2 := by omega
  have h7 : (256 * y + x) / 2 / 2 / 2 / 2 / 2 / 2 % 2 = x / 2 / 2 / 2 / 2 / 2 / 2 % 2 := by omega
  have h8 : (256 * y + x) / 2 / 2 / 2 / 2 / 2 / 2 / 2 % 2 = x / 2 / 2 / 2 / 2 / 2 / 2 / 2 % 2 := by omega
  have h9 : (256 * y + x) / 2 / 2 / 2 / 2 / 2 / 2 / 2 / 2 = y := by omega
  rw [h1, h2, h3, h4, h5, h6, h7, h8, h9]
  omega
theorem popAux_zero : ∀ f, Lib.popAux f 0 = 0
  | 0 => rfl
  | f + 1 => by simp [Lib.popAux, popAux_zero f]
theorem popAux_add0 : ∀ (f g x : Nat), x < 2 ^ f → Lib.popAux (f + g) x = Lib.popAux f x
  | 0, g, x, h => by
    have : x = 0 := by simp at h; omega
    subst this; rw [popAux_zero, popAux_zero]
  | f + 1, g, x, h => by
    rw [show f + 1 + g = (f + g) + 1 by omega]
    simp only [Lib.popAux]
    rw [popAux_add0 f g (x / 2) (by rw [Nat.pow_succ] at h; omega)]
theorem pop32 (x : Nat) (hx : x < 4294967296) : Lib.onesCount x = Lib.onesCount (x / 16777216) + Lib.onesCount (x / 65536 % 256) + Lib.onesCount (x / 256 % 256) + Lib.onesCount (x % 256) := by
  have e : ∀ y, y < 256 → Lib.onesCount y = Lib.popAux 8 y := fun y hy => popAux_add0 8 56 y (by omega)
  rw [e (x / 16777216) (by omega), e (x / 65536 % 256) (by omega), e (x / 256 % 256) (by omega), e (x % 256) (by omega)]
  have s1 : x = 256 * (x / 256) + x % 256 := by omega
  have s2 : x / 256 = 256 * (x / 65536) + x / 256 % 256 := by omega
  have s3 : x / 65536 = 256 * (x / 16777216) + x / 65536 % 256 := by omega
  unfold Lib.onesCount
  conv => lhs; rw [s1, show 64 = 56 + 8 by rfl]
  rw [pop_add 56 _ _ (by omega)]
  conv => lhs; rw [s2, show 56 = 48 + 8 by rfl]
  rw [pop_add 48 _ _ (by omega)]
  conv => lhs; rw [s3, show 48 = 40 + 8 by rfl]
  rw [pop_add 40 _ _ (by omega)]
  have : Lib.popAux 40 (x / 16777216) = Lib.popAux 8 (x / 16777216) := popAux_add0 8 32 _ (by omega)
  rw [this]
  omega
theorem onesCount_le8' (x : Nat) (hx : x < 256) : Lib.onesCount x ≤ 8 := Lib.onesCount_le8 ⟨x, hx⟩

/-- The lowest place that has something: where the trailing noughts end. -/
theorem ctz_first : ∀ (f : Nat) (m : List (Option α)) (i : Nat) (x : α), (∀ j, j < i → at_ m j = none) → at_ m i = some x → i < f → Lib.ctzFrom f (bitsL m) = i
  | 0, _, _, _, _, _, h => by omega
  | f + 1, [], i, x, _, h, _ => by simp [at_] at h
  | f + 1, o :: m, 0, x, _, h, _ => by
    have : o = some x := by simpa [at_] using h
    subst this
    unfold Lib.ctzFrom
    rw [bitsL_cons, if_pos (by simp)]
  | f + 1, o :: m, i + 1, x, h0, h, hf => by
    have : o = none := by have := h0 0 (by omega); simpa [at_] using this
    subst this
    have ih := ctz_first f m i x (fun j hj => by have := h0 (j + 1) (by omega); simpa [at_] using this) (by simpa [at_] using h) (by omega)
    unfold Lib.ctzFrom
    rw [bitsL_cons, if_neg (by simp)]
    have : ((if (none : Option α).isSome then 1 else 0) + 2 * bitsL m) / 2 = bitsL m := by simp
    rw [this, ih]
    omega
/-- The lowest place that has something, and it. -/
def firstM : List (Option α) → Option (Nat × α)
  | [] => none
  | some x :: _ => some (0, x)
  | none :: m => (firstM m).map fun p => (p.1 + 1, p.2)
theorem firstM_some : ∀ (m : List (Option α)) (i : Nat) (x : α), firstM m = some (i, x) → (∀ j, j < i → at_ m j = none) ∧ at_ m i = some x ∧ (vals m)[0]? = some x ∧ i < m.length ∧ bitsL m ≠ 0
  | [], i, x, h => by simp [firstM] at h
  | some y :: m, i, x, h => by
    simp [firstM] at h
    obtain ⟨rfl, rfl⟩ := h
    exact ⟨fun j hj => by omega, by simp [at_], by simp [vals], by simp, by rw [bitsL_cons]; simp⟩
  | none :: m, i, x, h => by
    simp only [firstM, Option.map_eq_some_iff] at h
    obtain ⟨⟨k, z⟩, h1, h2⟩ := h
    simp only [Prod.mk.injEq] at h2
    obtain ⟨rfl, rfl⟩ := h2
    obtain ⟨a, b, c, d, e⟩ := firstM_some m k z h1
    refine ⟨fun j hj => ?_, by simpa [at_] using b, by simpa [vals] using c, by simp; omega, by rw [bitsL_cons]; simp; omega⟩
    cases j with
    | zero => simp [at_]
    | succ j => have := a j (by omega); simpa [at_] using this
theorem firstM_none : ∀ (m : List (Option α)), firstM m = none → bitsL m = 0
  | [], _ => rfl
  | some y :: m, h => by simp [firstM] at h
  | none :: m, h => by
    simp only [firstM, Option.map_eq_none_iff] at h
    rw [bitsL_cons, firstM_none m h]; simp
theorem firstM_of : ∀ (m : List (Option α)) (k : Nat) (y : α), (∀ j, j < k → at_ m j = none) → at_ m k = some y → firstM m = some (k, y)
  | [], k, y, _, h => by simp [at_] at h
  | some z :: m, 0, y, _, h => by simp [at_] at h; subst h; rfl
  | some z :: m, k + 1, y, h0, _ => by have := h0 0 (by omega); simp [at_] at this
  | none :: m, 0, y, _, h => by simp [at_] at h
  | none :: m, k + 1, y, h0, h => by
    have := firstM_of m k y (fun j hj => by have := h0 (j + 1) (by omega); simpa [at_] using this) (by simpa [at_] using h)
    simp [firstM, this]
theorem firstM_of_none : ∀ (m : List (Option α)), (∀ j, j < m.length → at_ m j = none) → firstM m = none
  | [], _ => rfl
  | some z :: m, h => by have := h 0 (by simp); simp [at_] at this
  | none :: m, h => by
    have := firstM_of_none m (fun j hj => by have := h (j + 1) (by simp; omega); simpa [at_] using this)
    simp [firstM, this]
/-- The row of bits and things. -/
def ofBits : Nat → Nat → List α → List (Option α)
  | 0, _, _ => []
  | f + 1, b, [] => none :: ofBits f (b / 2) []
  | f + 1, b, x :: l => if b % 2 = 1 then some x :: ofBits f (b / 2) l else none :: ofBits f (b / 2) (x :: l)
theorem ofBits_len : ∀ (f b : Nat) (l : List α), (ofBits f b l).length = f
  | 0, _, _ => rfl
  | f + 1, b, [] => by simp [ofBits, ofBits_len f]
  | f + 1, b, x :: l => by unfold ofBits; split <;> simp [ofBits_len f]
theorem ofBits_spec : ∀ (f b : Nat) (l : List α), b < 2 ^ f → Lib.popAux f b = l.length → bitsL (ofBits f b l) = b ∧ vals (ofBits f b l) = l
  | 0, b, l, hb, h => by
    simp [Lib.popAux] at h
    have : l = [] := List.eq_nil_of_length_eq_zero h.symm
    subst this
    simp at hb
    subst hb
    simp [ofBits, bitsL, vals]
  | f + 1, b, [], hb, h => by
    rw [popAux_succ] at h
    simp at h
    obtain ⟨i1, i2⟩ := ofBits_spec f (b / 2) ([] : List α) (by rw [Nat.pow_succ] at hb; omega) (by simp; omega)
    refine ⟨?_, ?_⟩
    · simp only [ofBits, bitsL_cons]; rw [i1]; simp; omega
    · simp only [ofBits, vals_cons, i2]; rfl
  | f + 1, b, x :: l, hb, h => by
    rw [popAux_succ] at h
    rw [Nat.pow_succ] at hb
    unfold ofBits
    split
    · rename_i h1
      obtain ⟨i1, i2⟩ := ofBits_spec f (b / 2) l (by omega) (by simp at h; omega)
      exact ⟨by rw [bitsL_cons, i1]; simp; omega, by rw [vals_cons, i2]; rfl⟩
    · rename_i h1
      obtain ⟨i1, i2⟩ := ofBits_spec f (b / 2) (x :: l) (by omega) (by omega)
      exact ⟨by rw [bitsL_cons, i1]; simp; omega, by rw [vals_cons, i2]; rfl⟩
/-- How many of the lowest j bits are set. -/
def cnt : Nat → Nat → Nat
  | _, 0 => 0
  | b, j + 1 => b % 2 + cnt (b / 2) j
theorem cnt_succ : ∀ (j b : Nat), cnt b (j + 1) = cnt b j + b / 2 ^ j % 2
  | 0, b => by simp [cnt]
  | j + 1, b => by
    have e : b / 2 ^ (j + 1) = b / 2 / 2 ^ j := by rw [Nat.div_div_eq_div_mul, Nat.pow_succ']
    rw [cnt, cnt_succ j (b / 2), cnt, e]
    omega
theorem cnt_pop : ∀ (f b : Nat), cnt b f = Lib.popAux f b
  | 0, b => rfl
  | f + 1, b => by rw [cnt, cnt_pop f (b / 2), popAux_succ]
theorem at_ofBits : ∀ (f b : Nat) (l : List α) (j : Nat), at_ (ofBits f b l) j = if j < f ∧ b.testBit j = true then l[cnt b j]? else none
  | 0, b, l, j => by simp [ofBits, at_]
  | f + 1, b, [], 0 => by simp [ofBits, at_]
  | f + 1, b, [], j + 1 => by
    have := at_ofBits f (b / 2) ([] : List α) j
    simp only [ofBits, at_, List.getElem?_cons_succ] at this ⊢
    rw [this]; simp
  | f + 1, b, x :: l, 0 => by
    unfold ofBits
    split
    · rename_i h; simp [at_, cnt, h]
    · rename_i h; simp [at_, h]
  | f + 1, b, x :: l, j + 1 => by
    unfold ofBits
    split
    · rename_i h
      have := at_ofBits f (b / 2) l j
      simp only [at_, List.getElem?_cons_succ] at this ⊢
      rw [this, Nat.testBit_succ, cnt, h, Nat.add_comm 1, List.getElem?_cons_succ]
      simp only [Nat.add_lt_add_iff_right]
    · rename_i h
      have := at_ofBits f (b / 2) (x :: l) j
      have h0 : b % 2 = 0 := by omega
      simp only [at_, List.getElem?_cons_succ] at this ⊢
      rw [this, Nat.testBit_succ, cnt, h0, Nat.zero_add]
      simp only [Nat.add_lt_add_iff_right]
/-- What place j has in the row of b and l. -/
def tgt (b : Nat) (l : List α) (j : Nat) : Option α := if b.testBit j = true then l[cnt b j]? else none
/-- The row when the places below i are filled. -/
def upTo (b : Nat) (l : List α) (i : Nat) : List (Option α) := (List.range 32).map fun j => if j < i then tgt b l j else none
theorem upTo_len (b : Nat) (l : List α) (i : Nat) : (upTo b l i).length = 32 := by simp [upTo]
theorem at_upTo (b : Nat) (l : List α) (i j : Nat) : at_ (upTo b l i) j = if j < 32 ∧ j < i then tgt b l j else none := by
  unfold at_ upTo
  by_cases h : j < 32
  · simp [h]
  · simp [h]
theorem upTo_zero (b : Nat) (l : List α) : upTo b l 0 = List.replicate 32 none := by
  apply ext_at
  · simp [upTo]
  · intro i
    rw [at_upTo]
    unfold at_
    rw [List.getElem?_replicate, if_neg (by omega)]
    split <;> rfl
theorem upTo_succ_some (b : Nat) (l : List α) (i : Nat) (x : α) (hi : i < 32) (h : tgt b l i = some x) : upTo b l (i + 1) = (upTo b l i).set i (some x) := by
  apply ext_at
  · simp [upTo]
  · intro j
    rw [at_set _ _ _ (by rw [upTo_len]; exact hi), at_upTo, at_upTo]
    by_cases hj : j = i
    · subst hj; simp [hi, h]
    · rw [if_neg hj]
      by_cases h2 : j < 32 ∧ j < i
      · rw [if_pos h2, if_pos ⟨h2.1, by omega⟩]
      · rw [if_neg h2, if_neg (by omega)]
theorem upTo_succ_none (b : Nat) (l : List α) (i : Nat) (h : tgt b l i = none) : upTo b l (i + 1) = upTo b l i := by
  apply ext_at
  · simp [upTo]
  · intro j
    rw [at_upTo, at_upTo]
    by_cases hj : j = i
    · subst hj; simp [h]
    · by_cases h2 : j < 32 ∧ j < i
      · rw [if_pos h2, if_pos ⟨h2.1, by omega⟩]
      · rw [if_neg h2, if_neg (by omega)]
theorem upTo_all (b : Nat) (l : List α) : upTo b l 32 = ofBits 32 b l := by
  apply ext_at
  · rw [upTo_len, ofBits_len]
  · intro j
    rw [at_upTo, at_ofBits]
    by_cases h : j < 32
    · simp [h, tgt]
    · simp [h]
/-- Set and Cut at any number. -/
def setM (m : List (Option α)) (i : Int) (x : α) : List (Option α) := if 0 ≤ i ∧ i < 32 then m.set i.toNat (some x) else m
def cutM (m : List (Option α)) (i : Int) : List (Option α) := if 0 ≤ i ∧ i < 32 then m.set i.toNat none else m
def getM (m : List (Option α)) (i : Int) : Option α := if 0 ≤ i ∧ i < 32 then at_ m i.toNat else none
theorem set_same (m : List (Option α)) (i : Nat) (h : at_ m i = none) (hi : i < m.length) : m.set i none = m := by
  rw [at_eq m i hi] at h
  rw [← h]; exact List.set_getElem_self hi
end Sp
end Go.Proofs.YtbgmlcakdkkfdaaDoor
