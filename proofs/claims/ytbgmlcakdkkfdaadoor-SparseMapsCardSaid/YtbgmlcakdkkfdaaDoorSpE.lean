/-
  THE WALKS of the document's row (32 places, and whether each has something): Len, Bits, Get, First.
-/
import Derived.Test.YtbgmlcakdkkfdaaDoorSpC
import Derived.LoopTactic
namespace Go.Proofs.YtbgmlcakdkkfdaaDoor
open Go.RowKit Go.BigFrame

/-- The document's row, cell by cell. -/
def refL (m : List (Option Int)) : List Value := m.map (fun o => Value.bool o.isSome) ++ m.map (fun o => Value.int .i64 (o.getD 0))
theorem refL_len (m : List (Option Int)) : (refL m).length = m.length + m.length := by simp [refL]
theorem refL_is (m : List (Option Int)) (hm : m.length = 32) (i : Nat) (hi : i < 32) : (refL m)[i]? = some (.bool (Sp.at_ m i).isSome) := by
  rw [refL, List.getElem?_append_left (by simp; omega), List.getElem?_map, Sp.at_eq m i (by omega)]
  simp [hm, hi]
theorem refL_x (m : List (Option Int)) (hm : m.length = 32) (i : Nat) (hi : i < 32) : (refL m)[32 + i]? = some (.int .i64 ((Sp.at_ m i).getD 0)) := by
  rw [refL, List.getElem?_append_right (by simp; omega), List.getElem?_map, Sp.at_eq m i (by omega)]
  simp [hm, hi]
/-- The cells of a block that holds the row. -/
theorem ref_cells {w : World} {g t : Nat} {m : List (Option Int)} (hm : m.length = 32) (h : w.heap[g]? = some (.cells (refL m).toArray t (0, 0))) :
    (∀ i, i < 32 → w.cell? ⟨g, i, none⟩ = some (.bool (Sp.at_ m i).isSome)) ∧ (∀ i, i < 32 → w.cell? ⟨g, 32 + i, none⟩ = some (.int .i64 ((Sp.at_ m i).getD 0))) := by
  refine ⟨fun i hi => ?_, fun i hi => ?_⟩
  · rw [Blk.cell (cs := (refL m).toArray) h]; simpa using refL_is m hm i hi
  · rw [Blk.cell (cs := (refL m).toArray) h]; simpa using refL_x m hm i hi

theorem vals_take_succ (m : List (Option Int)) (k : Nat) (hk : k < m.length) : Sp.vals (m.take (k + 1)) = Sp.vals (m.take k) ++ (Sp.at_ m k).toList := by
  rw [List.take_succ_eq_append_getElem hk, Sp.vals_append, Sp.at_eq m k hk, Sp.vals_cons]; simp [Sp.vals]

set_option maxHeartbeats 400000 in
theorem refLen_any (m : List (Option Int)) (w : World) (hm : m.length = 32) :
    Calls Tryd.prog 20 #[.agg (refL m).toArray] w fun e w' => e = .returned (.int .i64 (Sp.vals m).length) ∧ Below w.heap.size w w' := by
  have HM := Lib.hid hm
  have hcells := ref_cells hm (Blk.new w 33 (refL m).toArray)
  clear hm
  go_enter Tryd.func20, Tryd.ntmps20
  go_wp2
  go_loop [3, 5] (fun n i => ∃ k : Nat, k ≤ 32 ∧ i = .int .i64 k ∧ n = .int .i64 (Sp.vals (m.take k)).length) (fun _ i => 32 - (intOf i).toNat)
  case atStart => exact ⟨0, by omega, rfl, by simp [Sp.vals]⟩
  case round =>
    obtain ⟨k, hk, rfl, rfl⟩ := hrel
    have hlen : (Sp.vals (m.take k)).length ≤ 32 := by have := Sp.vals_len_le (m.take k); simp at this; omega
    by_cases hlt : k < 32
    · have hc := hcells.1 k hlt
      have hk0 : (0 : Int) ≤ (k : Int) := by omega
      have hk1 : (k : Int) < 32 := by omega
      have HS := Lib.hid (congrArg List.length (vals_take_succ m k (by rw [HM.out]; exact hlt)))
      cases hx : Sp.at_ m k with
      | none =>
        rw [hx] at hc HS
        have HX := Lib.hid hx
        clear hx hcells
        go_wp2
        go_round
        case rel => exact ⟨k + 1, by omega, by go_num, by rw [HS.out]; simp⟩
        case measure => simp [intOf]; omega
      | some y =>
        rw [hx] at hc HS
        have HX := Lib.hid hx
        clear hx hcells
        go_wp2
        go_round
        case rel => exact ⟨k + 1, by omega, by go_num, by rw [HS.out]; simp⟩
        case measure => simp [intOf]; omega
    · have hk32 : k = 32 := by omega
      subst hk32
      clear hcells
      go_wp2
      go_ret
      exact ⟨by rw [List.take_of_length_le (by rw [HM.out]; omega)]; rfl, (Below.refl _ _).alloc (Nat.le_refl _) _⟩
theorem at_take (m : List (Option Int)) (k j : Nat) : Sp.at_ (m.take k) j = if j < k then Sp.at_ m j else none := by
  unfold Sp.at_
  rw [List.getElem?_take]
  split <;> rfl
theorem bits_take_succ (m : List (Option Int)) (k : Nat) : Sp.bitsL (m.take (k + 1)) = if (Sp.at_ m k).isSome then Sp.bitsL (m.take k) ||| 2 ^ k else Sp.bitsL (m.take k) := by
  apply Nat.eq_of_testBit_eq
  intro j
  split
  · rename_i h
    rw [Nat.testBit_or, Sp.testBit_bitsL, Sp.testBit_bitsL, at_take, at_take, Nat.testBit_two_pow]
    by_cases h1 : j < k
    · simp [h1, show j < k + 1 by omega, show ¬ k = j by omega]
    · by_cases h2 : j = k
      · subst h2; simp [h]
      · simp [h1, show ¬ j < k + 1 by omega, show ¬ k = j by omega]
  · rename_i h
    rw [Sp.testBit_bitsL, Sp.testBit_bitsL, at_take, at_take]
    by_cases h1 : j < k
    · simp [h1, show j < k + 1 by omega]
    · by_cases h2 : j = k
      · subst h2; simp at h; simp [h]
      · simp [h1, show ¬ j < k + 1 by omega]

set_option maxHeartbeats 400000 in
theorem refBits_any (m : List (Option Int)) (w : World) (hm : m.length = 32) :
    Calls Tryd.prog 24 #[.agg (refL m).toArray] w fun e w' => e = .returned (.int .u32 (Sp.bitsL m)) ∧ Below w.heap.size w w' := by
  have HM := Lib.hid hm
  have hcells := ref_cells hm (Blk.new w 33 (refL m).toArray)
  clear hm
  go_enter Tryd.func24, Tryd.ntmps24
  go_wp2
  go_loop [3, 5] (fun n i => ∃ k : Nat, k ≤ 32 ∧ i = .int .i64 k ∧ n = .int .u32 (Sp.bitsL (m.take k))) (fun _ i => 32 - (intOf i).toNat)
  case atStart => exact ⟨0, by omega, rfl, by simp [Sp.bitsL]⟩
  case round =>
    obtain ⟨k, hk, rfl, rfl⟩ := hrel
    by_cases hlt : k < 32
    · have hc := hcells.1 k hlt
      have hk0 : (0 : Int) ≤ (k : Int) := by omega
      have hk1 : (k : Int) < 32 := by omega
      have hb := Nat.lt_of_lt_of_le (Sp.bitsL_lt (m.take k)) (Nat.pow_le_pow_right (by omega : 0 < 2) (by rw [List.length_take]; omega : (m.take k).length ≤ 32))
      have hor := bits_or_pow _ k hb hlt
      have HS := Lib.hid (bits_take_succ m k)
      clear hb
      cases hx : Sp.at_ m k with
      | none =>
        rw [hx] at hc HS
        have HX := Lib.hid hx
        clear hx hcells hor
        go_wp2
        go_round
        case rel => exact ⟨k + 1, by omega, by go_num, by rw [HS.out]; simp⟩
        case measure => simp [intOf]; omega
      | some y =>
        rw [hx] at hc HS
        have HX := Lib.hid hx
        clear hx hcells
        go_wp2
        go_round
        case rel => exact ⟨k + 1, by omega, by go_num, by rw [HS.out]; simp⟩
        case measure => simp [intOf]; omega
    · have hk32 : k = 32 := by omega
      subst hk32
      clear hcells
      go_wp2
      go_ret
      exact ⟨by rw [List.take_of_length_le (by rw [HM.out]; omega)]; rfl, (Below.refl _ _).alloc (Nat.le_refl _) _⟩

/-- A place's number. -/
theorem on_yes (i : Int) (w : World) (h0 : 0 ≤ i) (h1 : i < 32) : Calls Tryd.prog 34 #[.int .i64 i] w fun e w' => e = .returned (.bool true) ∧ w' = w := by
  go_enter Tryd.func34, Tryd.ntmps34
  go_wp2
  go_ret
  exact ⟨rfl, rfl⟩
theorem on_no (i : Int) (w : World) (h : i < 0 ∨ 32 ≤ i) : Calls Tryd.prog 34 #[.int .i64 i] w fun e w' => e = .returned (.bool false) ∧ w' = w := by
  by_cases h0 : i < 0
  · clear h
    go_enter Tryd.func34, Tryd.ntmps34
    go_wp2
    go_ret
    exact ⟨rfl, rfl⟩
  · have h1 : decide (i < 32) = false := by simp; omega
    clear h
    go_enter Tryd.func34, Tryd.ntmps34
    go_wp2
    go_ret
    exact ⟨rfl, rfl⟩

theorem refGet_any (m : List (Option Int)) (i : Int) (w : World) (hm : m.length = 32) :
    Calls Tryd.prog 16 #[.agg (refL m).toArray, .int .i64 i] w fun e w' => e = .returned (.tuple #[.int .i64 ((Sp.getM m i).getD 0), .bool (Sp.getM m i).isSome]) ∧ Below w.heap.size w w' := by
  have hcells := ref_cells hm (Blk.new w 33 (refL m).toArray)
  clear hm
  by_cases hi : 0 ≤ i ∧ i < 32
  · rw [Sp.getM, if_pos hi]
    obtain ⟨n, rfl⟩ := Int.eq_ofNat_of_zero_le hi.1
    rw [Int.toNat_natCast]
    have hlt : n < 32 := by omega
    have hlt' : (n : Int) < 32 := by omega
    have hc := hcells.1 n hlt
    have hc2 := hcells.2 n hlt
    have HON := fun W => on_yes (n : Int) W (by omega) (by omega)
    clear hcells hi
    cases hx : Sp.at_ m n with
    | none =>
      rw [hx] at hc hc2
      clear hx
      go_enter Tryd.func16, Tryd.ntmps16
      go_wp2_with (go_at_call 34; refine (on_yes _ _ (by omega) (by omega)).mono ?_; rintro e w1 ⟨rfl, rfl⟩)
      go_ret2
      exact ⟨rfl, (Below.refl _ _).alloc (Nat.le_refl _) _⟩
    | some y =>
      rw [hx] at hc hc2
      clear hx
      go_enter Tryd.func16, Tryd.ntmps16
      go_wp2_with (go_at_call 34; refine (on_yes _ _ (by omega) (by omega)).mono ?_; rintro e w1 ⟨rfl, rfl⟩)
      go_ret2
      exact ⟨rfl, (Below.refl _ _).alloc (Nat.le_refl _) _⟩
  · rw [Sp.getM, if_neg hi]
    have HI := Lib.hid hi
    clear hi hcells
    go_enter Tryd.func16, Tryd.ntmps16
    go_wp2_with (go_at_call 34; refine (on_no _ _ (by have := HI.out; omega)).mono ?_; rintro e w1 ⟨rfl, rfl⟩)
    go_ret2
    exact ⟨rfl, (Below.refl _ _).alloc (Nat.le_refl _) _⟩

end Go.Proofs.YtbgmlcakdkkfdaaDoor
