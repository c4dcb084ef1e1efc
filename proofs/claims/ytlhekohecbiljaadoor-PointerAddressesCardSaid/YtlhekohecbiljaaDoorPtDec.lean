/-
  A NUMBER'S DIGITS: the program's (backwards into twenty bytes), the document's (by recursion).
-/
import Derived.Test.YtlhekohecbiljaaDoorPtEsc
import Derived.Deep.LoopGhost
namespace Go.Proofs.YtlhekohecbiljaaDoor
open Go.RowKit Go.BigFrame

/-- The decimal digits of a number. -/
def ndig (n : Nat) : List UInt8 := if n < 10 then [UInt8.ofNat (48 + n)] else ndig (n / 10) ++ [UInt8.ofNat (48 + n % 10)]
termination_by n
decreasing_by omega
theorem ndig_lt (n : Nat) (h : n < 10) : ndig n = [UInt8.ofNat (48 + n)] := by rw [ndig, if_pos h]
theorem ndig_ge (n : Nat) (h : ¬ n < 10) : ndig n = ndig (n / 10) ++ [UInt8.ofNat (48 + n % 10)] := by rw [ndig, if_neg h]
theorem ndig_pos (n : Nat) : 0 < (ndig n).length := by
  by_cases h : n < 10
  · rw [ndig_lt n h]; simp
  · rw [ndig_ge n h]; simp
theorem ndig_len : ∀ (k n : Nat), n < 10 ^ (k + 1) → (ndig n).length ≤ k + 1
  | 0, n, h => by rw [ndig_lt n (by simpa using h)]; simp
  | k + 1, n, h => by
    by_cases h10 : n < 10
    · rw [ndig_lt n h10]; simp
    · rw [ndig_ge n h10]
      have := ndig_len k (n / 10) (Nat.div_lt_of_lt_mul (by rw [Nat.pow_succ] at h; omega))
      simp
      omega
theorem dig_lt {n : Nat} (h : n < 10) : (UInt8.ofNat (48 + n)).toNat = 48 + n := by
  rw [UInt8.toNat_ofNat']
  exact Nat.mod_eq_of_lt (by omega)
theorem ndig_dig : ∀ (k n : Nat), n ≤ k → ∀ b ∈ ndig n, 48 ≤ b.toNat ∧ b.toNat ≤ 57
  | k, n, hk, b, hb => by
    by_cases h10 : n < 10
    · rw [ndig_lt n h10] at hb
      rw [List.mem_singleton] at hb
      subst hb
      rw [dig_lt h10]
      omega
    · rw [ndig_ge n h10] at hb
      cases k with
      | zero => omega
      | succ k =>
        rcases List.mem_append.1 hb with hb | hb
        · exact ndig_dig k (n / 10) (by omega) b hb
        · rw [List.mem_singleton] at hb
          subst hb
          rw [dig_lt (Nat.mod_lt _ (by omega))]
          have := Nat.mod_lt n (show 0 < 10 by omega)
          omega
/-- .. with its sign. -/
def decL (n : Int) : List UInt8 := if n < 0 then 45 :: ndig n.natAbs else ndig n.natAbs
theorem decL_neg (n : Int) (h : n < 0) : decL n = 45 :: ndig n.natAbs := if_pos h
theorem decL_pos (n : Int) (h : ¬ n < 0) : decL n = ndig n.natAbs := if_neg h
theorem decL_len (n : Int) (h1 : -9223372036854775808 ≤ n) (h2 : n ≤ 9223372036854775807) : (decL n).length ≤ 20 := by
  have := ndig_len 18 n.natAbs (by have : (10:Nat)^(18+1) = 10000000000000000000 := by decide
                                   omega)
  unfold decL
  split <;> simp <;> omega
theorem decL_least : decL (-9223372036854775808) = [45, 57, 50, 50, 51, 51, 55, 50, 48, 51, 54, 56, 53, 52, 55, 55, 53, 56, 48, 56] := by
  rw [decL_neg _ (by decide)]
  rw [show (-9223372036854775808 : Int).natAbs = 9223372036854775808 by decide]
  iterate 18 rw [ndig_ge _ (by decide)]
  rw [ndig_lt _ (by decide)]
  decide

theorem undrew {B : Nat} {w w' : World} (h : Below B w.drew w') : Below B w w' := ⟨h.os, h.tape, h.output, h.size, h.block⟩
theorem neg_wrap (n : Int) (h1 : -9223372036854775808 ≤ n) (h : n < 0) : IntKind.u64.wrap (-IntKind.u64.wrap n) = (n.natAbs : Int) := by
  simp only [IntKind.wrap, IntKind.signed, IntKind.bits]
  simp
  omega

set_option maxRecDepth 100000 in
set_option maxHeartbeats 1000000 in
theorem size_any (n : Int) (w : World) (h1 : -9223372036854775808 ≤ n) (h2 : n ≤ 9223372036854775807) :
    Calls Tryd.prog 43 #[.int .i64 n] w fun e w' => e = .returned (.int .u64 n.natAbs) ∧ w' = w := by
  by_cases hn : n < 0
  · go_enter Tryd.func43, Tryd.ntmps43
    go_wp2
    go_ret
    refine ⟨?_, rfl⟩
    show Ending.returned (.int .u64 (IntKind.u64.wrap (-IntKind.u64.wrap n))) = _
    rw [neg_wrap n h1 hn]
  · go_enter Tryd.func43, Tryd.ntmps43
    go_wp2
    go_ret
    refine ⟨?_, rfl⟩
    show Ending.returned (.int .u64 n) = _
    rw [show (n.natAbs : Int) = n by omega]

theorem bv_dig {n : Nat} (h : n < 10) : bv (UInt8.ofNat (48 + n)) = .int .u8 ((48 : Int) + n) := by
  unfold bv
  rw [dig_lt h]
  rfl
theorem cat_bytes (x y : List UInt8) (w : World) (hx : x.length ≤ 67108864) (hy : y.length ≤ 67108864) : (Op.stringOp .add ⟨x.toArray⟩ ⟨y.toArray⟩).run Tryd.prog w = .ok (.string ⟨(x ++ y).toArray⟩) w := add_bytes x y w hx hy

set_option maxRecDepth 100000 in
set_option maxHeartbeats 2000000 in
theorem refDec_pos : ∀ (k : Nat) (n : Nat) (w : World), n ≤ k → n ≤ 9223372036854775807 →
    Calls Tryd.prog 36 #[.int .i64 n] w fun e w' => e = .returned (.string ⟨(ndig n).toArray⟩) ∧ Below w.heap.size w w'
  | k, n, w, hk, hn => by
    by_cases h10 : (n : Int) < 10
    · have hd := Lib.hid (ndig_lt n (by omega))
      have hcv : ∀ (w : World) (g : Nat), w.cell? ⟨g, 0, none⟩ = some (.int .u8 (48 + n)) → (convert 49 9 (.slice (some ⟨g, 0, none⟩) 1 1)).run Tryd.prog w = .ok (.string ⟨(ndig n).toArray⟩) w := by
        intro w g hc
        rw [hd.out]
        refine run_convert_bytes_back w _ _ _ _ _ [UInt8.ofNat (48 + n)] Tryd.underlying49 Tryd.underlying5 Tryd.underlying9 (fun j hj => ?_)
        obtain rfl : j = 0 := by simp at hj; omega
        simp only [List.getElem_cons_zero]
        rw [dig_lt (show n < 10 by omega)]
        exact hc
      go_enter Tryd.func36, Tryd.ntmps36
      go_wp2
      go_ret
      exact ⟨rfl, (Below.refl _ _).alloc (Nat.le_refl _) _⟩
    · have e1 : IntKind.u8.wrap (IntKind.i64.wrap (48 + (n : Int).tmod 10)) = ((48 + n % 10 : Nat) : Int) := by
        rw [Int.tmod_eq_emod_of_nonneg (by omega)]
        simp [IntKind.wrap, IntKind.bits, IntKind.signed]
        omega
      have e2 : Hid (IntKind.i64.wrap ((n : Int) / 10) = ((n / 10 : Nat) : Int)) := Lib.hid (by
        simp [IntKind.wrap, IntKind.bits, IntKind.signed]
        omega)
      have hcv : ∀ (w : World) (g : Nat), w.cell? ⟨g, 0, none⟩ = some (.int .u8 (IntKind.u8.wrap (IntKind.i64.wrap (48 + (n : Int).tmod 10)))) → (convert 49 9 (.slice (some ⟨g, 0, none⟩) 1 1)).run Tryd.prog w = .ok (.string ⟨[UInt8.ofNat (48 + n % 10)].toArray⟩) w := by
        intro w g hc
        refine run_convert_bytes_back w _ _ _ _ _ [UInt8.ofNat (48 + n % 10)] Tryd.underlying49 Tryd.underlying5 Tryd.underlying9 (fun j hj => ?_)
        obtain rfl : j = 0 := by simp at hj; omega
        simp only [List.getElem_cons_zero]
        rw [dig_lt (Nat.mod_lt _ (by omega)), ← e1]
        exact hc
      clear e1
      have hl := Lib.hid (ndig_len 18 (n / 10) (by have : (10:Nat)^(18+1) = 10000000000000000000 := by decide
                                                   omega))
      have hadd : ∀ w, (Op.stringOp .add ⟨(ndig (n / 10)).toArray⟩ ⟨[UInt8.ofNat (48 + n % 10)].toArray⟩).run Tryd.prog w = .ok (.string ⟨(ndig (n / 10) ++ [UInt8.ofNat (48 + n % 10)]).toArray⟩) w := fun w => add_bytes _ _ w (by have := hl.out; omega) (by simp)
      have a2 : ¬ 9223372036854775807 < (ndig (n / 10)).length + 1 := by have := hl.out; omega
      have ih : Hid (∀ (w : World) (m : Int), m = ((n / 10 : Nat) : Int) → Calls Tryd.prog 36 #[.int .i64 m] w fun e w' => e = .returned (.string ⟨(ndig (n / 10)).toArray⟩) ∧ Below w.heap.size w w') := Lib.hid (fun w m hm => by rw [hm]; exact refDec_pos (k - 1) (n / 10) w (by omega) (by omega))
      have hdd := Lib.hid (ndig_ge n (by omega))
      go_enter Tryd.func36, Tryd.ntmps36
      go_wp2
      go_region_with (go_at_call 36; refine (ih.out _ _ e2.out).mono ?_; rintro e w9 ⟨rfl, hb9⟩; try (have hc9 : w9.cell? ⟨w.heap.size, 0, none⟩ = some (.int .u8 (IntKind.u8.wrap (IntKind.i64.wrap (48 + (n : Int).tmod 10)))) := (hb9.cell (p := ⟨w.heap.size, 0, none⟩) (by simp)).trans ((Blk.new _ _ _).cell 0)))
      all_goals
        have hB9 : Below w.heap.size w w9 := by
          first
            | exact undrew hb9
            | exact ((Below.refl _ _).alloc (Nat.le_refl _) _).trans (undrew (hb9.mono (show w.heap.size ≤ _ by simp)))
        go_wp2
        go_ret
        refine ⟨?_, ?_⟩
        · rw [hdd.out]
          show Ending.returned (.string _) = _
          congr 2
          rw [ByteArray.mk_append_mk]
          simp
        · first
            | exact hB9
            | exact hB9.alloc hB9.size _


set_option maxRecDepth 100000 in
set_option maxHeartbeats 1000000 in
theorem refDec_any (n : Int) (w : World) (h1 : -9223372036854775808 ≤ n) (h2 : n ≤ 9223372036854775807) :
    Calls Tryd.prog 36 #[.int .i64 n] w fun e w' => e = .returned (.string ⟨(decL n).toArray⟩) ∧ Below w.heap.size w w' := by
  by_cases h0 : n < 0
  · by_cases hl : n = -9223372036854775808
    · subst hl
      have hd := Lib.hid decL_least
      rw [hd.out]
      go_enter Tryd.func36, Tryd.ntmps36
      go_wp2
      go_ret
      exact ⟨rfl, Below.refl _ _⟩
    · have hd := Lib.hid (decL_neg n h0)
      rw [hd.out]
      clear hd
      have hlen := Lib.hid (ndig_len 18 n.natAbs (by have : (10:Nat)^(18+1) = 10000000000000000000 := by decide
                                                     omega))
      have hw : Hid (∀ (w : World) (m : Int), m = ((n.natAbs : Nat) : Int) → Calls Tryd.prog 36 #[.int .i64 m] w fun e w' => e = .returned (.string ⟨(ndig n.natAbs).toArray⟩) ∧ Below w.heap.size w w') := Lib.hid (fun w m hm => by rw [hm]; exact refDec_pos n.natAbs n.natAbs w (Nat.le_refl _) (by omega))
      have a2 : ¬ 9223372036854775807 < (ndig n.natAbs).length + 1 := by have := hlen.out; omega
      have hadd : ∀ w, (Op.stringOp .add ⟨[45].toArray⟩ ⟨(ndig n.natAbs).toArray⟩).run Tryd.prog w = .ok (.string ⟨([45] ++ ndig n.natAbs).toArray⟩) w := fun w => add_bytes _ _ w (by simp) (by have := hlen.out; omega)
      go_enter Tryd.func36, Tryd.ntmps36
      go_wp2_with fail
      refine (hw.out w _ (by omega)).mono ?_
      rintro e w1 ⟨rfl, hb1⟩
      go_wp2
      go_ret
      exact ⟨rfl, hb1⟩
  · have hd := Lib.hid (decL_pos n h0)
    rw [hd.out]
    have := refDec_pos n.natAbs n.natAbs w (Nat.le_refl _) (by omega)
    rwa [show ((n.natAbs : Nat) : Int) = n by omega] at this

end Go.Proofs.YtlhekohecbiljaaDoor
