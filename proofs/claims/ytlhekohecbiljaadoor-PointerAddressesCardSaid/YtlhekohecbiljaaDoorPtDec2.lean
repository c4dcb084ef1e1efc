/-
  num.Digits: the walk.
-/
import Derived.Test.YtlhekohecbiljaaDoorPtDec
namespace Go.Proofs.YtlhekohecbiljaaDoor
open Go.RowKit Go.BigFrame

theorem exists_snoc {α : Type} (Z : List α) (h : 0 < Z.length) : ∃ Z' z, Z = Z' ++ [z] := by
  exact ⟨Z.dropLast, Z.getLast (by intro e; simp [e] at h), (List.dropLast_concat_getLast _).symm⟩
theorem arr_slice (w : World) (g : Nat) (k : Nat) (hk : k < 20) : (Instr.sliceAt 69 (.pointer (some ⟨g, 0, none⟩)) (some (.int .i64 k)) none none).run Tryd.prog w = .ok (.slice (some ⟨g, k, none⟩) (20 - k) (20 - k)) w := by
  have ha : Tryd.prog.arrayLen 69 = 20 := by kernel_rfl
  have he : Tryd.prog.elem 69 = 5 := by kernel_rfl
  have hu : Tryd.prog.underlying 69 = some (.array 20 5) := by kernel_rfl
  obtain ⟨i0, hi, hz0, hz1, hz2⟩ := info_parts info_u8
  rw [run_sliceAt_array_l w 69 _ (by rw [ha, he]; exact hu) .i64 k (by omega) (by rw [ha]; omega), he, ha]
  have hs : (sizeOf 5).run Tryd.prog w = .ok 1 w := by simp [sizeOf, typeInfo, hi, hz1]
  rw [hs]
  simp only [Result.andThen_ok, slicedAt, Int.toNat_natCast, Nat.mul_one]
  have e : (⟨g, 0, none⟩ : Addr).add k = ⟨g, k, none⟩ := by
    unfold Addr.add
    by_cases h0 : k = 0 <;> simp [h0]
  rw [if_neg (by omega), e]
theorem cell_at {w : World} {g : Nat} {t : TypeId} {L : List UInt8} (h : Blk w g t (L.map bv).toArray) (i : Nat) (b : UInt8) (hb : L[i]? = some b) : w.cell? ⟨g, i, none⟩ = some (bv b) := by
  rw [h.cell]
  simp [hb]
theorem str_of {w : World} {g : Nat} {t : TypeId} {L : List UInt8} (h : Blk w g t (L.map bv).toArray) (k n : Nat) (D : List UInt8) (hD : L.drop k = D) (hn : D.length = n) :
    (convert 49 9 (.slice (some ⟨g, k, none⟩) n n)).run Tryd.prog w = .ok (.string ⟨D.toArray⟩) w := by
  subst hn
  refine run_convert_bytes_back w _ _ _ _ _ D Tryd.underlying49 Tryd.underlying5 Tryd.underlying9 (fun j hj => ?_)
  have : (⟨g, k, none⟩ : Addr).add j = ⟨g, k + j, none⟩ := by
    unfold Addr.add
    by_cases h0 : j = 0 <;> simp [h0]
  rw [this]
  refine cell_at h (k + j) _ ?_
  rw [← List.getElem?_drop, hD]
  exact List.getElem?_eq_getElem hj

set_option maxRecDepth 100000 in
set_option maxHeartbeats 2000000 in
theorem dec_any (n : Int) (w : World) (h1 : -9223372036854775808 ≤ n) (h2 : n ≤ 9223372036854775807) :
    Calls Tryd.prog 35 #[.int .i64 n] w fun e w' => e = .returned (.string ⟨(decL n).toArray⟩) ∧ Below w.heap.size w w' := by
  have hsz := Lib.hid (fun w => size_any n w h1 h2)
  have hlen := Lib.hid (ndig_len 18 n.natAbs (by have : (10:Nat)^(18+1) = 10000000000000000000 := by decide
                                                 omega))
  have hu : n.natAbs ≤ 9223372036854775808 := by omega
  have HD : Hid (decL n = if n < 0 then 45 :: ndig n.natAbs else ndig n.natAbs) := Lib.hid rfl
  generalize n.natAbs = U at *
  go_enter Tryd.func35, Tryd.ntmps35
  go_wp2_with fail
  refine (hsz.out _).mono ?_
  rintro e w1 ⟨rfl, hw1⟩
  have hw1' := hw1.symm
  subst hw1'
  clear hw1
  go_wp2_with fail
  go_loopg [4, 5] 20 (fun g a u wr => ∃ (k m : Nat) (Z D : List UInt8), k = g ∧ k ≤ 20 ∧ a = .int .i64 k ∧ u = .int .u64 m ∧ m ≤ U ∧ Z.length = k ∧ D.length = 20 - k ∧ Hid (Blk wr w.heap.size 69 ((Z ++ D).map bv).toArray) ∧ Hid (Below w.heap.size w wr) ∧ Hid (ndig m ++ D = ndig U))
  case atStart => exact ⟨20, U, List.replicate 20 0, [], rfl, by omega, rfl, rfl, Nat.le_refl _, rfl, rfl, Blk.new _ _ _, (Below.refl _ _).alloc (Nat.le_refl _) _, by show ndig U ++ [] = _; simp⟩
  case round =>
    obtain ⟨k, m, Z, D, rfl, hk, rfl, rfl, hm, hZ, hD, hB, hW, hS⟩ := hrel
    have hk2 : 2 ≤ k := by
      have h1 := congrArg List.length hS.out
      have h2 := ndig_pos m
      have h3 := hlen.out
      rw [List.length_append] at h1
      omega
    obtain ⟨i, rfl⟩ : ∃ i, k = i + 1 := ⟨k - 1, by omega⟩
    obtain ⟨Z', z, rfl⟩ := exists_snoc Z (by omega)
    have hZi : Z'.length = i := by simp at hZ; exact hZ
    have hcell : wr.cell? ⟨w.heap.size, i, none⟩ = some (bv z) := cell_at hB.out i z (by simp [← hZi])
    have hfr := hB.out.frozen i
    have hB1 : Hid (Blk (wr.setCell ⟨w.heap.size, i, none⟩ (.int .u8 (48 + (m : Int) % 10))) w.heap.size 69 ((Z' ++ (UInt8.ofNat (48 + m % 10) :: D)).map bv).toArray) := Lib.hid (by
      have h1 := hB.out.set_ i (.int .u8 (48 + (m : Int) % 10))
      have h2 := bv_dig (n := m % 10) (Nat.mod_lt _ (by omega))
      rw [show ((48 : Int) + (m : Int) % 10) = (48 : Int) + ((m % 10 : Nat) : Int) by omega] at h1 ⊢
      rw [← h2] at h1 ⊢
      have e : ((((Z' ++ [z]) ++ D).map bv).toArray.setIfInBounds i (bv (UInt8.ofNat (48 + m % 10)))) = ((Z' ++ (UInt8.ofNat (48 + m % 10) :: D)).map bv).toArray := by
        subst hZi
        simp
      rwa [e] at h1)
    have hW1 : Hid (Below w.heap.size w (wr.setCell ⟨w.heap.size, i, none⟩ (.int .u8 (48 + (m : Int) % 10)))) := Lib.hid (hW.out.setCell (Nat.le_refl _) _)
    by_cases h10 : m < 10
    · have hz : (m : Int) / 10 = 0 := by omega
      have hfin : Hid (UInt8.ofNat (48 + m % 10) :: D = ndig U) := Lib.hid (by
        rw [← hS.out, ndig_lt m h10, Nat.mod_eq_of_lt h10]; rfl)
      have hDl : (UInt8.ofNat (48 + m % 10) :: D).length = 20 - i := by simp; omega
      by_cases hn : n < 0
      · obtain ⟨j, rfl⟩ : ∃ j, i = j + 1 := ⟨i - 1, by omega⟩
        obtain ⟨Y, y, rfl⟩ := exists_snoc Z' (by omega)
        have hYj : Y.length = j := by simp at hZi; exact hZi
        have hc2 : (wr.setCell ⟨w.heap.size, j + 1, none⟩ (.int .u8 (48 + (m : Int) % 10))).cell? ⟨w.heap.size, j, none⟩ = some (bv y) := cell_at hB1.out j y (by simp [← hYj])
        have hf2 := hB1.out.frozen j
        have hsl := arr_slice ((wr.setCell ⟨w.heap.size, j + 1, none⟩ (.int .u8 (48 + (m : Int) % 10))).setCell ⟨w.heap.size, j, none⟩ (.int .u8 45)) w.heap.size j (by omega)
        have hB2 : Blk ((wr.setCell ⟨w.heap.size, j + 1, none⟩ (.int .u8 (48 + (m : Int) % 10))).setCell ⟨w.heap.size, j, none⟩ (.int .u8 45)) w.heap.size 69 ((Y ++ (45 :: (UInt8.ofNat (48 + m % 10) :: D))).map bv).toArray := by
          have h1 := hB1.out.set_ j (.int .u8 45)
          have e : ((((Y ++ [y]) ++ (UInt8.ofNat (48 + m % 10) :: D)).map bv).toArray.setIfInBounds j (.int .u8 45)) = ((Y ++ (45 :: (UInt8.ofNat (48 + m % 10) :: D))).map bv).toArray := by
            subst hYj
            simp
            rfl
          rwa [e] at h1
        have hcv := str_of hB2 j (20 - j) (45 :: (UInt8.ofNat (48 + m % 10) :: D)) (by rw [← hYj]; simp) (by simp at hDl ⊢; omega)
        have hX : Hid (decL n = 45 :: (UInt8.ofNat (48 + m % 10) :: D)) := Lib.hid (by rw [HD.out, if_pos hn, hfin.out])
        have hW2 := Lib.hid (hW1.out.setCell (p := ⟨w.heap.size, j, none⟩) (Nat.le_refl _) (.int .u8 45))
        clear hB2 hDl hB HD
        go_wp2_with fail
        go_ret
        exact ⟨by rw [hX.out]; simp, hW2.out⟩
      · have hsl := arr_slice (wr.setCell ⟨w.heap.size, i, none⟩ (.int .u8 (48 + (m : Int) % 10))) w.heap.size i (by omega)
        have hcv := str_of hB1.out i (20 - i) (UInt8.ofNat (48 + m % 10) :: D) (by rw [← hZi]; simp) hDl
        have hX : Hid (decL n = UInt8.ofNat (48 + m % 10) :: D) := Lib.hid (by rw [HD.out, if_neg hn, hfin.out])
        clear hDl hB HD
        go_wp2_with fail
        go_ret
        exact ⟨by rw [hX.out]; simp, hW1.out⟩
    · have hz : ¬ (m : Int) / 10 = 0 := by omega
      have hN : Hid (ndig (m / 10) ++ (UInt8.ofNat (48 + m % 10) :: D) = ndig U) := Lib.hid (by rw [← hS.out, ndig_ge m h10]; simp)
      go_wp2_with fail
      go_roundg i
      case measure => omega
      case rel => exact ⟨i, m / 10, Z', UInt8.ofNat (48 + m % 10) :: D, rfl, by omega, by simp, by simp, by omega, hZi, by simp; omega, hB1, hW1, hN⟩
end Go.Proofs.YtlhekohecbiljaaDoor
