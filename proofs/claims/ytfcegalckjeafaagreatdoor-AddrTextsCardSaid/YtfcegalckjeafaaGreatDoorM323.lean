/-
  Parts of the proof that AddrBegins,AddrTexts calls on: Dec2, Tn, Yi.
-/
import Derived.Test.YtfcegalckjeafaaGreatDoorM302
import Derived.Test.YtfcegalckjeafaaGreatDoorM303
import Derived.Test.YtfcegalckjeafaaGreatDoorM307
import Derived.Test.YtfcegalckjeafaaGreatDoorM319
import Derived.Test.YtfcegalckjeafaaGreatDoorM321
import Derived.Test.YtfcegalckjeafaaGreatDoorM322
namespace Go.Proofs.YtfcegalckjeafaaGreatDoor
open Go.RowKit Go.BigFrame
theorem arr_slice (w : World) (g : Nat) (k : Nat) (hk : k < 20) : (Instr.sliceAt 144 (.pointer (some ⟨g, 0, none⟩)) (some (.int .i64 k)) none none).run Tryz.prog w = .ok (.slice (some ⟨g, k, none⟩) (20 - k) (20 - k)) w := by
  have ha : Tryz.prog.arrayLen 144 = 20 := by kernel_rfl
  have he : Tryz.prog.elem 144 = 5 := by kernel_rfl
  have hu : Tryz.prog.underlying 144 = some (.array 20 5) := by kernel_rfl
  obtain ⟨i0, hi, hz0, hz1, hz2⟩ := info_parts info_u8
  rw [run_sliceAt_array_l w 144 _ (by rw [ha, he]; exact hu) .i64 k (by omega) (by rw [ha]; omega), he, ha]
  have hs : (sizeOf 5).run Tryz.prog w = .ok 1 w := by simp [sizeOf, typeInfo, hi, hz1]
  rw [hs]
  simp only [Result.andThen_ok, slicedAt, Int.toNat_natCast, Nat.mul_one]
  have e : (⟨g, 0, none⟩ : Addr).add k = ⟨g, k, none⟩ := by
    unfold Addr.add
    by_cases h0 : k = 0 <;> simp [h0]
  rw [if_neg (by omega), e]
set_option maxRecDepth 100000 in
set_option maxHeartbeats 2000000 in
theorem dec_any (n : Int) (w : World) (h1 : -9223372036854775808 ≤ n) (h2 : n ≤ 9223372036854775807) :
    Calls Tryz.prog 54 #[.int .i64 n] w fun e w' => e = .returned (.string ⟨(decL n).toArray⟩) ∧ Below w.heap.size w w' := by
  have hsz := Lib.hid (fun w => size_any n w h1 h2)
  have hlen := Lib.hid (ndig_len 18 n.natAbs (by have : (10:Nat)^(18+1) = 10000000000000000000 := by decide
                                                 omega))
  have hu : n.natAbs ≤ 9223372036854775808 := by omega
  have HD : Hid (decL n = if n < 0 then 45 :: ndig n.natAbs else ndig n.natAbs) := Lib.hid rfl
  generalize n.natAbs = U at *
  go_enter Tryz.func54, Tryz.ntmps54
  go_wp2_with fail
  refine (hsz.out _).mono ?_
  rintro e w1 ⟨rfl, hw1⟩
  have hw1' := hw1.symm
  subst hw1'
  clear hw1
  go_wp2_with fail
  go_loopg [4, 5] 20 (fun g a u wr => ∃ (k m : Nat) (Z D : List UInt8), k = g ∧ k ≤ 20 ∧ a = .int .i64 k ∧ u = .int .u64 m ∧ m ≤ U ∧ Z.length = k ∧ D.length = 20 - k ∧ Hid (Blk wr w.heap.size 144 ((Z ++ D).map bv).toArray) ∧ Hid (Below w.heap.size w wr) ∧ Hid (ndig m ++ D = ndig U))
  case atStart => exact ⟨20, U, List.replicate 20 0, [], rfl, by omega, rfl, rfl, Nat.le_refl _, rfl, rfl, Blk.new _ _ _, (Below.refl _ _).alloc (Nat.le_refl _) _, by show ndig U ++ [] = _; simp⟩
  case round =>
    obtain ⟨k, m, Z, D, rfl, hk, rfl, rfl, hm, hZ, hD, hB, hW, hS⟩ := hrel
    have hk2 : 2 ≤ k := by
      have h1 := congrArg List.length hS.out
      have h2 := ndig_pos m
      have h3 := hlen.out
      rw [List.length_append] at h1
      omega
    obtain ⟨i, rfl⟩ : ∃ i, k = i + 1 := ⟨k - 1, by omega⟩
    obtain ⟨Z', z, rfl⟩ := exists_snoc Z (by omega)
    have hZi : Z'.length = i := by simp at hZ; exact hZ
    have hcell : wr.cell? ⟨w.heap.size, i, none⟩ = some (bv z) := cell_at hB.out i z (by simp [← hZi])
    have hfr := hB.out.frozen i
    have hB1 : Hid (Blk (wr.setCell ⟨w.heap.size, i, none⟩ (.int .u8 (48 + (m : Int) % 10))) w.heap.size 144 ((Z' ++ (UInt8.ofNat (48 + m % 10) :: D)).map bv).toArray) := Lib.hid (by
      have h1 := hB.out.set_ i (.int .u8 (48 + (m : Int) % 10))
      have h2 := bv_dig (n := m % 10) (Nat.mod_lt _ (by omega))
      rw [show ((48 : Int) + (m : Int) % 10) = (48 : Int) + ((m % 10 : Nat) : Int) by omega] at h1 ⊢
      rw [← h2] at h1 ⊢
      have e : ((((Z' ++ [z]) ++ D).map bv).toArray.setIfInBounds i (bv (UInt8.ofNat (48 + m % 10)))) = ((Z' ++ (UInt8.ofNat (48 + m % 10) :: D)).map bv).toArray := by
        subst hZi
        simp
      rwa [e] at h1)
    have hW1 : Hid (Below w.heap.size w (wr.setCell ⟨w.heap.size, i, none⟩ (.int .u8 (48 + (m : Int) % 10)))) := Lib.hid (hW.out.setCell (Nat.le_refl _) _)
    by_cases h10 : m < 10
    · have hz : (m : Int) / 10 = 0 := by omega
      have hfin : Hid (UInt8.ofNat (48 + m % 10) :: D = ndig U) := Lib.hid (by
        rw [← hS.out, ndig_lt m h10, Nat.mod_eq_of_lt h10]; rfl)
      have hDl : (UInt8.ofNat (48 + m % 10) :: D).length = 20 - i := by simp; omega
      by_cases hn : n < 0
      · obtain ⟨j, rfl⟩ : ∃ j, i = j + 1 := ⟨i - 1, by omega⟩
        obtain ⟨Y, y, rfl⟩ := exists_snoc Z' (by omega)
        have hYj : Y.length = j := by simp at hZi; exact hZi
        have hc2 : (wr.setCell ⟨w.heap.size, j + 1, none⟩ (.int .u8 (48 + (m : Int) % 10))).cell? ⟨w.heap.size, j, none⟩ = some (bv y) := cell_at hB1.out j y (by simp [← hYj])
        have hf2 := hB1.out.frozen j
        have hsl := arr_slice ((wr.setCell ⟨w.heap.size, j + 1, none⟩ (.int .u8 (48 + (m : Int) % 10))).setCell ⟨w.heap.size, j, none⟩ (.int .u8 45)) w.heap.size j (by omega)
        have hB2 : Blk ((wr.setCell ⟨w.heap.size, j + 1, none⟩ (.int .u8 (48 + (m : Int) % 10))).setCell ⟨w.heap.size, j, none⟩ (.int .u8 45)) w.heap.size 144 ((Y ++ (45 :: (UInt8.ofNat (48 + m % 10) :: D))).map bv).toArray := by
          have h1 := hB1.out.set_ j (.int .u8 45)
          have e : ((((Y ++ [y]) ++ (UInt8.ofNat (48 + m % 10) :: D)).map bv).toArray.setIfInBounds j (.int .u8 45)) = ((Y ++ (45 :: (UInt8.ofNat (48 + m % 10) :: D))).map bv).toArray := by
            subst hYj
            simp
            rfl
          rwa [e] at h1
        have hcv := str_of hB2 j (20 - j) (45 :: (UInt8.ofNat (48 + m % 10) :: D)) (by rw [← hYj]; simp) (by simp at hDl ⊢; omega)
        have hX : Hid (decL n = 45 :: (UInt8.ofNat (48 + m % 10) :: D)) := Lib.hid (by rw [HD.out, if_pos hn, hfin.out])
        have hW2 := Lib.hid (hW1.out.setCell (p := ⟨w.heap.size, j, none⟩) (Nat.le_refl _) (.int .u8 45))
        clear hB2 hDl hB HD
        go_wp2_with fail
        go_ret
        exact ⟨by rw [hX.out]; simp, hW2.out⟩
      · have hsl := arr_slice (wr.setCell ⟨w.heap.size, i, none⟩ (.int .u8 (48 + (m : Int) % 10))) w.heap.size i (by omega)
        have hcv := str_of hB1.out i (20 - i) (UInt8.ofNat (48 + m % 10) :: D) (by rw [← hZi]; simp) hDl
        have hX : Hid (decL n = UInt8.ofNat (48 + m % 10) :: D) := Lib.hid (by rw [HD.out, if_neg hn, hfin.out])
        clear hDl hB HD
        go_wp2_with fail
        go_ret
        exact ⟨by rw [hX.out]; simp, hW1.out⟩
    · have hz : ¬ (m : Int) / 10 = 0 := by omega
      have hN : Hid (ndig (m / 10) ++ (UInt8.ofNat (48 + m % 10) :: D) = ndig U) := Lib.hid (by rw [← hS.out, ndig_ge m h10]; simp)
      go_wp2_with fail
      go_roundg i
      case measure => omega
      case rel => exact ⟨i, m / 10, Z', UInt8.ofNat (48 + m % 10) :: D, rfl, by omega, by simp, by simp, by omega, hZi, by simp; omega, hB1, hW1, hN⟩
end Go.Proofs.YtfcegalckjeafaaGreatDoor
namespace Go.Proofs.YtfcegalckjeafaaGreatDoor
open Go.RowKit Go.BigFrame
theorem stepT_len (x : St) (h : x.T.length ≤ 3000) (h1 : -9223372036854775808 ≤ x.I) (h2 : x.I ≤ 9223372036854775807) : (stepT x).length ≤ 12004 := by
  have a := decL_len x.I h1 h2
  have b := quoteL_len x.T
  unfold stepT
  split
  · simp; omega
  split
  · simp; omega
  split
  · simp; omega
  · simp
theorem cat_any (x y : ByteArray) (w : World) (z : List UInt8) (hx : x.size ≤ 67108864) (hy : y.size ≤ 67108864) (hz : bytes x ++ bytes y = z) : (Op.stringOp .add x y).run Tryz.prog w = .ok (.string ⟨z.toArray⟩) w := by
  have h := cat_bytes (bytes x) (bytes y) w (by rw [bytes_len]; exact hx) (by rw [bytes_len]; exact hy)
  rw [show (⟨(bytes x).toArray⟩ : ByteArray) = x from ba_eta x, show (⟨(bytes y).toArray⟩ : ByteArray) = y from ba_eta y, hz] at h
  exact h
theorem flat_step {l : List St} {k : Nat} {x : St} (h : l[k]? = some x) : (l.take (k + 1)).flatMap stepT = (l.take k).flatMap stepT ++ stepT x := by
  rw [List.take_add_one, h, List.flatMap_append]
  simp
set_option maxRecDepth 100000 in
set_option maxHeartbeats 8000000 in
theorem print_any (A : Option Addr) (c : Nat) (l : List St) (w : World) (h : StepsIn w A l) (hn : l.length ≤ 70) (hs : ∀ x ∈ l, x.T.length ≤ 3000 ∧ -9223372036854775808 ≤ x.I ∧ x.I ≤ 9223372036854775807) :
    Calls Tryz.prog 20 #[.slice A l.length c] w (VBOut w (sv (printL l))) := by
  have H := Lib.hid h
  have HS := Lib.hid hs
  clear h hs
  go_enter Tryz.func20, Tryz.ntmps20
  go_wp2
  go_loopw [3, 8] (fun v i wr => ∃ (k : Nat) (b : ByteArray), k ≤ l.length ∧ i = .int .i64 k ∧ v = .string b ∧ b.size ≤ 1 + 12004 * k ∧ Hid (bytes b = 36 :: (l.take k).flatMap stepT) ∧ Hid (Below w.heap.size w wr)) (fun _ i _ => (l.length - intOf i).toNat)
  case atStart => exact ⟨0, ⟨#[36]⟩, Nat.zero_le _, rfl, rfl, by show 1 ≤ _; omega, rfl, Below.refl _ _⟩
  case round =>
    obtain ⟨k, b, hk, rfl, rfl, hbs, hb, hB⟩ := hrel
    have hz0 := hB.out.size
    by_cases hlt : k < l.length
    · obtain ⟨ad, K, I, T, rfl, hx, hc0, hc1, hc2⟩ := (H.out.below hB.out).at_ hlt
      have hxl := HS.out _ (List.mem_of_getElem? hx)
      obtain ⟨hT, hI1, hI2⟩ := hxl
      simp only at hT hI1 hI2
      have HF := Lib.hid (flat_step hx)
      have HL := Lib.hid (stepT_len ⟨K, I, T⟩ hT hI1 hI2)
      have hbs2 : b.size ≤ 67108864 := by omega
      have fin : Hid (∀ b3 : ByteArray, bytes b3 = bytes b ++ stepT ⟨K, I, T⟩ → b3.size ≤ 1 + 12004 * (k + 1) ∧ bytes b3 = 36 :: (l.take (k + 1)).flatMap stepT) := Lib.hid fun b3 h3 => by
        refine ⟨?_, by rw [h3, HF.out, hb.out]; simp⟩
        have := congrArg List.length h3
        rw [List.length_append, bytes_len, bytes_len] at this
        have := HL.out
        omega
      clear hx
      by_cases k0 : K = 0
      · subst k0
        have hst : Hid (stepT ⟨0, I, T⟩ = 91 :: (decL I ++ [93])) := Lib.hid (by simp [stepT])
        have hd := Lib.hid (fun W => dec_any I W hI1 hI2)
        obtain ⟨db, hdb⟩ : ∃ db : ByteArray, db = ⟨(decL I).toArray⟩ := ⟨_, rfl⟩
        have hdl := decL_len I hI1 hI2
        have hds : db.size ≤ 20 := by rw [hdb, size_mk]; exact hdl
        have hbd : Hid (bytes db = decL I) := Lib.hid (by rw [hdb])
        rw [← hdb] at hd
        clear hdb hdl
        obtain ⟨b1, e1⟩ : ∃ b1 : ByteArray, b1 = ⟨(91 :: decL I).toArray⟩ := ⟨_, rfl⟩
        obtain ⟨b2, e2⟩ : ∃ b2 : ByteArray, b2 = ⟨(91 :: (decL I ++ [93])).toArray⟩ := ⟨_, rfl⟩
        obtain ⟨b3, e3⟩ : ∃ b3 : ByteArray, b3 = ⟨(bytes b ++ 91 :: (decL I ++ [93])).toArray⟩ := ⟨_, rfl⟩
        have HA : Hid (∀ W, (Op.stringOp .add ⟨#[91]⟩ db).run Tryz.prog W = .ok (.string b1) W) := Lib.hid fun W => by rw [e1]; exact cat_any _ _ W _ (by decide) (by omega) (by rw [hbd.out]; rfl)
        have hb1 : b1.size ≤ 21 := by rw [e1, size_mk]; simp; rw [← hbd.out, bytes_len]; omega
        have HB2 : Hid (∀ W, (Op.stringOp .add b1 ⟨#[93]⟩).run Tryz.prog W = .ok (.string b2) W) := Lib.hid fun W => by rw [e2]; exact cat_any _ _ W _ (by omega) (by decide) (by rw [e1]; rfl)
        have hb2 : b2.size ≤ 22 := by rw [e2, size_mk]; simp; rw [← hbd.out, bytes_len]; omega
        have HC : Hid (∀ W, (Op.stringOp .add b b2).run Tryz.prog W = .ok (.string b3) W) := Lib.hid fun W => by rw [e3]; exact cat_any _ _ W _ hbs2 (by omega) (by rw [e2])
        have hfin := Lib.hid (fin.out b3 (by rw [e3, hst.out]))
        clear e1 e2 e3 fin hst
        go_wp2_with fail
        refine (hd.out _).mono ?_
        rintro e w1 ⟨rfl, hbw⟩
        have a1 := HA.out w1
        have a2 := HB2.out w1
        have a3 := HC.out w1
        have HBW := Lib.hid hbw
        clear hbw
        go_wp2
        have hal := hB.out.alloc hz0 (.cells #[.int .i64 0, .int .i64 I, .string ⟨T.toArray⟩] 48)
        exact ⟨⟨k + 1, b3, by omega, by go_num, rfl, hfin.out.1, hfin.out.2, hal.trans (HBW.out.mono hal.size)⟩, by simp [intOf]; omega⟩
      by_cases k1 : K = 1
      · subst k1
        have hst : Hid (stepT ⟨1, I, T⟩ = 91 :: (quoteL T ++ [93])) := Lib.hid (by simp [stepT])
        have hd := Lib.hid (fun W => quote_any ⟨T.toArray⟩ W (by rw [size_mk]; omega))
        rw [bytes_mk] at hd
        simp only [sv] at hd
        obtain ⟨db, hdb⟩ : ∃ db : ByteArray, db = ⟨(quoteL T).toArray⟩ := ⟨_, rfl⟩
        have hdl := quoteL_len T
        have hds : db.size ≤ 12002 := by rw [hdb, size_mk]; omega
        have hbd : Hid (bytes db = quoteL T) := Lib.hid (by rw [hdb])
        rw [← hdb] at hd
        clear hdb hdl
        obtain ⟨b1, e1⟩ : ∃ b1 : ByteArray, b1 = ⟨(91 :: quoteL T).toArray⟩ := ⟨_, rfl⟩
        obtain ⟨b2, e2⟩ : ∃ b2 : ByteArray, b2 = ⟨(91 :: (quoteL T ++ [93])).toArray⟩ := ⟨_, rfl⟩
        obtain ⟨b3, e3⟩ : ∃ b3 : ByteArray, b3 = ⟨(bytes b ++ 91 :: (quoteL T ++ [93])).toArray⟩ := ⟨_, rfl⟩
        have HA : Hid (∀ W, (Op.stringOp .add ⟨#[91]⟩ db).run Tryz.prog W = .ok (.string b1) W) := Lib.hid fun W => by rw [e1]; exact cat_any _ _ W _ (by decide) (by omega) (by rw [hbd.out]; rfl)
        have hb1 : b1.size ≤ 12003 := by rw [e1, size_mk]; simp only [List.length_cons]; rw [← hbd.out, bytes_len]; omega
        have HB2 : Hid (∀ W, (Op.stringOp .add b1 ⟨#[93]⟩).run Tryz.prog W = .ok (.string b2) W) := Lib.hid fun W => by rw [e2]; exact cat_any _ _ W _ (by omega) (by decide) (by rw [e1]; rfl)
        have hb2 : b2.size ≤ 12004 := by rw [e2, size_mk]; simp only [List.length_cons, List.length_append, List.length_nil]; rw [← hbd.out, bytes_len]; omega
        have HC : Hid (∀ W, (Op.stringOp .add b b2).run Tryz.prog W = .ok (.string b3) W) := Lib.hid fun W => by rw [e3]; exact cat_any _ _ W _ hbs2 (by omega) (by rw [e2])
        have hfin := Lib.hid (fin.out b3 (by rw [e3, hst.out]))
        clear e1 e2 e3 fin hst
        go_wp2_with fail
        refine (hd.out _).mono ?_
        rintro e w1 ⟨rfl, hbw⟩
        have a1 := HA.out w1
        have a2 := HB2.out w1
        have a3 := HC.out w1
        have HBW := Lib.hid hbw
        clear hbw
        go_wp2
        have hal := hB.out.alloc hz0 (.cells #[.int .i64 1, .int .i64 I, .string ⟨T.toArray⟩] 48)
        exact ⟨⟨k + 1, b3, by omega, by go_num, rfl, hfin.out.1, hfin.out.2, hal.trans (HBW.out.mono hal.size)⟩, by simp [intOf]; omega⟩
      by_cases k2 : K = 2
      · subst k2
        have hst : Hid (stepT ⟨2, I, T⟩ = 60 :: (quoteL T ++ [62])) := Lib.hid (by simp [stepT])
        have hd := Lib.hid (fun W => quote_any ⟨T.toArray⟩ W (by rw [size_mk]; omega))
        rw [bytes_mk] at hd
        simp only [sv] at hd
        obtain ⟨db, hdb⟩ : ∃ db : ByteArray, db = ⟨(quoteL T).toArray⟩ := ⟨_, rfl⟩
        have hdl := quoteL_len T
        have hds : db.size ≤ 12002 := by rw [hdb, size_mk]; omega
        have hbd : Hid (bytes db = quoteL T) := Lib.hid (by rw [hdb])
        rw [← hdb] at hd
        clear hdb hdl
        obtain ⟨b1, e1⟩ : ∃ b1 : ByteArray, b1 = ⟨(60 :: quoteL T).toArray⟩ := ⟨_, rfl⟩
        obtain ⟨b2, e2⟩ : ∃ b2 : ByteArray, b2 = ⟨(60 :: (quoteL T ++ [62])).toArray⟩ := ⟨_, rfl⟩
        obtain ⟨b3, e3⟩ : ∃ b3 : ByteArray, b3 = ⟨(bytes b ++ 60 :: (quoteL T ++ [62])).toArray⟩ := ⟨_, rfl⟩
        have HA : Hid (∀ W, (Op.stringOp .add ⟨#[60]⟩ db).run Tryz.prog W = .ok (.string b1) W) := Lib.hid fun W => by rw [e1]; exact cat_any _ _ W _ (by decide) (by omega) (by rw [hbd.out]; rfl)
        have hb1 : b1.size ≤ 12003 := by rw [e1, size_mk]; simp only [List.length_cons]; rw [← hbd.out, bytes_len]; omega
        have HB2 : Hid (∀ W, (Op.stringOp .add b1 ⟨#[62]⟩).run Tryz.prog W = .ok (.string b2) W) := Lib.hid fun W => by rw [e2]; exact cat_any _ _ W _ (by omega) (by decide) (by rw [e1]; rfl)
        have hb2 : b2.size ≤ 12004 := by rw [e2, size_mk]; simp only [List.length_cons, List.length_append, List.length_nil]; rw [← hbd.out, bytes_len]; omega
        have HC : Hid (∀ W, (Op.stringOp .add b b2).run Tryz.prog W = .ok (.string b3) W) := Lib.hid fun W => by rw [e3]; exact cat_any _ _ W _ hbs2 (by omega) (by rw [e2])
        have hfin := Lib.hid (fin.out b3 (by rw [e3, hst.out]))
        clear e1 e2 e3 fin hst
        go_wp2_with fail
        refine (hd.out _).mono ?_
        rintro e w1 ⟨rfl, hbw⟩
        have a1 := HA.out w1
        have a2 := HB2.out w1
        have a3 := HC.out w1
        have HBW := Lib.hid hbw
        clear hbw
        go_wp2
        have hal := hB.out.alloc hz0 (.cells #[.int .i64 2, .int .i64 I, .string ⟨T.toArray⟩] 48)
        exact ⟨⟨k + 1, b3, by omega, by go_num, rfl, hfin.out.1, hfin.out.2, hal.trans (HBW.out.mono hal.size)⟩, by simp [intOf]; omega⟩
      · have hst : Hid (stepT ⟨K, I, T⟩ = [91, 63, 93]) := Lib.hid (by simp [stepT, k0, k1, k2])
        have n0 : (K == 0) = false := by simpa using k0
        have n1 : (K == 1) = false := by simpa using k1
        have n2 : (K == 2) = false := by simpa using k2
        obtain ⟨b3, e3⟩ : ∃ b3 : ByteArray, b3 = ⟨(bytes b ++ [91, 63, 93]).toArray⟩ := ⟨_, rfl⟩
        have HC : Hid (∀ W, (Op.stringOp .add b ⟨#[91, 63, 93]⟩).run Tryz.prog W = .ok (.string b3) W) := Lib.hid fun W => by rw [e3]; exact cat_any _ _ W _ hbs2 (by decide) rfl
        have hfin := Lib.hid (fin.out b3 (by rw [e3, hst.out]))
        clear e3 fin hst
        have a3 := HC.out (wr.alloc (.cells #[.int .i64 K, .int .i64 I, .string ⟨T.toArray⟩] 48))
        go_wp2
        exact ⟨⟨k + 1, b3, by omega, by go_num, rfl, hfin.out.1, hfin.out.2, hB.out.alloc hz0 _⟩, by simp [intOf]; omega⟩
    · have hX : Hid (b = ⟨(printL l).toArray⟩) := Lib.hid (by
        have hk' : k = l.length := by omega
        rw [← ba_eta b]
        show (⟨(bytes b).toArray⟩ : ByteArray) = _
        rw [hb.out, hk', List.take_length]
        rfl)
      go_wp2
      go_ret
      exact ⟨by rw [hX.out]; rfl, hB.out⟩
end Go.Proofs.YtfcegalckjeafaaGreatDoor
namespace Go.Proofs.YtfcegalckjeafaaGreatDoor
open Go.RowKit Go.BigFrame Go.Shelf
set_option maxRecDepth 100000 in
set_option maxHeartbeats 4000000 in
theorem one_any (x : T) (r : TR) (S : Nat → Prop) (w : World) (h : IsTr w S x r) :
    Calls Tryz.prog 41 #[r.a] w fun e w' => ∃ u, e = .returned (TR.a u) ∧ IsTr w' (up S w.heap.size) (.mk 4 0 [] [] [x]) u ∧ Below w.heap.size w w' := by
  have HT := Lib.hid h.bound
  clear h
  obtain ⟨rk, ri, rt, kA, kn, kc, xA, xn, xc⟩ := r
  simp only [TR.a]
  go_enter Tryz.func41, Tryz.ntmps41
  go_wp2_with (first
    | (refine wpList_stE (E := eT) rfl rfl infoT rfl ⟨4, 0, [], none, 0, 0, some ⟨w.heap.size + 1 + 1, 0, none⟩, 1, 1⟩ (Blk.alloc (Blk.new' (by simp)) _) rfl rfl ?_; intro w8 HR8 ho8 hB8)
    | fail)
  have hb2 : Below w.heap.size w (((w.alloc (.cells #[.int .i64 rk, .int .i64 ri, .string ⟨rt.toArray⟩, .slice kA kn kc, .slice xA xn xc] 28)).alloc (.cells TR.z.l.toArray 28)).alloc (.cells (TR.l ⟨rk, ri, rt, kA, kn, kc, xA, xn, xc⟩).toArray 28)) := (((Below.refl _ _).alloc (Nat.le_refl _) _).alloc (by simp) _).alloc (by simp; omega) _
  have HB := Lib.hid hb2
  have HRD := Lib.hid (reads_one_E eT ((w.alloc (.cells #[.int .i64 rk, .int .i64 ri, .string ⟨rt.toArray⟩, .slice kA kn kc, .slice xA xn xc] 28)).alloc (.cells TR.z.l.toArray 28)) 28 ⟨rk, ri, rt, kA, kn, kc, xA, xn, xc⟩)
  clear hb2
  refine ret_c (p := 2) rfl rfl rfl HR8.out (by kernel_rfl) ⟨⟨4, 0, [], none, 0, 0, some ⟨w.heap.size + 1 + 1, 0, none⟩, 1, 1⟩, rfl, ?_, hB8 _ _ HB.out (by omega)⟩
  rw [IsTr]
  refine ⟨rfl, rfl, rfl, rfl, Nat.le_refl _, ⟨rfl, fun h => absurd h (Nat.lt_irrefl 0)⟩, rfl, Nat.le_refl _, [⟨rk, ri, rt, kA, kn, kc, xA, xn, xc⟩], ?_, IsTrs.one ?_⟩
  · have h1 := HRD.out
    have e : ((w.alloc (.cells #[.int .i64 rk, .int .i64 ri, .string ⟨rt.toArray⟩, .slice kA kn kc, .slice xA xn xc] 28)).alloc (.cells TR.z.l.toArray 28)).heap.size = w.heap.size + 1 + 1 := by simp
    rw [e] at h1
    exact (h1.keeps (w' := w8) (fun k hk hs => ho8 k (by omega))).more (fun k hk => .inr (by omega))
  · exact ((HT.out.keeps (.of_below HB.out)).keeps (w' := w8) (fun k hk hs => ho8 k (by have := hs.2; omega))).more (fun k hk => .inl hk.1)
end Go.Proofs.YtfcegalckjeafaaGreatDoor
