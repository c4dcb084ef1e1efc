/-
  Parts of the proof that AddrTold,AddrBegins calls on: Rr.
-/
import Derived.Deep.LoopGhost
import Derived.Test.YtfcegalckjeafaaGreatDoorM112
namespace Go.Proofs.YtfcegalckjeafaaGreatDoor
open Go.RowKit Go.BigFrame
def GotOut (w : World) (x : V) (b : Bool) (e : Ending) (w' : World) : Prop := e = .returned (.tuple #[x.a, .bool b]) ∧ Below w.heap.size w w'
theorem flat_get {ks : List (List V)} {k j i : Nat} (hk : k < ks.length) (h : j + flen (ks.take k) = i) (hj : j < ks[k].length) : ks.flatten[i]? = ks[k][j]? := by
  subst h
  rw [flat_parts hk, List.getElem?_append_right (by rw [flen_flat]; omega), flen_flat, Nat.add_sub_cancel, List.getElem?_append_left hj]
set_option maxHeartbeats 2000000 in
theorem get_bad (i : Int) (vs : List V) (p : Option Addr) (S : Nat → Prop) (w : World) (h : IsRope w S vs p) (hi : inB i vs.length = false) :
    Calls Tryz.prog 102 #[.agg #[.pointer p], .int .i64 i] w (GotOut w V.z false) := by
  have H := Lib.hid h
  clear h
  go_enter Tryz.func102, Tryz.ntmps102
  go_wp2_with fail
  refine calls_at fun W hW => ?_
  obtain ⟨hB, hz, -, HO⟩ := boxes2 (t2 := 42) (c2 := V.z.l.toArray) hW
  refine (has_any i vs p S _ (H.out.keeps (.of_below hB))).mono ?_
  rintro e w1 ⟨rfl, hb1⟩
  rw [hi]
  have H1 := Lib.hid (HO.below hb1 HO.lt)
  have HB := Lib.hid (hB.trans (hb1.mono hB.size))
  have hz1 := hb1.size
  have hol := H1.out.lt
  clear hW HO hb1 hB hi
  go_wp2_with (refine wpList_stV rfl rfl rfl V.z (H1.out.alloc _) rfl ?_; intro w2 HR2 ho2 hB2)
  exact ret_ct (p := 4) (u := 5) rfl rfl rfl HR2.out (by kernel_rfl) rfl ⟨rfl, hB2 _ _ (HB.out.alloc HB.out.size _) (by omega)⟩
set_option maxRecDepth 100000 in
set_option maxHeartbeats 4000000 in
theorem get_ok (i : Nat) (x : V) (vs : List V) (p : Option Addr) (S : Nat → Prop) (w : World) (h : IsRope w S vs p) (hx : vs[i]? = some x) (hn : vs.length ≤ 65536) :
    Calls Tryz.prog 102 #[.agg #[.pointer p], .int .i64 i] w (GotOut w x true) := by
  have hi := (List.getElem?_eq_some_iff.1 hx).1
  have hin : inB i vs.length = true := by simp [inB, hi]
  have H := Lib.hid h
  have HX := Lib.hid hx
  obtain ⟨d, hd⟩ : ∃ d, IsR w S d vs p := h.resolve_left (by rintro ⟨rfl, _⟩; simp at hi)
  have HD := Lib.hid hd
  have hds := hd.shallow hn
  clear h hx hd
  go_enter Tryz.func102, Tryz.ntmps102
  go_wp2_with fail
  refine calls_at fun W hW => ?_
  obtain ⟨hB, hz, HP, HO⟩ := boxes2 (t2 := 42) (c2 := V.z.l.toArray) hW
  refine (has_any i vs p S _ (H.out.keeps (.of_below hB))).mono ?_
  rintro e w1 ⟨rfl, hb1⟩
  rw [hin]
  have H1 := Lib.hid (HO.below hb1 HO.lt)
  have hol := H1.out.lt
  have cp := (HP.below hb1 HP.lt).cell 0
  simp only [List.getElem?_toArray, List.getElem?_cons_zero] at cp
  have HB := Lib.hid (hB.trans (hb1.mono hB.size))
  have HD1 := Lib.hid (HD.out.keeps (.of_below HB.out))
  clear hW HO hb1 hB hin HP HD H
  go_wp2_with fail
  go_loopg [1, 7] d (fun g t1 t7 wx => w1 = wx ∧ ∃ (j : Nat) (us : List V) (q : Option Addr), t1 = .int .i64 j ∧ t7 = .pointer q ∧ Hid (IsR w1 S g us q) ∧ j < us.length ∧ us.length ≤ 65536 ∧ g ≤ 17 ∧ Hid (us[j]? = some x))
  case atStart => exact ⟨rfl, i, vs, p, rfl, rfl, HD1, hi, hn, hds, HX⟩
  case round =>
    obtain ⟨rfl, j, us, q, rfl, rfl, hQ, hj, hus, hg17, hX⟩ := hrel
    match gk, hQ, hg17 with
    | 0, hQ, _ => exact hQ.out.elim
    | 1, hQ, _ =>
      obtain ⟨b, A, c, rfl, -, hb, n1, m1, k1, r1⟩ := hQ.out.leaf
      obtain ⟨ad, rfl, hc⟩ := flat_cells r1 hX.out
      have f1 := hb.cell 1
      have f3 := hb.cell 3
      have HC := Lib.hid hc
      have h0 : (0 : Int) ≤ (j : Int) := by omega
      have h1 : (j : Int) < (us.length : Int) := by omega
      have HF := Lib.hid H1.out
      clear hb r1 hc hQ
      go_wp2_with (first | (refine wpList_ldl rfl (o := ⟨some 60, _, _, _, _, _⟩) rfl rfl x.l isV HC.out ?_) | (refine wpList_stV rfl rfl rfl x HF.out rfl ?_; intro w2 HR2 ho2 hB2))
      exact ret_ct (p := 4) (u := 5) rfl rfl rfl HR2.out (by kernel_rfl) rfl ⟨rfl, hB2 _ _ HB.out (by omega)⟩
    | d + 2, hQ, hg17 =>
      obtain ⟨b, A, c, ks, ps, rfl, -, hx, hb, n1, m1, k1, r1, K1⟩ := hQ.out.inner
      have hfl : flen ks = us.length := by rw [flen_flat, hx]
      have f1 := hb.cell 1
      have f2 := hb.cell 2
      simp only [List.getElem?_toArray, List.getElem?_cons_succ, List.getElem?_cons_zero] at f1 f2
      have hd1 : (1 : Int) < ((d + 2 : Nat) : Int) := by omega
      have R1 := Lib.hid r1
      have HK := Lib.hid K1
      have HU := Lib.hid hx
      have HF := Lib.hid hfl
      clear hb r1 K1 hx hfl hQ
      generalize ((d + 2 : Nat) : Int) = D at *
      go_wp2_with fail
      go_loop [1, 8] (fun t1 t8 => ∃ k : Nat, k < ks.length ∧ t8 = .int .i64 k ∧ flen (ks.take k) ≤ j ∧ t1 = .int .i64 ((j - flen (ks.take k) : Nat) : Int)) (fun _ t8 => (ks.length - intOf t8).toNat)
      case atStart => exact ⟨0, by omega, rfl, by simp [flen], by simp [flen]⟩
      case round =>
        obtain ⟨k, hk, rfl, hle, rfl⟩ := hrel
        obtain ⟨q, hq, ik⟩ := HK.out.at_ hk
        have HIK := Lib.hid ik
        obtain ⟨b3, u3, x3, rfl, -, hb3⟩ := ik.head
        obtain ⟨ad, rfl, cl⟩ := R1.out.ptr hq
        have f3 := hb3.cell 0
        simp only [List.getElem?_toArray, List.getElem?_cons_zero] at f3
        have HS := Lib.hid (flen_succ ks k hk)
        have HL := Lib.hid (flen_take ks (k + 1))
        have hk3 : (k : Int) < (ks.length : Int) := by omega
        obtain ⟨i2, hi2⟩ : ∃ i2, i2 = j - flen (ks.take k) := ⟨_, rfl⟩
        have HJ : Hid (i2 + flen (ks.take k) = j) := Lib.hid (by omega)
        have hjb : (i2 : Int) ≤ 65536 := by omega
        rw [← hi2]
        clear hi2 hb3 ik hq
        by_cases hge : ks[k].length ≤ i2
        · have hge' : (ks[k].length : Int) ≤ (i2 : Int) := by omega
          have hlt : k + 1 < ks.length := by
            have h1 := HS.out; have h2 := HJ.out; have h3 := HF.out
            rcases Nat.lt_or_ge (k + 1) ks.length with h | h
            · exact h
            · rw [List.take_of_length_le h] at h1; omega
          go_wp2
          go_round
          case rel => exact ⟨k + 1, hlt, by go_num, by have := HS.out; have := HJ.out; omega, by have := HS.out; have := HJ.out; rw [show j - flen (ks.take (k + 1)) = i2 - ks[k].length by omega]; go_num⟩
          case measure => simp [intOf]; omega
        · have hge' : ¬ (ks[k].length : Int) ≤ (i2 : Int) := by omega
          have hkl : ks[k].length ≤ 65536 := by have := HS.out; have := HL.out; have := HF.out; omega
          have hXk : Hid (ks[k][i2]? = some x) := Lib.hid (by rw [← flat_get hk HJ.out (by omega), ← HU.out]; exact hX.out)
          have hil : i2 < ks[k].length := by omega
          generalize ks[k] = kk at *
          go_wp2_with fail
          go_roundg (d + 1)
          case measure => omega
          case rel => exact ⟨rfl, i2, kk, _, rfl, rfl, HIK, hil, hkl, by omega, hXk⟩
end Go.Proofs.YtfcegalckjeafaaGreatDoor
