/-
  Of, of the document; THE WALK of PointerAddresses.
-/
import Derived.Test.YtlhekohecbiljaaDoorPtSteps
namespace Go.Proofs.YtlhekohecbiljaaDoor
open Go.RowKit Go.BigFrame

set_option maxRecDepth 100000 in
set_option maxHeartbeats 4000000 in
theorem refOf_any (A : Option Addr) (c : Nat) (l : List St) (w : World) (h : StepsIn w A l) (hn : l.length ≤ 70) (hs : ∀ s ∈ l, s.T.length ≤ 3000 ∧ -9223372036854775808 ≤ s.I ∧ s.I ≤ 9223372036854775807) :
    Calls Tryd.prog 25 #[.slice A l.length c] w fun e w' => e = .returned (ofR (offL l 0)) ∧ Below w.heap.size w w' := by
  have H := Lib.hid h
  have HT := Lib.hid hs
  clear h hs
  obtain ⟨R, hR⟩ : ∃ R, R = offL l 0 := ⟨_, rfl⟩
  have HR := Lib.hid hR
  rw [← hR]
  obtain ⟨i0, hi, hz0, hz1, hz2⟩ := info_parts info_str
  have HI := Lib.hid hi
  have HZ0 := Lib.hid hz0
  have HZ1 := Lib.hid hz1
  have HZ2 := Lib.hid hz2
  clear hi hz0 hz1 hz2 hR
  go_enter Tryd.func25, Tryd.ntmps25
  go_wp2
  go_loopg [5, 10] l.length (fun g v i wr => ∃ (k : Nat) (acc : List (List UInt8)), k + g = l.length ∧ i = .int .i64 k ∧ Hid (wr.ownsRow w.heap.size 9 1 v acc.length (acc.map sv)) ∧ Hid (Fair acc k) ∧ Hid (Below w.heap.size w wr) ∧ Hid (withO acc (offL (l.drop k) k) = R))
  case atStart => exact ⟨0, [], by omega, rfl, World.ownsRow_nil _ _ _ _, ⟨rfl, by simp⟩, Below.refl _ _, by show withO [] (offL l 0) = R; rw [HR.out]; cases offL l 0 <;> simp [withO]⟩
  case round =>
    obtain ⟨k, acc, hkg, rfl, hOw, hF, hB, hO⟩ := hrel
    obtain ⟨B, c', rfl, hcap⟩ := own_shape hOw.out
    have hal : acc.length ≤ 70 := by have := hF.out.1; omega
    have hz0 := hB.out.size
    by_cases hlt : k < l.length
    · obtain ⟨ad, K, I, T, rfl, hs, hc0, hc1, hc2⟩ := (H.out.below hB.out).at_ hlt
      have HS := Lib.hid hs
      have ht3 := HT.out _ (List.mem_of_getElem? hs)
      have HI2 := Lib.hid ht3.2
      have ht0 : T.length ≤ 3000 := ht3.1
      clear hs ht3
      have hw1 := Lib.hid (hB.out.alloc hz0 (.cells #[.int .i64 K, .int .i64 I, .string ⟨T.toArray⟩] 57))
      have hOw1 := Lib.hid (World.ownsRow.alloc hOw.out (.cells #[.int .i64 K, .int .i64 I, .string ⟨T.toArray⟩] 57))
      by_cases h2 : K = 2
      · subst h2
        have hX : Hid (R = .inr (k, 12)) := Lib.hid (by rw [← hO.out, withO_bad acc l k _ 12 HS.out (by simp [tokOf])])
        go_wp2_with fail
        go_ret3
        refine ⟨?_, hw1.out⟩
        rw [hX.out]
        rfl
      · by_cases h1 : K = 1
        · subst h1
          have hN : Hid (withO (acc ++ [T]) (offL (l.drop (k + 1)) (k + 1)) = R) := Lib.hid (by rw [← hO.out, withO_ok acc l k _ T HS.out (by simp [tokOf])])
          have hF1 := Lib.hid (hF.out.snoc ht0)
          go_wp2_with (at_builtin; refine wpList_append_any _ rfl (.tmp 30) (.tmp 33) 35 rfl w.heap.size 9 i0 (.string ⟨#[]⟩) 1 16 Tryd.underlying35 HI.out HZ0.out HZ1.out HZ2.out rfl (by omega) _ acc.length _ rfl (World.ownsRow.alloc hOw1.out _) (fun j => j = wr.heap.size + 1) (some ⟨wr.heap.size + 1, 0, none⟩) 1 1 [.string ⟨T.toArray⟩] rfl (by simpa using reads_new (wr.alloc (.cells #[.int .i64 1, .int .i64 I, .string ⟨T.toArray⟩] 57)) 9 [.string ⟨T.toArray⟩]) (by simp [Value.oneCell']) (by simp only [maxLen]; omega) (by omega) (by simp; omega) ?_; intro v9 w9 hown9 hg9 hat9; have HO9 := Lib.hid hown9; have HB9 := Lib.hid (hB.out.trans ((((Below.refl w.heap.size wr).alloc (by omega) _).alloc (by simp; omega) _).grown hg9 (by simp; omega) (fun j e => own_base hOw.out e))); clear hown9 hg9 hat9)
          go_roundg (l.length - (k + 1))
          case measure => omega
          case rel => exact ⟨k + 1, acc ++ [T], by omega, by simp, by simpa [sv] using HO9, hF1, HB9, hN⟩
        · by_cases h0 : K = 0
          · subst h0
            by_cases hneg : I < 0
            · have hX : Hid (R = .inr (k, 4)) := Lib.hid (by rw [← hO.out, withO_bad acc l k _ 4 HS.out (by simp [tokOf, hneg])])
              go_wp2_with fail
              go_ret3
              refine ⟨?_, hw1.out⟩
              rw [hX.out]
              rfl
            · have hN : Hid (withO (acc ++ [decL I]) (offL (l.drop (k + 1)) (k + 1)) = R) := Lib.hid (by rw [← hO.out, withO_ok acc l k _ (decL I) HS.out (by simp [tokOf, hneg])])
              have hdl := Lib.hid (decL_len I HI2.out.1 HI2.out.2)
              have hF1 := Lib.hid (hF.out.snoc (t := decL I) (by have := hdl.out; omega))
              go_wp2_with fail
              refine (refDec_any I _ HI2.out.1 HI2.out.2).mono ?_
              rintro e wx ⟨rfl, hbx⟩
              have hzx := hbx.size
              have HBx := Lib.hid (hw1.out.trans (hbx.mono (by simp; omega)))
              have hOwx := Lib.hid (ownsRow_below hOw1.out hbx)
              have hwz : Hid (w.heap.size ≤ wx.heap.size) := Lib.hid HBx.out.size
              clear hbx hzx
              go_wp2_with (at_builtin; refine wpList_append_any _ rfl (.tmp 15) (.tmp 19) 35 rfl w.heap.size 9 i0 (.string ⟨#[]⟩) 1 16 Tryd.underlying35 HI.out HZ0.out HZ1.out HZ2.out rfl (by omega) _ acc.length _ rfl (World.ownsRow.alloc hOwx.out _) (fun j => j = wx.heap.size) (some ⟨wx.heap.size, 0, none⟩) 1 1 [.string ⟨(decL I).toArray⟩] rfl (reads_new wx 9 [.string ⟨(decL I).toArray⟩]) (by simp [Value.oneCell']) (by simp only [maxLen]; omega) (by omega) (by have := hwz.out; simp; omega) ?_; intro v9 w9 hown9 hg9 hat9; have HO9 := Lib.hid hown9; have HB9 := Lib.hid (HBx.out.trans (((Below.refl w.heap.size wx).alloc hwz.out _).grown hg9 (by have := hwz.out; simp; omega) (fun j e => own_base hOwx.out e))); clear hown9 hg9 hat9)
              go_roundg (l.length - (k + 1))
              case measure => omega
              case rel => exact ⟨k + 1, acc ++ [decL I], by omega, by simp, by simpa [sv] using HO9, hF1, HB9, hN⟩
          · have hX : Hid (R = .inr (k, 1)) := Lib.hid (by rw [← hO.out, withO_bad acc l k _ 1 HS.out (by simp [tokOf, h0, h1, h2])])
            go_wp2_with fail
            go_ret3
            refine ⟨?_, hw1.out⟩
            rw [hX.out]
            rfl
    · have hX : Hid (R = .inl acc) := Lib.hid (by
        rw [← hO.out, List.drop_of_length_le (by omega)]
        simp [offL, withO])
      have hA : Hid (Strs wr B acc) := Lib.hid (by
        have h1 := (Reads.of_own hOw.out).more (S' := fun k => k < wr.heap.size) (fun k hk => hk.2)
        exact h1)
      go_wp2_with fail
      refine (refJoin_any B c' acc wr hA.out (by omega) (fun t ht => by have := hF.out.2 t ht; omega)).mono ?_
      rintro e w9 ⟨rfl, hw9⟩
      have hw9' := hw9.symm
      subst hw9'
      go_wp2_with fail
      go_ret3
      refine ⟨?_, hB.out⟩
      rw [hX.out]
      rfl

theorem shortS_parts {l : List St} (h : shortS l = true) : l.length ≤ 70 ∧ ∀ s ∈ l, s.T.length ≤ 3000 := by
  rw [shortS, Bool.and_eq_true, List.all_eq_true] at h
  exact ⟨by simpa using h.2, fun t ht => by simpa using h.1 t ht⟩

set_option maxRecDepth 100000 in
set_option maxHeartbeats 4000000 in
theorem pointerAddresses_any (A : Option Addr) (c : Nat) (l : List St) (w : World) (hE : ErrT w) (hg : 0 < w.heap.size) (h : StepsIn w A l) (hn : l.length ≤ 9223372036854775807)
    (hs : ∀ s ∈ l, -9223372036854775808 ≤ s.I ∧ s.I ≤ 9223372036854775807) :
    Calls Tryd.prog 6 #[.slice A l.length c] w (TrueOut w) := by
  have HE := Lib.hid hE
  have H := Lib.hid h
  have HT := Lib.hid hs
  have HS := Lib.hid (fun w h => shortS_any A c l w h hn)
  clear hE h hs
  cases hsh : shortS l with
  | false =>
    rw [hsh] at HS
    clear hsh
    go_enter Tryd.func6, Tryd.ntmps6
    go_wp2_with fail
    refine (live_any w HE.out hg).mono ?_
    rintro e w1 ⟨rfl, hb1⟩
    have hz1 := hb1.size
    have H1 := Lib.hid (H.out.below hb1)
    go_wp2_with fail
    refine (HS.out w1 H1.out).mono ?_
    rintro e w2 ⟨rfl, hb2⟩
    have hz2 := hb2.size
    go_wp2_with fail
    refine (live_any w2 ((HE.out.below hb1 hg).below hb2 (by omega)) (by omega)).mono ?_
    rintro e w3 ⟨rfl, hb3⟩
    go_wp2
    go_ret
    exact ⟨rfl, (hb1.trans (hb2.mono hz1)).trans (hb3.mono (by omega))⟩
  | true =>
    obtain ⟨hp1, hp2⟩ := shortS_parts hsh
    have HP := Lib.hid (show ∀ s ∈ l, s.T.length ≤ 3000 ∧ -9223372036854775808 ≤ s.I ∧ s.I ≤ 9223372036854775807 from fun s hs => ⟨hp2 s hs, HT.out s hs⟩)
    rw [hsh] at HS
    clear hsh hp2
    go_enter Tryd.func6, Tryd.ntmps6
    go_wp2_with fail
    refine (live_any w HE.out hg).mono ?_
    rintro e w1 ⟨rfl, hb1⟩
    have hz1 := hb1.size
    have H1 := Lib.hid (H.out.below hb1)
    have HB1 := Lib.hid hb1
    clear hb1
    go_wp2_with fail
    refine (HS.out w1 H1.out).mono ?_
    rintro e w2 ⟨rfl, hb2⟩
    have HB2 := Lib.hid (HB1.out.trans (hb2.mono hz1))
    have hz2 := HB2.out.size
    have H2 := Lib.hid (H1.out.below hb2)
    clear hb2
    go_wp2_with fail
    refine (of_any A c l w2 H2.out hp1 HP.out).mono ?_
    rintro e w3 ⟨hb3, h3⟩
    have HB3 := Lib.hid (HB2.out.trans (hb3.mono hz2))
    have hz3 := HB3.out.size
    have H3 := Lib.hid (H2.out.below hb3)
    have HE3 := Lib.hid (HE.out.below HB3.out hg)
    clear hb3
    obtain ⟨a, v, p, cd, rfl, hR, hv⟩ : ∃ (a : List UInt8) (v : Value) (p cd : Int), e = .returned (.tuple #[.string ⟨a.toArray⟩, v]) ∧ ofR (offL l 0) = .tuple #[.string ⟨a.toArray⟩, .int .i64 p, .int .i64 cd] ∧ ((v = .nilIface ∧ cd = 0) ∨ ErrAt w3 v p cd) := by
      cases hr : offL l 0 with
      | inl ts => rw [hr] at h3; exact ⟨joinL ts, .nilIface, 0, 0, h3, rfl, .inl ⟨rfl, rfl⟩⟩
      | inr n => rw [hr] at h3; obtain ⟨v, e1, hv⟩ := h3; exact ⟨[], v, n.1, n.2, e1, rfl, .inr hv⟩
    have HV := Lib.hid hv
    have HRO := Lib.hid (refOf_any A c l w3 H3.out hp1 HP.out)
    rw [hR] at HRO
    clear hR hv h3
    go_wp2_with fail
    refine HRO.out.mono ?_
    rintro e w4 ⟨rfl, hb4⟩
    have HB4 := Lib.hid (HB3.out.trans (hb4.mono hz3))
    have hz4 := HB4.out.size
    have HV4 : Hid ((v = .nilIface ∧ cd = 0) ∨ ErrAt w4 v p cd) := Lib.hid (HV.out.imp id (fun h => h.below hb4))
    have HE4 := Lib.hid (HE.out.below HB4.out hg)
    clear hb4
    have hat : Calls Tryd.prog 14 #[v, .int .i64 p, .int .i64 cd] w4 (TrueOut w4) := by
      rcases HV4.out with ⟨rfl, rfl⟩ | h
      · exact at_nil p w4
      · exact at_err v p cd w4 h HE4.out (by omega)
    have HAT := Lib.hid hat
    clear hat
    go_wp2_with fail
    refine HAT.out.mono ?_
    rintro e w5 ⟨rfl, hb5⟩
    have HB5 := Lib.hid (HB4.out.trans (hb5.mono hz4))
    clear hb5
    go_wp2
    go_ret
    exact ⟨by simp, HB5.out⟩
end Go.Proofs.YtlhekohecbiljaaDoor
