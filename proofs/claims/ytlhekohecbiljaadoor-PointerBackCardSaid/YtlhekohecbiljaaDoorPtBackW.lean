/-
  THE WALK of PointerBack.
-/
import Derived.Test.YtlhekohecbiljaaDoorPtBack
namespace Go.Proofs.YtlhekohecbiljaaDoor
open Go.RowKit Go.BigFrame

set_option maxRecDepth 100000 in
set_option maxHeartbeats 2000000 in
theorem pointerBack_any (A : Option Addr) (c : Nat) (ts : List (List UInt8)) (s : ByteArray) (w : World) (hE : ErrT w) (hg : 0 < w.heap.size) (hA : Strs w A ts) (hn : ts.length ≤ 9223372036854775807) :
    Calls Tryd.prog 4 #[.slice A ts.length c, .string s] w (TrueOut w) := by
  have HE := Lib.hid hE
  have HA := Lib.hid hA
  have HS := Lib.hid (fun w h => short_any A c ts w h hn)
  clear hE hA
  have hcase : (shortL ts = false ∨ (shortL ts = true ∧ 2000 < (s.size : Int))) ∨ (shortL ts = true ∧ ¬ 2000 < (s.size : Int)) := by
    cases shortL ts with
    | false => exact .inl (.inl rfl)
    | true =>
      by_cases h : 2000 < (s.size : Int)
      · exact .inl (.inr ⟨rfl, h⟩)
      · exact .inr ⟨rfl, h⟩
  rcases hcase with hcase | ⟨hsh, hsz⟩
  · rcases hcase with hsh | ⟨hsh, hsz⟩
    all_goals
      rw [hsh] at HS
      clear hsh
      go_enter Tryd.func4, Tryd.ntmps4
      go_wp2_with fail
      refine (live_any w HE.out hg).mono ?_
      rintro e w1 ⟨rfl, hb1⟩
      have hz1 := hb1.size
      have HA1 := Lib.hid (HA.out.below hb1)
      go_wp2_with fail
      refine (HS.out w1 HA1.out).mono ?_
      rintro e w2 ⟨rfl, hw2⟩
      have hw2' := hw2.symm
      subst hw2'
      go_wp2_with fail
      refine (live_any w1 (HE.out.below hb1 hg) (by omega)).mono ?_
      rintro e w2 ⟨rfl, hb2⟩
      go_wp2
      go_ret
      exact ⟨rfl, hb1.trans (hb2.mono hz1)⟩
  · have HSH := Lib.hid hsh
    rw [hsh] at HS
    clear hsh
    have hts : Hid (ts.length ≤ 80 ∧ ∀ t ∈ ts, t.length ≤ 300) := Lib.hid (by
      have := HSH.out
      rw [shortL, Bool.and_eq_true, List.all_eq_true] at this
      exact ⟨by simpa using this.2, fun t ht => by simpa using this.1 t ht⟩)
    have HJ := Lib.hid (split_join ts)
    have hjl : Hid ((⟨(joinL ts).toArray⟩ : ByteArray).size ≤ 16777216) := Lib.hid (by
      rw [size_mk]
      have h1 := joinL_len ts 300 hts.out.2
      have h2 : ts.length * (2 * 300 + 1) ≤ 80 * (2 * 300 + 1) := Nat.mul_le_mul_right _ hts.out.1
      omega)
    go_enter Tryd.func4, Tryd.ntmps4
    go_wp2_with fail
    refine (live_any w HE.out hg).mono ?_
    rintro e w1 ⟨rfl, hb1⟩
    have HB1 := Lib.hid hb1
    have hz1 := hb1.size
    have HA1 := Lib.hid (HA.out.below hb1)
    clear hb1
    go_wp2_with fail
    refine (HS.out w1 HA1.out).mono ?_
    rintro e w2 ⟨rfl, hw2⟩
    have hw2' := hw2.symm
    subst hw2'
    go_wp2_with fail
    refine (join_any A c ts w1 HA1.out (by have := hts.out.1; omega) (fun t ht => by have := hts.out.2 t ht; omega)).mono ?_
    rintro e w2 ⟨rfl, hb2⟩
    have HB2 := Lib.hid (HB1.out.trans (hb2.mono hz1))
    have hz2 := HB2.out.size
    have HA2 := Lib.hid (HA1.out.below hb2)
    have HE2 := Lib.hid (HE.out.below HB2.out hg)
    clear hb2
    go_wp2_with fail
    refine (split_any _ w2 hjl.out HE2.out (by omega)).mono ?_
    rintro e w3 ⟨hb3, h3⟩
    rw [bytes_mk, HJ.out] at h3
    obtain ⟨A', c', rfl, hA'⟩ := h3
    have HA' := Lib.hid hA'
    have HA3 := Lib.hid (HA2.out.below hb3)
    have HB3 := Lib.hid (HB2.out.trans (hb3.mono hz2))
    have hz3 := HB3.out.size
    clear hA' hb3
    go_wp2_with fail
    refine (words_any A A' c c' ts ts w3 HA3.out HA'.out hn).mono ?_
    rintro e w4 ⟨rfl, hb4⟩
    rw [decide_eq_true rfl]
    have HB4 := Lib.hid (HB3.out.trans (hb4.mono hz3))
    have hz4 := HB4.out.size
    have HE4 := Lib.hid (HE.out.below HB4.out hg)
    clear hb4
    go_wp2_with fail
    refine (split_any s w4 (by omega) HE4.out (by omega)).mono ?_
    rintro e w5 ⟨hb5, h5⟩
    have HB5 := Lib.hid (HB4.out.trans (hb5.mono hz4))
    have hz5 := HB5.out.size
    clear hb5
    cases hr : splitL (bytes s) with
    | inr n =>
      rw [hr] at h5
      obtain ⟨v, rfl, hc, b, rfl, -⟩ := h5
      clear hr
      go_wp2
      go_ret
      exact ⟨rfl, HB5.out⟩
    | inl us =>
      rw [hr] at h5
      obtain ⟨A5, c5, rfl, hA5⟩ := h5
      have HA5 := Lib.hid hA5
      have HP := Lib.hid (join_split _ _ hr)
      have hge := Lib.hid (join_ge us)
      have hbl := Lib.hid (bytes_len s)
      clear hA5 hr
      go_wp2_with fail
      refine (join_any A5 c5 us w5 HA5.out (by have := hge.out.1; rw [HP.out, hbl.out] at this; omega) (fun t ht => by have := hge.out.2 t ht; rw [HP.out, hbl.out] at this; omega)).mono ?_
      rintro e w6 ⟨rfl, hb6⟩
      have HB6 := Lib.hid (HB5.out.trans (hb6.mono hz5))
      clear hb6
      rw [HP.out, show (⟨(bytes s).toArray⟩ : ByteArray) = s from Lib.mk_data s]
      go_wp2
      go_ret
      exact ⟨by simp, HB6.out⟩
end Go.Proofs.YtlhekohecbiljaaDoor
