/-
  THE WALK of PointerEscapes.
-/
import Derived.Test.YtlhekohecbiljaaDoorPtLive
namespace Go.Proofs.YtlhekohecbiljaaDoor
open Go.RowKit Go.BigFrame

set_option maxRecDepth 100000 in
set_option maxHeartbeats 2000000 in
theorem pointerEscapes_any (s : ByteArray) (w : World) (hE : ErrT w) (hg : 0 < w.heap.size) : Calls Tryd.prog 3 #[.string s] w (TrueOut w) := by
  have HE := Lib.hid hE
  clear hE
  by_cases hn : 2000 < (s.size : Int)
  · go_enter Tryd.func3, Tryd.ntmps3
    go_wp2_with fail
    refine (live_any w HE.out hg).mono ?_
    rintro e w1 ⟨rfl, hb1⟩
    have hz1 := hb1.size
    go_wp2_with fail
    refine (live_any w1 (HE.out.below hb1 hg) (by omega)).mono ?_
    rintro e w2 ⟨rfl, hb2⟩
    go_wp2
    go_ret
    exact ⟨rfl, hb1.trans (hb2.mono hz1)⟩
  · go_enter Tryd.func3, Tryd.ntmps3
    go_wp2_with fail
    refine (live_any w HE.out hg).mono ?_
    rintro e w1 ⟨rfl, hb1⟩
    have HB1 := Lib.hid hb1
    have hz1 := hb1.size
    clear hb1
    go_wp2_with fail
    refine (unescape_any s w1 (by omega)).mono ?_
    rintro e w2 ⟨hb2, h2⟩
    have HB2 := Lib.hid (HB1.out.trans (hb2.mono hz1))
    have hz2 := HB2.out.size
    -- the two answers
    obtain ⟨a, v, p, cd, rfl, hR, hv⟩ : ∃ (a : List UInt8) (v : Value) (p cd : Int), e = .returned (.tuple #[.string ⟨a.toArray⟩, v]) ∧ unR (unL (bytes s) 0) = .tuple #[.string ⟨a.toArray⟩, .int .i64 p, .int .i64 cd] ∧ ((v = .nilIface ∧ cd = 0) ∨ ErrAt w2 v p cd) := by
      cases hr : unL (bytes s) 0 with
      | inl r => rw [hr] at h2; exact ⟨r, .nilIface, 0, 0, h2, rfl, .inl ⟨rfl, rfl⟩⟩
      | inr n => rw [hr] at h2; obtain ⟨v, e1, hv⟩ := h2; exact ⟨[], v, n, 2, e1, rfl, .inr hv⟩
    have HR := Lib.hid hR
    have HV := Lib.hid hv
    clear hR hv h2 hb2
    go_wp2_with fail
    refine (refUnescape_any s w2 (by omega)).mono ?_
    rintro e w3 ⟨rfl, hw3⟩
    have hw3' := hw3.symm
    subst hw3'
    rw [HR.out]
    go_wp2_with fail
    refine (index_any s w2 (by omega)).mono ?_
    rintro e w4 ⟨rfl, hb4⟩
    have HB4 := Lib.hid (HB2.out.trans (hb4.mono hz2))
    have hz4 := HB4.out.size
    have HV4 : Hid ((v = .nilIface ∧ cd = 0) ∨ ErrAt w4 v p cd) := Lib.hid (HV.out.imp id (fun h => h.below hb4))
    clear hb4
    go_wp2_with fail
    refine (refIndex_any s w4 (by omega)).mono ?_
    rintro e w5 ⟨rfl, hw5⟩
    have hw5' := hw5.symm
    subst hw5'
    go_wp2_with fail
    refine (escape_any s w4 (by omega)).mono ?_
    rintro e w6 ⟨rfl, hb6⟩
    have HB6 := Lib.hid (HB4.out.trans (hb6.mono hz4))
    have hz6 := HB6.out.size
    have HV6 : Hid ((v = .nilIface ∧ cd = 0) ∨ ErrAt w6 v p cd) := Lib.hid (HV4.out.imp id (fun h => h.below hb6))
    have HE6 := Lib.hid (HE.out.below HB6.out hg)
    clear hb6
    go_wp2_with fail
    refine (refEscape_any s w6 (by omega)).mono ?_
    rintro e w7 ⟨rfl, hw7⟩
    have hw7' := hw7.symm
    subst hw7'
    go_wp2_with fail
    have hat : Calls Tryd.prog 14 #[v, .int .i64 p, .int .i64 cd] w6 (TrueOut w6) := by
      rcases HV6.out with ⟨rfl, rfl⟩ | h
      · exact at_nil p w6
      · exact at_err v p cd w6 h HE6.out (by omega)
    refine hat.mono ?_
    rintro e w8 ⟨rfl, hb8⟩
    have HB8 := Lib.hid (HB6.out.trans (hb8.mono hz6))
    clear hb8 hat
    go_wp2
    go_ret
    exact ⟨by simp, HB8.out⟩
end Go.Proofs.YtlhekohecbiljaaDoor
