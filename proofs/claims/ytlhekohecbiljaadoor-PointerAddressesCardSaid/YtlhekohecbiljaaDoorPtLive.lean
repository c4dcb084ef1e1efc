/-
  live: the chapter's examples.
-/
import Derived.Test.YtlhekohecbiljaaDoorPtSplit
namespace Go.Proofs.YtlhekohecbiljaaDoor
open Go.RowKit Go.BigFrame

/-- What the laws and live hand back. -/
def TrueOut (w : World) (e : Ending) (w' : World) : Prop := e = .returned (.bool true) ∧ Below w.heap.size w w'
theorem ex_split : splitL (bytes ⟨#[47, 97, 126, 49, 98, 47, 48, 47]⟩) = .inl [[97, 47, 98], [48], []] := by decide +kernel
theorem ex_un : unL (bytes ⟨#[126, 50]⟩) 0 = .inr 1 := by decide +kernel
theorem ex_idx : idxL (bytes ⟨#[49, 48]⟩) = (10, true) := by decide +kernel
theorem ex_join : joinL [[97, 47, 98], [48], []] = [47, 97, 126, 49, 98, 47, 48, 47] := by decide +kernel

set_option maxRecDepth 100000 in
set_option maxHeartbeats 2000000 in
theorem live_any (w : World) (hE : ErrT w) (hg : 0 < w.heap.size) : Calls Tryd.prog 7 #[] w (TrueOut w) := by
  have HE := Lib.hid hE
  clear hE
  go_enter Tryd.func7, Tryd.ntmps7
  go_wp2_with fail
  refine (split_any _ w (by decide) HE.out hg).mono ?_
  rintro e w1 ⟨hb1, h1⟩
  rw [ex_split] at h1
  obtain ⟨A, c, rfl, hA⟩ := h1
  have HA := Lib.hid hA
  have HB1 := Lib.hid hb1
  have hz1 := hb1.size
  have HE1 := Lib.hid (HE.out.below hb1 hg)
  clear hA hb1
  go_wp2_with fail
  refine (unescape_any _ w1 (by decide)).mono ?_
  rintro e w2 ⟨hb2, h2⟩
  rw [ex_un] at h2
  obtain ⟨v, rfl, hv⟩ := h2
  have HV := Lib.hid hv
  have HA2 := Lib.hid (HA.out.below hb2)
  have HB2 := Lib.hid (HB1.out.trans (hb2.mono hz1))
  have hz2 := HB2.out.size
  clear hv hb2
  go_wp2_with fail
  refine (index_any _ w2 (by decide)).mono ?_
  rintro e w3 ⟨rfl, hb3⟩
  rw [ex_idx]
  have HV3 := Lib.hid (HV.out.below hb3)
  have HA3 := Lib.hid (HA2.out.below hb3)
  have HB3 := Lib.hid (HB2.out.trans (hb3.mono hz2))
  have hz3 := HB3.out.size
  clear hb3
  go_wp2_with fail
  have hb4 : Below w3.heap.size w3 (w3.alloc (.cells #[.string ⟨#[97, 47, 98]⟩, .string ⟨#[48]⟩, .string ⟨#[]⟩] 9)) := (Below.refl _ _).alloc (Nat.le_refl _) _
  have HN : Hid (Strs (w3.alloc (.cells #[.string ⟨#[97, 47, 98]⟩, .string ⟨#[48]⟩, .string ⟨#[]⟩] 9)) (some ⟨w3.heap.size, 0, none⟩) [[97, 47, 98], [48], []]) := Lib.hid ((reads_new w3 9 [.string ⟨#[97, 47, 98]⟩, .string ⟨#[48]⟩, .string ⟨#[]⟩]).more (fun k hk => by subst hk; simp))
  obtain ⟨p3, hp3⟩ : ∃ p3, p3 = w3.heap.size := ⟨_, rfl⟩
  have HP3 := Lib.hid hp3
  rw [← hp3] at HN ⊢
  clear hp3
  generalize w3.alloc (.cells #[.string ⟨#[97, 47, 98]⟩, .string ⟨#[48]⟩, .string ⟨#[]⟩] 9) = w4 at *
  have HA4 := Lib.hid (HA3.out.below hb4)
  have HV4 := Lib.hid (HV3.out.below hb4)
  have HB4 := Lib.hid (HB3.out.trans (hb4.mono hz3))
  have hz4 := HB4.out.size
  clear hb4
  refine (words_any A (some ⟨p3, 0, none⟩) c 3 [[97, 47, 98], [48], []] [[97, 47, 98], [48], []] w4 HA4.out HN.out (by simp)).mono ?_
  rintro e w5 ⟨rfl, hb5⟩
  rw [decide_eq_true rfl]
  have HA5 := Lib.hid (HA4.out.below hb5)
  have HV5 := Lib.hid (HV4.out.below hb5)
  have HB5 := Lib.hid (HB4.out.trans (hb5.mono hz4))
  have hz5 := HB5.out.size
  have HE5 := Lib.hid (HE.out.below HB5.out hg)
  clear hb5
  go_wp2_with fail
  refine (at_err v 1 2 w5 HV5.out HE5.out (by omega)).mono ?_
  rintro e w6 ⟨rfl, hb6⟩
  have HA6 := Lib.hid (HA5.out.below hb6)
  have HB6 := Lib.hid (HB5.out.trans (hb6.mono hz5))
  have hz6 := HB6.out.size
  clear hb6
  go_wp2_with fail
  refine (join_any A c [[97, 47, 98], [48], []] w6 HA6.out (by simp) (by simp)).mono ?_
  rintro e w7 ⟨rfl, hb7⟩
  rw [ex_join]
  have HB7 := Lib.hid (HB6.out.trans (hb7.mono hz6))
  clear hb7
  go_wp2
  go_ret
  exact ⟨rfl, HB7.out⟩
end Go.Proofs.YtlhekohecbiljaaDoor
