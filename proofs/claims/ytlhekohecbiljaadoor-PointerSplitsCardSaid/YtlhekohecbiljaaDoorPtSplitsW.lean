/-
  THE WALK of PointerSplits.
-/
import Derived.Test.YtlhekohecbiljaaDoorPtSplitR
import Derived.Test.YtlhekohecbiljaaDoorPtBack
namespace Go.Proofs.YtlhekohecbiljaaDoor
open Go.RowKit Go.BigFrame

theorem shortL_parts {ts : List (List UInt8)} (h : shortL ts = true) : ts.length ≤ 80 ∧ ∀ t ∈ ts, t.length ≤ 300 := by
  rw [shortL, Bool.and_eq_true, List.all_eq_true] at h
  exact ⟨by simpa using h.2, fun t ht => by simpa using h.1 t ht⟩

set_option maxRecDepth 100000 in
set_option maxHeartbeats 4000000 in
theorem pointerSplits_any (s : ByteArray) (A B : Option Addr) (c d : Nat) (ts us : List (List UInt8)) (w : World) (hE : ErrT w) (hg : 0 < w.heap.size) (hA : Strs w A ts) (hB : Strs w B us)
    (hn : ts.length ≤ 9223372036854775807) (hm : us.length ≤ 9223372036854775807) (hd : us.length ≤ d) :
    Calls Tryd.prog 5 #[.string s, .slice A ts.length c, .slice B us.length d] w (TrueOut w) := by
  have HE := Lib.hid hE
  have HA := Lib.hid hA
  have HB := Lib.hid hB
  have HS := Lib.hid (fun w h => short_any A c ts w h hn)
  have HU := Lib.hid (fun w h => short_any B d us w h hm)
  have HD := Lib.hid hd
  clear hE hA hB hd
  have hcase : (2000 < (s.size : Int) ∨ (¬ 2000 < (s.size : Int) ∧ shortL ts = false) ∨ (¬ 2000 < (s.size : Int) ∧ shortL ts = true ∧ shortL us = false)) ∨ (¬ 2000 < (s.size : Int) ∧ shortL ts = true ∧ shortL us = true) := by
    by_cases h : 2000 < (s.size : Int)
    · exact .inl (.inl h)
    · cases h1 : shortL ts with
      | false => exact .inl (.inr (.inl ⟨h, rfl⟩))
      | true =>
        cases h2 : shortL us with
        | false => exact .inl (.inr (.inr ⟨h, rfl, rfl⟩))
        | true => exact .inr ⟨h, rfl, rfl⟩
  rcases hcase with hcase | ⟨hsz, hsh, hsu⟩
  · rcases hcase with hsz | ⟨hsz, hsh⟩ | ⟨hsz, hsh, hsu⟩
    · go_enter Tryd.func5, Tryd.ntmps5
      go_wp2_with fail
      refine (live_any w HE.out hg).mono ?_
      rintro e w1 ⟨rfl, hb1⟩
      have hz1 := hb1.size
      go_wp2_with fail
      refine (live_any w1 (HE.out.below hb1 hg) (by omega)).mono ?_
      rintro e w2 ⟨rfl, hb2⟩
      go_wp2
      go_ret
      exact ⟨rfl, hb1.trans (hb2.mono hz1)⟩
    · rw [hsh] at HS
      clear hsh
      go_enter Tryd.func5, Tryd.ntmps5
      go_wp2_with fail
      refine (live_any w HE.out hg).mono ?_
      rintro e w1 ⟨rfl, hb1⟩
      have hz1 := hb1.size
      have HA1 := Lib.hid (HA.out.below hb1)
      go_wp2_with fail
      refine (HS.out w1 HA1.out).mono ?_
      rintro e w2 ⟨rfl, hw2⟩
      have hw2' := hw2.symm
      subst hw2'
      go_wp2_with fail
      refine (live_any w1 (HE.out.below hb1 hg) (by omega)).mono ?_
      rintro e w2 ⟨rfl, hb2⟩
      go_wp2
      go_ret
      exact ⟨rfl, hb1.trans (hb2.mono hz1)⟩
    · rw [hsh] at HS
      rw [hsu] at HU
      clear hsh hsu
      go_enter Tryd.func5, Tryd.ntmps5
      go_wp2_with fail
      refine (live_any w HE.out hg).mono ?_
      rintro e w1 ⟨rfl, hb1⟩
      have hz1 := hb1.size
      have HA1 := Lib.hid (HA.out.below hb1)
      have HB1 := Lib.hid (HB.out.below hb1)
      go_wp2_with fail
      refine (HS.out w1 HA1.out).mono ?_
      rintro e w2 ⟨rfl, hw2⟩
      have hw2' := hw2.symm
      subst hw2'
      go_wp2_with fail
      refine (HU.out w1 HB1.out).mono ?_
      rintro e w2 ⟨rfl, hw2⟩
      have hw2' := hw2.symm
      subst hw2'
      go_wp2_with fail
      refine (live_any w1 (HE.out.below hb1 hg) (by omega)).mono ?_
      rintro e w2 ⟨rfl, hb2⟩
      go_wp2
      go_ret
      exact ⟨rfl, hb1.trans (hb2.mono hz1)⟩
  · have hts := Lib.hid (shortL_parts hsh)
    rw [hsh] at HS
    rw [hsu] at HU
    clear hsh hsu
    go_enter Tryd.func5, Tryd.ntmps5
    go_wp2_with fail
    refine (live_any w HE.out hg).mono ?_
    rintro e w1 ⟨rfl, hb1⟩
    have HC1 := Lib.hid hb1
    have hz1 := hb1.size
    have HA1 := Lib.hid (HA.out.below hb1)
    have HB1 := Lib.hid (HB.out.below hb1)
    have HE1 := Lib.hid (HE.out.below hb1 hg)
    clear hb1
    go_wp2_with fail
    refine (HS.out w1 HA1.out).mono ?_
    rintro e w2 ⟨rfl, hw2⟩
    have hw2' := hw2.symm
    subst hw2'
    go_wp2_with fail
    refine (HU.out w1 HB1.out).mono ?_
    rintro e w2 ⟨rfl, hw2⟩
    have hw2' := hw2.symm
    subst hw2'
    go_wp2_with fail
    refine (split_any s w1 (by omega) HE1.out (by omega)).mono ?_
    rintro e w2 ⟨hb2, h2⟩
    have HA2 := Lib.hid (HA1.out.below hb2)
    have HB2 := Lib.hid (HB1.out.below hb2)
    have HC2 := Lib.hid (HC1.out.trans (hb2.mono hz1))
    have hz2 := HC2.out.size
    obtain ⟨X, xs, xc, v, p, cd, rfl, hX, hv, hR, hl⟩ : ∃ (X : Option Addr) (xs : List (List UInt8)) (xc : Nat) (v : Value) (p cd : Int), e = .returned (.tuple #[.slice X xs.length xc, v]) ∧ Strs w2 X xs ∧ ((v = .nilIface ∧ cd = 0) ∨ ErrAt w2 v p cd) ∧
        (∀ (wa : World) (e' : Ending) (w' : World), RSplitOut (splitL (bytes s)) wa e' w' → Below wa.heap.size wa w' ∧ ∃ Y yc, e' = .returned (.tuple #[.slice Y xs.length yc, .int .i64 p, .int .i64 cd]) ∧ Strs w' Y xs) ∧ Hid (xs.length ≤ 9223372036854775807) := by
      cases hr : splitL (bytes s) with
      | inl ts =>
        rw [hr] at h2
        obtain ⟨X, xc, e1, h3⟩ := h2
        refine ⟨X, ts, xc, .nilIface, 0, 0, e1, h3, .inl ⟨rfl, rfl⟩, ?_, Lib.hid (by have h7 := (join_ge ts).1; rw [join_split _ _ hr, bytes_len] at h7; omega)⟩
        rintro wa e' w' ⟨h4, Y, yc, e5, h6⟩
        exact ⟨h4, Y, yc, e5, h6⟩
      | inr n =>
        rw [hr] at h2
        obtain ⟨v, e1, h3⟩ := h2
        refine ⟨none, [], 0, v, n, 2, e1, Reads.none_, .inr h3, ?_, Lib.hid (by simp)⟩
        rintro wa e' w' ⟨h4, e5⟩
        exact ⟨h4, none, 0, e5, Reads.none_⟩
    have HX := Lib.hid hX
    have HV := Lib.hid hv
    have HR := Lib.hid hR
    clear hX hv hR h2 hb2
    go_wp2_with fail
    refine (refSplit_any s w2 (by omega)).mono ?_
    intro e w3 h3
    obtain ⟨hb3, Y, yc, rfl, hY⟩ := HR.out w2 e w3 h3
    have HY := Lib.hid hY
    have HX3 := Lib.hid (HX.out.below hb3)
    have HA3 := Lib.hid (HA2.out.below hb3)
    have HB3 := Lib.hid (HB2.out.below hb3)
    have HV3 : Hid ((v = .nilIface ∧ cd = 0) ∨ ErrAt w3 v p cd) := Lib.hid (HV.out.imp id (fun h => h.below hb3))
    have HC3 := Lib.hid (HC2.out.trans (hb3.mono hz2))
    have hz3 := HC3.out.size
    clear h3 hb3 hY HR
    have hxn := hl
    clear hl
    go_wp2_with fail
    refine (words_any X Y xc yc xs xs w3 HX3.out HY.out hxn.out).mono ?_
    rintro e w4 ⟨rfl, hb4⟩
    rw [decide_eq_true rfl]
    have HA4 := Lib.hid (HA3.out.below hb4)
    have HB4 := Lib.hid (HB3.out.below hb4)
    have HV4 : Hid ((v = .nilIface ∧ cd = 0) ∨ ErrAt w4 v p cd) := Lib.hid (HV3.out.imp id (fun h => h.below hb4))
    have HC4 := Lib.hid (HC3.out.trans (hb4.mono hz3))
    have hz4 := HC4.out.size
    have HE4 := Lib.hid (HE.out.below HC4.out hg)
    clear hb4
    have hat : Calls Tryd.prog 14 #[v, .int .i64 p, .int .i64 cd] w4 (TrueOut w4) := by
      rcases HV4.out with ⟨rfl, rfl⟩ | h
      · exact at_nil p w4
      · exact at_err v p cd w4 h HE4.out (by omega)
    have HAT := Lib.hid hat
    clear hat
    go_wp2_with fail
    refine HAT.out.mono ?_
    rintro e w5 ⟨rfl, hb5⟩
    have HA5 := Lib.hid (HA4.out.below hb5)
    have HB5 := Lib.hid (HB4.out.below hb5)
    have HC5 := Lib.hid (HC4.out.trans (hb5.mono hz4))
    have hz5 := HC5.out.size
    clear hb5
    go_wp2_with fail
    refine (join_any A c ts w5 HA5.out (by have := hts.out.1; omega) (fun t ht => by have := hts.out.2 t ht; omega)).mono ?_
    rintro e w6 ⟨rfl, hb6⟩
    have HA6 := Lib.hid (HA5.out.below hb6)
    have HB6 := Lib.hid (HB5.out.below hb6)
    have HC6 := Lib.hid (HC5.out.trans (hb6.mono hz5))
    have hz6 := HC6.out.size
    clear hb6
    go_wp2_with fail
    refine (refJoin_any A c ts w6 HA6.out (by have := hts.out.1; omega) (fun t ht => by have := hts.out.2 t ht; omega)).mono ?_
    rintro e w7 ⟨rfl, hw7⟩
    have hw7' := hw7.symm
    subst hw7'
    go_wp2_with fail
    refine (begins_any A B c d ts us w6 HA6.out HB6.out hn HD.out).mono ?_
    rintro e w8 ⟨rfl, hb8⟩
    have HA8 := Lib.hid (HA6.out.below hb8)
    have HB8 := Lib.hid (HB6.out.below hb8)
    have HC8 := Lib.hid (HC6.out.trans (hb8.mono hz6))
    have hz8 := HC8.out.size
    clear hb8
    go_wp2_with fail
    refine (refBegins_any A B c d ts us w8 HA8.out HB8.out hn).mono ?_
    rintro e w9 ⟨rfl, hb9⟩
    have HC9 := Lib.hid (HC8.out.trans (hb9.mono hz8))
    clear hb9
    go_wp2
    go_ret
    exact ⟨by simp, HC9.out⟩
end Go.Proofs.YtlhekohecbiljaaDoor
