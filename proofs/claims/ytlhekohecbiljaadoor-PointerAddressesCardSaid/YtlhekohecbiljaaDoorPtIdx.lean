/-
  Index, of the program and of the document: the same answer.
-/
import Derived.Test.YtlhekohecbiljaaDoorPtNum2
import Derived.Test.YtlhekohecbiljaaDoorPtDig
namespace Go.Proofs.YtlhekohecbiljaaDoor
open Go.RowKit Go.BigFrame

/-- The number that a token is, or that it is none. -/
def idxL (l : List UInt8) : Int × Bool := if digitsL l = true ∧ (parseL l).2 = 0 then ((parseL l).1, true) else (0, false)
theorem idx_cases (l : List UInt8) : (digitsL l = false ∧ idxL l = (0, false)) ∨ (digitsL l = true ∧ (parseL l).2 = 0 ∧ idxL l = ((parseL l).1, true)) ∨ (digitsL l = true ∧ ((parseL l).2 != 0) = true ∧ idxL l = (0, false)) := by
  cases hd : digitsL l with
  | false => exact .inl ⟨rfl, by unfold idxL; rw [hd]; simp⟩
  | true =>
    by_cases h0 : (parseL l).2 = 0
    · exact .inr (.inl ⟨rfl, h0, by unfold idxL; rw [if_pos ⟨hd, h0⟩]⟩)
    · exact .inr (.inr ⟨rfl, by simpa using h0, by unfold idxL; rw [if_neg (fun h => h0 h.2)]⟩)

set_option maxHeartbeats 1000000 in
theorem index_any (s : ByteArray) (w : World) (hs : s.size ≤ 9223372036854775807) :
    Calls Tryd.prog 10 #[.string s] w fun e w' => e = .returned (.tuple #[.int .i64 (idxL (bytes s)).1, .bool (idxL (bytes s)).2]) ∧ Below w.heap.size w w' := by
  have HD := Lib.hid (digits_any s w hs)
  have HP := Lib.hid (fun w => parse_any s w hs)
  rcases idx_cases (bytes s) with ⟨hd, hI⟩ | ⟨hd, h0, hI⟩ | ⟨hd, h0, hI⟩
  all_goals
    rw [hI]
    rw [hd] at HD
    clear hI hd
  · go_enter Tryd.func10, Tryd.ntmps10
    go_wp2_with fail
    refine HD.out.mono ?_
    rintro e w1 ⟨rfl, hb⟩
    go_wp2
    go_ret2
    exact ⟨rfl, hb⟩
  all_goals
    try rw [h0] at HP
    go_enter Tryd.func10, Tryd.ntmps10
    go_wp2_with fail
    refine HD.out.mono ?_
    rintro e w1 ⟨rfl, hb⟩
    go_wp2_with fail
    refine (HP.out w1).mono ?_
    rintro e w2 ⟨hw, rfl⟩
    have hw' := hw.symm
    subst hw'
    go_wp2
    go_ret2
    exact ⟨rfl, hb⟩

set_option maxHeartbeats 1000000 in
theorem refIndex_any (s : ByteArray) (w : World) (hs : s.size ≤ 9223372036854775807) :
    Calls Tryd.prog 11 #[.string s] w fun e w' => e = .returned (.tuple #[.int .i64 (idxL (bytes s)).1, .bool (idxL (bytes s)).2]) ∧ w' = w := by
  have HD := Lib.hid (fun w => refDigits_any s w hs)
  have HP := Lib.hid (fun w => refParse_any s w hs)
  rcases idx_cases (bytes s) with ⟨hd, hI⟩ | ⟨hd, h0, hI⟩ | ⟨hd, h0, hI⟩
  all_goals
    rw [hI]
    rw [hd] at HD
    clear hI hd
    try rw [h0] at HP
    go_enter Tryd.func11, Tryd.ntmps11
    go_wp2_with fail
    refine (HP.out w).mono ?_
    rintro e w2 ⟨hw, rfl⟩
    have hw' := hw.symm
    subst hw'
    go_wp2_with fail
    refine (HD.out _).mono ?_
    rintro e w2 ⟨rfl, hw⟩
    have hw' := hw.symm
    subst hw'
    go_wp2
    go_ret2
    exact ⟨rfl, rfl⟩
end Go.Proofs.YtlhekohecbiljaaDoor
