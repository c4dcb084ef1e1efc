/-
  TEXTS as lists of bytes: small facts. Plain Lean, but for the walk's spellings.
-/
import Derived.Test.YtlhekohecbiljaaDoorPtFault
import Derived.Lib.Strings
import Derived.Laws.IdiomStrings
import Derived.Laws.Concat
import Derived.LoopTactic
import Derived.Deep.RegionHeld3
namespace Go.Proofs.YtlhekohecbiljaaDoor
open Go.RowKit Go.BigFrame

/-- The bytes of a text. -/
abbrev bytes (s : ByteArray) : List UInt8 := s.data.toList
theorem bytes_len (s : ByteArray) : (bytes s).length = s.size := (Lib.size_eq s).symm
theorem bytes_at (s : ByteArray) (k : Nat) (h : k < s.size) : (bytes s)[k]? = some s[k] := by
  obtain ⟨⟨l⟩⟩ := s
  rw [List.getElem?_eq_getElem (by simpa [ByteArray.size] using h)]
  rfl
theorem bytes_take (s : ByteArray) (k : Nat) (h : k < s.size) : (bytes s).take (k + 1) = (bytes s).take k ++ [s[k]] := by
  rw [List.take_add_one, bytes_at s k h]; rfl
theorem bytes_drop (s : ByteArray) (k : Nat) (h : k < s.size) : (bytes s).drop k = s[k] :: (bytes s).drop (k + 1) := by
  have := bytes_at s k h
  obtain ⟨h', e⟩ := List.getElem?_eq_some_iff.1 this
  rw [List.drop_eq_getElem_cons h', e]
theorem bytes_full (s : ByteArray) : (bytes s).take s.size = bytes s := by rw [← bytes_len]; exact List.take_length

theorem bytes_head (s : ByteArray) (h : 0 < s.size) : (bytes s).head? = some s[0] := by
  have := bytes_at s 0 h
  rwa [← List.head?_eq_getElem?] at this
theorem u8_eq (b : UInt8) (n : Nat) (hn : n < 256) : ((b.toNat : Int) == (n : Int)) = (b == UInt8.ofNat n) := by
  rw [Bool.eq_iff_iff]
  simp only [beq_iff_eq]
  constructor
  · intro h
    apply UInt8.toNat_inj.1
    rw [UInt8.toNat_ofNat_of_lt' (by simpa using hn)]
    omega
  · rintro rfl
    rw [UInt8.toNat_ofNat_of_lt' (by simpa using hn)]
theorem u8_ne (b : UInt8) (n : Nat) (hn : n < 256) : ((b.toNat : Int) != (n : Int)) = (b != UInt8.ofNat n) := by
  rw [bne, bne, u8_eq b n hn]
/-- Decimal digits. -/
def isDig (b : UInt8) : Bool := 48 ≤ b.toNat && b.toNat ≤ 57
/-- A token of digits, without noughts in front. -/
def digitsL (l : List UInt8) : Bool := l.all isDig && (l == [48] || (!l.isEmpty && l.head? != some 48))

set_option maxRecDepth 100000 in
set_option maxHeartbeats 1000000 in
theorem refDigits_any (s : ByteArray) (w : World) (hs : s.size ≤ 9223372036854775807) : Calls Tryd.prog 30 #[.string s] w fun e w' => e = .returned (.bool (digitsL (bytes s))) ∧ w' = w := by
  go_enter Tryd.func30, Tryd.ntmps30
  go_wp2
  go_loop [6] (fun i => ∃ k : Nat, k ≤ s.size ∧ i = .int .i64 k ∧ Hid (((bytes s).take k).all isDig = true)) (fun i => match i with | .int _ m => s.size - m.toNat | _ => 0)
  case atStart => exact ⟨0, Nat.zero_le _, rfl, by simp [Hid]⟩
  case round =>
    obtain ⟨k, hk, rfl, hd⟩ := hrel
    by_cases hlt : k < s.size
    · have hb := Lib.hid (bytes_take s k hlt)
      have no : isDig s[k] = false → digitsL (bytes s) = false := fun h => by
        have hm : s[k] ∈ bytes s := List.mem_of_getElem? (bytes_at s k hlt)
        have : (bytes s).all isDig = false := by
          rw [Bool.eq_false_iff]
          intro ha
          rw [List.all_eq_true.1 ha _ hm] at h
          cases h
        simp [digitsL, this]
      have NO := Lib.hid no
      clear no
      by_cases h1 : 48 ≤ (s[k].toNat : Int)
      · by_cases h2 : (s[k].toNat : Int) ≤ 57
        · go_wp2
          refine ⟨⟨k + 1, by omega, by go_num, ?_⟩, by simp; omega⟩
          show ((bytes s).take (k + 1)).all isDig = true
          rw [hb.out, List.all_append, hd.out]
          simp [isDig]
          omega
        · go_wp2
          go_ret
          exact ⟨by rw [NO.out (by simp [isDig]; omega)]; rfl, rfl⟩
      · go_wp2
        go_ret
        exact ⟨by rw [NO.out (by simp [isDig]; omega)]; rfl, rfl⟩
    · obtain rfl : k = s.size := by omega
      have hd' : (bytes s).all isDig = true := by have := hd.out; rwa [bytes_full] at this
      have HD := Lib.hid hd'
      clear hd hd'
      by_cases h48 : s.toList = [48]
      · go_wp2
        go_ret
        refine ⟨?_, rfl⟩
        rw [Lib.toList_data] at h48
        simp [digitsL, h48]
        decide
      · by_cases h0 : s.toList = []
        · go_wp2
          go_ret
          refine ⟨?_, rfl⟩
          rw [Lib.toList_data] at h48 h0
          simp [digitsL, h0]
        · have hp : 0 < s.size := by
            rw [Lib.toList_data] at h0
            have := bytes_len s
            have : (bytes s).length ≠ 0 := fun e => h0 (List.length_eq_zero_iff.1 e)
            omega
          have hh := Lib.hid (bytes_head s hp)
          go_wp2
          go_ret
          refine ⟨?_, rfl⟩
          show Ending.returned (.bool (s.toList == [48] || !s.toList.isEmpty && (s[0].toNat : Int) != ((48 : Nat) : Int))) = _
          rw [u8_ne _ _ (by decide), Lib.toList_data, digitsL, HD.out, hh.out]
          simp [bne]
end Go.Proofs.YtlhekohecbiljaaDoor
