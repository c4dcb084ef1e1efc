/-
  Parts of the proof that AddrBegins,AddrTexts calls on: QtNum, Dec, TxLex, Ta.
-/
import Derived.Test.YtfcegalckjeafaaGreatDoorM301
import Derived.Test.YtfcegalckjeafaaGreatDoorM302
namespace Go.Proofs.YtfcegalckjeafaaGreatDoor
open Go.RowKit Go.BigFrame
/-- Does a text begin with a minus sign? -/
def negL (l : List UInt8) : Bool := l.head? == some 45
/-- What stands behind the sign. -/
def digsL (l : List UInt8) : List UInt8 := if negL l then l.tail else l
/-- Is it the digits of a whole number? -/
def wordL (l : List UInt8) : Bool := !(digsL l).isEmpty && !((digsL l).head? == some 48 && decide (1 < l.length)) && (digsL l).all isDig
/-- The number of digits. -/
def valL (l : List UInt8) : Nat := l.foldl (fun a b => 10 * a + (b.toNat - 48)) 0
theorem valL_snoc (l : List UInt8) (b : UInt8) : valL (l ++ [b]) = 10 * valL l + (b.toNat - 48) := by simp [valL]
/-- A size with a sign, or that it is out of range (4). -/
def sgnN (u : Nat) (neg : Bool) : Int × Int :=
  if neg then (if 9223372036854775808 < u then (0, 4) else (-(u : Int), 0)) else (if 9223372036854775808 ≤ u then (0, 4) else ((u : Int), 0))
/-- A text's number, or why there is none (2: it is not well formed; 4: out of range). -/
def parseL (l : List UInt8) : Int × Int := if wordL l then sgnN (valL (digsL l)) (negL l) else (0, 2)
set_option maxHeartbeats 1000000 in
theorem signed_any (u : Nat) (neg : Bool) (hu : u < 18446744073709551616) (w : World) :
    Calls Tryz.prog 145 #[.int .u64 u, .bool neg] w fun e w' => w' = w ∧ e = .returned (.tuple #[.int .i64 (sgnN u neg).1, .int .i64 (sgnN u neg).2]) := by
  cases neg with
  | true =>
    by_cases h : 9223372036854775808 < (u : Int)
    · have h' : sgnN u true = (0, 4) := by unfold sgnN; rw [if_pos rfl, if_pos (by omega)]
      rw [h']
      clear h'
      go_enter Tryz.func145, Tryz.ntmps145
      go_wp2
      go_ret2
      exact ⟨rfl, rfl⟩
    · have h' : sgnN u true = (-(u : Int), 0) := by unfold sgnN; rw [if_pos rfl, if_neg (by omega)]
      rw [h']
      clear h'
      go_enter Tryz.func145, Tryz.ntmps145
      go_wp2
      go_ret2
      have e : wrap64 (IntKind.u64.wrap (-(u : Int))) = -(u : Int) := by simp [wrap64, IntKind.wrap, IntKind.bits, IntKind.signed]; omega
      exact ⟨rfl, by simp [e]⟩
  | false =>
    by_cases h : 9223372036854775807 < (u : Int)
    · have h' : sgnN u false = (0, 4) := by unfold sgnN; rw [if_neg (by simp), if_pos (by omega)]
      rw [h']
      clear h'
      go_enter Tryz.func145, Tryz.ntmps145
      go_wp2
      go_ret2
      exact ⟨rfl, rfl⟩
    · have h' : sgnN u false = ((u : Int), 0) := by unfold sgnN; rw [if_neg (by simp), if_neg (by omega)]
      rw [h']
      clear h'
      go_enter Tryz.func145, Tryz.ntmps145
      go_wp2
      go_ret2
      exact ⟨rfl, rfl⟩
def n0 (l : List UInt8) : Nat := if negL l then 1 else 0
theorem digs_len (l : List UInt8) : (digsL l).length = l.length - n0 l := by
  unfold digsL n0
  split <;> simp
theorem digs_at (s : ByteArray) (k : Nat) (h : k < s.size) (hk : n0 (bytes s) ≤ k) : (digsL (bytes s))[k - n0 (bytes s)]? = some s[k] := by
  rw [← bytes_at s k h]
  unfold digsL n0 at *
  split
  · rename_i hn
    rw [if_pos hn] at hk
    rw [List.getElem?_tail, Nat.sub_add_cancel hk]
  · rfl
theorem neg_first (s : ByteArray) (h : 0 < s.size) : negL (bytes s) = (s[0] == 45) := by
  rw [negL, bytes_head s h]; rfl
/-- The text so far, k bytes, is well. -/
def Pw (l : List UInt8) (k : Nat) : Prop := ((digsL l).take (k - n0 l)).all isDig = true ∧ (0 < k - n0 l → ¬ ((digsL l).head? = some 48 ∧ 1 < l.length))
/-- The number so far. -/
def Vk (l : List UInt8) (k : Nat) : Nat := valL ((digsL l).take (k - n0 l))
theorem Vk_succ (s : ByteArray) (k : Nat) (h : k < s.size) (hk : n0 (bytes s) ≤ k) : Vk (bytes s) (k + 1) = 10 * Vk (bytes s) k + (s[k].toNat - 48) := by
  unfold Vk
  rw [show k + 1 - n0 (bytes s) = (k - n0 (bytes s)) + 1 by omega, List.take_add_one, digs_at s k h hk]
  exact valL_snoc _ _
theorem Pw_succ (s : ByteArray) (k : Nat) (h : k < s.size) (hk : n0 (bytes s) ≤ k) (hp : Pw (bytes s) k) (hd : isDig s[k] = true) (hz : ¬ (s[k] = 48 ∧ k - n0 (bytes s) = 0 ∧ 1 < s.size)) : Pw (bytes s) (k + 1) := by
  obtain ⟨h1, h2⟩ := hp
  refine ⟨?_, fun _ hc => ?_⟩
  · rw [show k + 1 - n0 (bytes s) = (k - n0 (bytes s)) + 1 by omega, List.take_add_one, digs_at s k h hk]
    simp [h1, hd]
  · rw [bytes_len] at hc
    rcases Nat.eq_zero_or_pos (k - n0 (bytes s)) with h0 | h0
    · refine hz ⟨?_, h0, hc.2⟩
      have := digs_at s k h hk
      rw [h0, ← List.head?_eq_getElem?, hc.1] at this
      simpa using this.symm
    · exact h2 h0 (by rw [bytes_len]; exact hc)
theorem not_word_zero (s : ByteArray) (k : Nat) (h : k < s.size) (hk : k = n0 (bytes s)) (h48 : s[k] = 48) (h1 : 1 < s.size) : parseL (bytes s) = (0, 2) := by
  have hat := digs_at s k h (by omega)
  rw [show k - n0 (bytes s) = 0 by omega, ← List.head?_eq_getElem?, h48] at hat
  have : wordL (bytes s) = false := by unfold wordL; rw [hat, bytes_len]; simp [h1]
  simp [parseL, this]
theorem not_word_byte (s : ByteArray) (k : Nat) (h : k < s.size) (hk : n0 (bytes s) ≤ k) (hd : isDig s[k] = false) : parseL (bytes s) = (0, 2) := by
  have hm : s[k] ∈ digsL (bytes s) := List.mem_of_getElem? (digs_at s k h hk)
  have : (digsL (bytes s)).all isDig = false := by
    rw [Bool.eq_false_iff]
    intro ha
    rw [List.all_eq_true.1 ha _ hm] at hd
    cases hd
  have : wordL (bytes s) = false := by simp [wordL, this]
  simp [parseL, this]
theorem word_full (s : ByteArray) (hp : Pw (bytes s) s.size) (hpos : n0 (bytes s) < s.size) : wordL (bytes s) = true ∧ Vk (bytes s) s.size = valL (digsL (bytes s)) := by
  obtain ⟨h1, h2⟩ := hp
  have hl : (digsL (bytes s)).length = s.size - n0 (bytes s) := by rw [digs_len, bytes_len]
  have ht : (digsL (bytes s)).take (s.size - n0 (bytes s)) = digsL (bytes s) := by rw [← hl]; exact List.take_length
  rw [ht] at h1
  have h3 := h2 (by omega)
  have hne : (digsL (bytes s)).isEmpty = false := by
    cases hc : digsL (bytes s) with
    | nil => rw [hc] at hl; simp at hl; omega
    | cons a t => rfl
  refine ⟨?_, by unfold Vk; rw [ht]⟩
  unfold wordL
  rw [h1, hne]
  cases hh : ((digsL (bytes s)).head? == some 48 && decide (1 < (bytes s).length)) with
  | false => rfl
  | true =>
    rw [Bool.and_eq_true] at hh
    exact absurd ⟨by simpa using hh.1, by simpa using hh.2⟩ h3
theorem not_word_none (s : ByteArray) (h : s.size = n0 (bytes s)) : parseL (bytes s) = (0, 2) := by
  have hl : (digsL (bytes s)).length = 0 := by rw [digs_len, bytes_len]; omega
  have : wordL (bytes s) = false := by simp [wordL, List.length_eq_zero_iff.1 hl]
  simp [parseL, this]
set_option maxRecDepth 100000 in
set_option maxHeartbeats 2000000 in
theorem parse_any (s : ByteArray) (w : World) (hs : s.size ≤ 9223372036854775807) :
    Calls Tryz.prog 96 #[.string s] w fun e w' => w' = w ∧ e = .returned (.tuple #[.int .i64 (parseL (bytes s)).1, .int .i64 (parseL (bytes s)).2]) := by
  have hn1 : n0 (bytes s) ≤ 1 := by unfold n0; split <;> omega
  go_enter Tryz.func96, Tryz.ntmps96
  go_wp2
  go_loop [4, 5, 6, 7, 13] (fun b d o u i => ∃ k : Nat, k ≤ s.size ∧ i = .int .i64 k ∧ b = .bool (negL (bytes s) && decide (0 < k)) ∧ d = .int .i64 ((k - n0 (bytes s) : Nat) : Int) ∧ o = .bool (decide (18446744073709551616 ≤ Vk (bytes s) k)) ∧ u = .int .u64 ((Vk (bytes s) k % 18446744073709551616 : Nat) : Int) ∧ Hid (Pw (bytes s) k)) (fun _ _ _ _ i => match i with | .int _ m => s.size - m.toNat | _ => 0)
  case atStart => exact ⟨0, Nat.zero_le _, rfl, by simp, by simp, by simp [Vk, valL], by simp [Vk, valL], by simp [Hid, Pw]⟩
  case round =>
    obtain ⟨k, hk, rfl, rfl, rfl, rfl, rfl, hp⟩ := hrel
    by_cases hlt : k < s.size
    · by_cases hA : k = 0 ∧ negL (bytes s) = true
      · obtain ⟨rfl, hneg⟩ := hA
        have h45 : (s[0].toNat : Int) = 45 := by
          have := neg_first s hlt
          rw [hneg] at this
          have := eq_of_beq this.symm
          rw [this]; rfl
        have hN : Hid (n0 (bytes s) = 1) := Lib.hid (by unfold n0; rw [if_pos hneg])
        have HNEG := Lib.hid hneg
        clear hneg
        go_wp2
        have hV : Vk (bytes s) 1 = Vk (bytes s) 0 := by unfold Vk; rw [hN.out]
        have hP : Pw (bytes s) 1 := by have := hp.out; unfold Pw at this ⊢; rw [hN.out] at this ⊢; exact this
        exact ⟨⟨1, by omega, rfl, by simp [HNEG.out], by rw [hN.out], by rw [hV], by rw [hV], hP⟩, by simp; omega⟩
      · have hk1 : n0 (bytes s) ≤ k := by
          unfold n0
          split
          · rename_i hn
            rcases Nat.eq_zero_or_pos k with h0 | h0
            · exact absurd ⟨h0, hn⟩ hA
            · exact h0
          · exact Nat.zero_le _
        have hb : (negL (bytes s) && decide (0 < k)) = negL (bytes s) := by
          rcases Nat.eq_zero_or_pos k with h0 | h0
          · cases hn : negL (bytes s) with
            | false => rfl
            | true => exact absurd ⟨h0, hn⟩ hA
          · simp [h0]
        have hb' : Hid ((negL (bytes s) && decide (0 < k + 1)) = negL (bytes s)) := Lib.hid (by simp)
        have h45 : ¬ ((s[k].toNat : Int) = 45 ∧ (k : Int) = 0) := by
          rintro ⟨e1, e2⟩
          have hk0 : k = 0 := by omega
          subst hk0
          refine hA ⟨rfl, ?_⟩
          rw [neg_first s hlt]
          have := u8_eq s[0] 45 (by decide)
          rw [← show UInt8.ofNat 45 = 45 from rfl, ← this]
          simpa using e1
        have hV := Lib.hid (Vk_succ s k hlt hk1)
        have hP := Lib.hid (Pw_succ s k hlt hk1 hp.out)
        have hZ := Lib.hid (not_word_zero s k hlt)
        have hD := Lib.hid (not_word_byte s k hlt hk1)
        have hj1 : Hid (k + 1 - n0 (bytes s) = (k - n0 (bytes s)) + 1) := Lib.hid (by omega)
        obtain ⟨j, hj⟩ : ∃ j, j = k - n0 (bytes s) := ⟨_, rfl⟩
        have hjk : Hid (k = n0 (bytes s) ↔ j = 0) := Lib.hid (by omega)
        have hjs : j ≤ s.size := by omega
        obtain ⟨V, hVd⟩ : ∃ V, V = Vk (bytes s) k := ⟨_, rfl⟩
        have e48 : Hid ((s[k].toNat : Int) = 48 → s[k] = 48) := Lib.hid (fun h => by
          have := u8_eq s[k] 48 (by decide)
          rw [show ((s[k].toNat : Int) == ((48 : Nat) : Int)) = true by simpa using h] at this
          simpa using this.symm)
        have HJ := Lib.hid hj
        have HVd := Lib.hid hVd
        rw [hb, ← hj, ← hVd]
        clear hb hk1 hA hp hj hVd
        by_cases hz : (s[k].toNat : Int) = 48 ∧ j = 0 ∧ 1 < (s.size : Int)
        · obtain ⟨z1, z2, z3⟩ := hz
          clear h45
          go_wp2
          go_ret2
          exact ⟨rfl, by rw [hZ.out (hjk.out.2 z2) (e48.out z1) (by omega)]; rfl⟩
        · by_cases hdg : 48 ≤ (s[k].toNat : Int) ∧ (s[k].toNat : Int) ≤ 57
          · have hcase : ((s[k].toNat : Int) = 48 ∧ 0 < j) ∨ ((s[k].toNat : Int) = 48 ∧ j = 0 ∧ (s.size : Int) ≤ 1) ∨ (49 ≤ (s[k].toNat : Int) ∧ (s[k].toNat : Int) ≤ 57) := by omega
            have hdig : Hid (isDig s[k] = true) := Lib.hid (by simp [isDig]; omega)
            have hz' : Hid (¬ (s[k] = 48 ∧ k - n0 (bytes s) = 0 ∧ 1 < s.size)) := Lib.hid (by
              rintro ⟨a, b, c⟩
              exact hz ⟨by rw [a]; rfl, by have := HJ.out; omega, by omega⟩)
            clear hz h45
            by_cases hov : 18446744073709551616 ≤ V
            · rcases hcase with ⟨z1, z2⟩ | ⟨z1, z2, z3⟩ | ⟨z1, z2⟩
              all_goals
                clear hdg
                go_wp2
                refine ⟨⟨k + 1, by omega, by simp, by rw [hb'.out], ?_, ?_, ?_, hP.out hdig.out hz'.out⟩, by simp; omega⟩
                · have := HJ.out
                  rw [hj1.out, ← this]
                  first | (congr 1; simp [wrap64]; omega) | (congr 1; omega)
                · have := HVd.out
                  rw [hV.out, ← this]
                  congr 1
                  simp
                  omega
                · have := HVd.out
                  rw [hV.out, ← this]
                  congr 1
                  simp only [IntKind.wrap_u64]
                  omega
            · rcases hcase with ⟨z1, z2⟩ | ⟨z1, z2, z3⟩ | ⟨z1, z2⟩
              all_goals
                clear hdg
                go_wp2
                refine ⟨⟨k + 1, by omega, by simp, by rw [hb'.out], ?_, ?_, ?_, hP.out hdig.out hz'.out⟩, by simp; omega⟩
                · have := HJ.out
                  rw [hj1.out, ← this]
                  first | (congr 1; simp [wrap64]; omega) | (congr 1; omega)
                · have := HVd.out
                  rw [hV.out, ← this]
                  congr 1
                  simp
                  omega
                · have := HVd.out
                  rw [hV.out, ← this]
                  congr 1
                  simp only [IntKind.wrap_u64]
                  omega
          · clear hz
            have hnd : Hid (parseL (bytes s) = (0, 2)) := Lib.hid (hD.out (by simp [isDig]; omega))
            by_cases h1 : (s[k].toNat : Int) = 45
            · have hk0 : ¬ (k : Int) = 0 := fun h => h45 ⟨h1, h⟩
              clear h45
              go_wp2
              go_ret2
              exact ⟨rfl, by rw [hnd.out]; rfl⟩
            · by_cases h2 : (s[k].toNat : Int) < 48
              · clear h45 hdg
                go_wp2
                go_ret2
                exact ⟨rfl, by rw [hnd.out]; rfl⟩
              · have h3 : 57 < (s[k].toNat : Int) := by omega
                clear h45 hdg
                go_wp2
                go_ret2
                exact ⟨rfl, by rw [hnd.out]; rfl⟩
    · obtain rfl : k = s.size := by omega
      have hW := Lib.hid (word_full s hp.out)
      have hN := Lib.hid (not_word_none s)
      have hneg : Hid ((negL (bytes s) && decide (0 < s.size)) = negL (bytes s)) := Lib.hid (by
        rcases Nat.eq_zero_or_pos s.size with h0 | h0
        · cases hn : negL (bytes s) with
          | false => rfl
          | true =>
            have := bytes_len s
            rw [h0] at this
            rw [List.length_eq_zero_iff.1 this] at hn
            cases hn
        · simp [h0])
      rw [hneg.out]
      obtain ⟨j, hj⟩ : ∃ j, j = s.size - n0 (bytes s) := ⟨_, rfl⟩
      have HJ := Lib.hid hj
      obtain ⟨V, hVd⟩ : ∃ V, V = Vk (bytes s) s.size := ⟨_, rfl⟩
      have HVd := Lib.hid hVd
      rw [← hj, ← hVd]
      have hle : Hid (n0 (bytes s) ≤ s.size) := Lib.hid (by
        unfold n0
        split
        · rename_i hn
          have := bytes_len s
          cases hc : bytes s with
          | nil => rw [hc] at hn; cases hn
          | cons a t => rw [hc] at this; simp at this; omega
        · exact Nat.zero_le _)
      clear hp hj hVd
      by_cases hj0 : j = 0
      · go_wp2
        go_ret2
        have := HJ.out
        have := hle.out
        exact ⟨rfl, by rw [hN.out (by omega)]; rfl⟩
      · have hw : Hid (wordL (bytes s) = true ∧ V = valL (digsL (bytes s))) := Lib.hid (by
          have h1 := HJ.out
          obtain ⟨a, b⟩ := hW.out (by omega)
          exact ⟨a, HVd.out.trans b⟩)
        have hj1 : ((j : Int) == 0) = false := by simp; omega
        have hP : Hid (parseL (bytes s) = sgnN V (negL (bytes s))) := Lib.hid (by
          have h1 := hw.out
          unfold parseL
          rw [if_pos h1.1, h1.2])
        by_cases hov : 18446744073709551616 ≤ V
        · go_wp2
          go_ret2
          refine ⟨rfl, ?_⟩
          have e : sgnN V (negL (bytes s)) = (0, 4) := by
            unfold sgnN
            split
            · rw [if_pos (by omega)]
            · rw [if_pos (by omega)]
          rw [hP.out, e]
          rfl
        · have hV : V % 18446744073709551616 = V := Nat.mod_eq_of_lt (by omega)
          rw [hV]
          clear hV
          go_wp2_with fail
          refine (signed_any V _ (by omega) w).mono ?_
          rintro e w' ⟨hw', rfl⟩
          have hw'' := hw'.symm
          subst hw''
          go_wp2
          go_ret2
          exact ⟨rfl, by rw [hP.out]; rfl⟩
end Go.Proofs.YtfcegalckjeafaaGreatDoor
namespace Go.Proofs.YtfcegalckjeafaaGreatDoor
open Go.RowKit Go.BigFrame
/-- The decimal digits of a number. -/
def ndig (n : Nat) : List UInt8 := if n < 10 then [UInt8.ofNat (48 + n)] else ndig (n / 10) ++ [UInt8.ofNat (48 + n % 10)]
termination_by n
decreasing_by omega
theorem ndig_lt (n : Nat) (h : n < 10) : ndig n = [UInt8.ofNat (48 + n)] := by rw [ndig, if_pos h]
theorem ndig_ge (n : Nat) (h : ¬ n < 10) : ndig n = ndig (n / 10) ++ [UInt8.ofNat (48 + n % 10)] := by rw [ndig, if_neg h]
theorem ndig_pos (n : Nat) : 0 < (ndig n).length := by
  by_cases h : n < 10
  · rw [ndig_lt n h]; simp
  · rw [ndig_ge n h]; simp
theorem ndig_len : ∀ (k n : Nat), n < 10 ^ (k + 1) → (ndig n).length ≤ k + 1
  | 0, n, h => by rw [ndig_lt n (by simpa using h)]; simp
  | k + 1, n, h => by
    by_cases h10 : n < 10
    · rw [ndig_lt n h10]; simp
    · rw [ndig_ge n h10]
      have := ndig_len k (n / 10) (Nat.div_lt_of_lt_mul (by rw [Nat.pow_succ] at h; omega))
      simp
      omega
theorem dig_lt {n : Nat} (h : n < 10) : (UInt8.ofNat (48 + n)).toNat = 48 + n := by
  rw [UInt8.toNat_ofNat']
  exact Nat.mod_eq_of_lt (by omega)
theorem ndig_dig : ∀ (k n : Nat), n ≤ k → ∀ b ∈ ndig n, 48 ≤ b.toNat ∧ b.toNat ≤ 57
  | k, n, hk, b, hb => by
    by_cases h10 : n < 10
    · rw [ndig_lt n h10] at hb
      rw [List.mem_singleton] at hb
      subst hb
      rw [dig_lt h10]
      omega
    · rw [ndig_ge n h10] at hb
      cases k with
      | zero => omega
      | succ k =>
        rcases List.mem_append.1 hb with hb | hb
        · exact ndig_dig k (n / 10) (by omega) b hb
        · rw [List.mem_singleton] at hb
          subst hb
          rw [dig_lt (Nat.mod_lt _ (by omega))]
          have := Nat.mod_lt n (show 0 < 10 by omega)
          omega
/-- .. with its sign. -/
def decL (n : Int) : List UInt8 := if n < 0 then 45 :: ndig n.natAbs else ndig n.natAbs
theorem decL_neg (n : Int) (h : n < 0) : decL n = 45 :: ndig n.natAbs := if_pos h
theorem decL_pos (n : Int) (h : ¬ n < 0) : decL n = ndig n.natAbs := if_neg h
theorem decL_len (n : Int) (h1 : -9223372036854775808 ≤ n) (h2 : n ≤ 9223372036854775807) : (decL n).length ≤ 20 := by
  have := ndig_len 18 n.natAbs (by have : (10:Nat)^(18+1) = 10000000000000000000 := by decide
                                   omega)
  unfold decL
  split <;> simp <;> omega
theorem decL_least : decL (-9223372036854775808) = [45, 57, 50, 50, 51, 51, 55, 50, 48, 51, 54, 56, 53, 52, 55, 55, 53, 56, 48, 56] := by
  rw [decL_neg _ (by decide)]
  rw [show (-9223372036854775808 : Int).natAbs = 9223372036854775808 by decide]
  iterate 18 rw [ndig_ge _ (by decide)]
  rw [ndig_lt _ (by decide)]
  decide
theorem neg_wrap (n : Int) (h1 : -9223372036854775808 ≤ n) (h : n < 0) : IntKind.u64.wrap (-IntKind.u64.wrap n) = (n.natAbs : Int) := by
  simp only [IntKind.wrap, IntKind.signed, IntKind.bits]
  simp
  omega
set_option maxRecDepth 100000 in
set_option maxHeartbeats 1000000 in
theorem size_any (n : Int) (w : World) (h1 : -9223372036854775808 ≤ n) (h2 : n ≤ 9223372036854775807) :
    Calls Tryz.prog 98 #[.int .i64 n] w fun e w' => e = .returned (.int .u64 n.natAbs) ∧ w' = w := by
  by_cases hn : n < 0
  · go_enter Tryz.func98, Tryz.ntmps98
    go_wp2
    go_ret
    refine ⟨?_, rfl⟩
    show Ending.returned (.int .u64 (IntKind.u64.wrap (-IntKind.u64.wrap n))) = _
    rw [neg_wrap n h1 hn]
  · go_enter Tryz.func98, Tryz.ntmps98
    go_wp2
    go_ret
    refine ⟨?_, rfl⟩
    show Ending.returned (.int .u64 n) = _
    rw [show (n.natAbs : Int) = n by omega]
theorem bv_dig {n : Nat} (h : n < 10) : bv (UInt8.ofNat (48 + n)) = .int .u8 ((48 : Int) + n) := by
  unfold bv
  rw [dig_lt h]
  rfl
theorem cat_bytes (x y : List UInt8) (w : World) (hx : x.length ≤ 67108864) (hy : y.length ≤ 67108864) : (Op.stringOp .add ⟨x.toArray⟩ ⟨y.toArray⟩).run Tryz.prog w = .ok (.string ⟨(x ++ y).toArray⟩) w := add_bytes x y w hx hy
set_option maxRecDepth 100000 in
set_option maxHeartbeats 2000000 in
theorem refDec_pos : ∀ (k : Nat) (n : Nat) (w : World), n ≤ k → n ≤ 9223372036854775807 →
    Calls Tryz.prog 63 #[.int .i64 n] w fun e w' => e = .returned (.string ⟨(ndig n).toArray⟩) ∧ Below w.heap.size w w'
  | k, n, w, hk, hn => by
    by_cases h10 : (n : Int) < 10
    · have hd := Lib.hid (ndig_lt n (by omega))
      have hcv : ∀ (w : World) (g : Nat), w.cell? ⟨g, 0, none⟩ = some (.int .u8 (48 + n)) → (convert 116 9 (.slice (some ⟨g, 0, none⟩) 1 1)).run Tryz.prog w = .ok (.string ⟨(ndig n).toArray⟩) w := by
        intro w g hc
        rw [hd.out]
        refine run_convert_bytes_back w _ _ _ _ _ [UInt8.ofNat (48 + n)] Tryz.underlying116 Tryz.underlying5 Tryz.underlying9 (fun j hj => ?_)
        obtain rfl : j = 0 := by simp at hj; omega
        simp only [List.getElem_cons_zero]
        rw [dig_lt (show n < 10 by omega)]
        exact hc
      go_enter Tryz.func63, Tryz.ntmps63
      go_wp2
      go_ret
      exact ⟨rfl, (Below.refl _ _).alloc (Nat.le_refl _) _⟩
    · have e1 : IntKind.u8.wrap (IntKind.i64.wrap (48 + (n : Int).tmod 10)) = ((48 + n % 10 : Nat) : Int) := by
        rw [Int.tmod_eq_emod_of_nonneg (by omega)]
        simp [IntKind.wrap, IntKind.bits, IntKind.signed]
        omega
      have e2 : Hid (IntKind.i64.wrap ((n : Int) / 10) = ((n / 10 : Nat) : Int)) := Lib.hid (by
        simp [IntKind.wrap, IntKind.bits, IntKind.signed]
        omega)
      have hcv : ∀ (w : World) (g : Nat), w.cell? ⟨g, 0, none⟩ = some (.int .u8 (IntKind.u8.wrap (IntKind.i64.wrap (48 + (n : Int).tmod 10)))) → (convert 116 9 (.slice (some ⟨g, 0, none⟩) 1 1)).run Tryz.prog w = .ok (.string ⟨[UInt8.ofNat (48 + n % 10)].toArray⟩) w := by
        intro w g hc
        refine run_convert_bytes_back w _ _ _ _ _ [UInt8.ofNat (48 + n % 10)] Tryz.underlying116 Tryz.underlying5 Tryz.underlying9 (fun j hj => ?_)
        obtain rfl : j = 0 := by simp at hj; omega
        simp only [List.getElem_cons_zero]
        rw [dig_lt (Nat.mod_lt _ (by omega)), ← e1]
        exact hc
      clear e1
      have hl := Lib.hid (ndig_len 18 (n / 10) (by have : (10:Nat)^(18+1) = 10000000000000000000 := by decide
                                                   omega))
      have hadd : ∀ w, (Op.stringOp .add ⟨(ndig (n / 10)).toArray⟩ ⟨[UInt8.ofNat (48 + n % 10)].toArray⟩).run Tryz.prog w = .ok (.string ⟨(ndig (n / 10) ++ [UInt8.ofNat (48 + n % 10)]).toArray⟩) w := fun w => add_bytes _ _ w (by have := hl.out; omega) (by simp)
      have a2 : ¬ 9223372036854775807 < (ndig (n / 10)).length + 1 := by have := hl.out; omega
      have ih : Hid (∀ (w : World) (m : Int), m = ((n / 10 : Nat) : Int) → Calls Tryz.prog 63 #[.int .i64 m] w fun e w' => e = .returned (.string ⟨(ndig (n / 10)).toArray⟩) ∧ Below w.heap.size w w') := Lib.hid (fun w m hm => by rw [hm]; exact refDec_pos (k - 1) (n / 10) w (by omega) (by omega))
      have hdd := Lib.hid (ndig_ge n (by omega))
      go_enter Tryz.func63, Tryz.ntmps63
      go_wp2
      go_region_with (go_at_call 63; refine (ih.out _ _ e2.out).mono ?_; rintro e w9 ⟨rfl, hb9⟩; try (have hc9 : w9.cell? ⟨w.heap.size, 0, none⟩ = some (.int .u8 (IntKind.u8.wrap (IntKind.i64.wrap (48 + (n : Int).tmod 10)))) := (hb9.cell (p := ⟨w.heap.size, 0, none⟩) (by simp)).trans ((Blk.new _ _ _).cell 0)))
      all_goals
        have hB9 : Below w.heap.size w w9 := by
          first
            | exact undrew hb9
            | exact ((Below.refl _ _).alloc (Nat.le_refl _) _).trans (undrew (hb9.mono (show w.heap.size ≤ _ by simp)))
        go_wp2
        go_ret
        refine ⟨?_, ?_⟩
        · rw [hdd.out]
          show Ending.returned (.string _) = _
          congr 2
          rw [ByteArray.mk_append_mk]
          simp
        · first
            | exact hB9
            | exact hB9.alloc hB9.size _
set_option maxRecDepth 100000 in
set_option maxHeartbeats 1000000 in
theorem refDec_any (n : Int) (w : World) (h1 : -9223372036854775808 ≤ n) (h2 : n ≤ 9223372036854775807) :
    Calls Tryz.prog 63 #[.int .i64 n] w fun e w' => e = .returned (.string ⟨(decL n).toArray⟩) ∧ Below w.heap.size w w' := by
  by_cases h0 : n < 0
  · by_cases hl : n = -9223372036854775808
    · subst hl
      have hd := Lib.hid decL_least
      rw [hd.out]
      go_enter Tryz.func63, Tryz.ntmps63
      go_wp2
      go_ret
      exact ⟨rfl, Below.refl _ _⟩
    · have hd := Lib.hid (decL_neg n h0)
      rw [hd.out]
      clear hd
      have hlen := Lib.hid (ndig_len 18 n.natAbs (by have : (10:Nat)^(18+1) = 10000000000000000000 := by decide
                                                     omega))
      have hw : Hid (∀ (w : World) (m : Int), m = ((n.natAbs : Nat) : Int) → Calls Tryz.prog 63 #[.int .i64 m] w fun e w' => e = .returned (.string ⟨(ndig n.natAbs).toArray⟩) ∧ Below w.heap.size w w') := Lib.hid (fun w m hm => by rw [hm]; exact refDec_pos n.natAbs n.natAbs w (Nat.le_refl _) (by omega))
      have a2 : ¬ 9223372036854775807 < (ndig n.natAbs).length + 1 := by have := hlen.out; omega
      have hadd : ∀ w, (Op.stringOp .add ⟨[45].toArray⟩ ⟨(ndig n.natAbs).toArray⟩).run Tryz.prog w = .ok (.string ⟨([45] ++ ndig n.natAbs).toArray⟩) w := fun w => add_bytes _ _ w (by simp) (by have := hlen.out; omega)
      go_enter Tryz.func63, Tryz.ntmps63
      go_wp2_with fail
      refine (hw.out w _ (by omega)).mono ?_
      rintro e w1 ⟨rfl, hb1⟩
      go_wp2
      go_ret
      exact ⟨rfl, hb1⟩
  · have hd := Lib.hid (decL_pos n h0)
    rw [hd.out]
    have := refDec_pos n.natAbs n.natAbs w (Nat.le_refl _) (by omega)
    rwa [show ((n.natAbs : Nat) : Int) = n by omega] at this
end Go.Proofs.YtfcegalckjeafaaGreatDoor
namespace Go.Proofs.YtfcegalckjeafaaGreatDoor
/-- A token. -/
structure Tok where
  k : Int
  a : Int
  e : Int
  i : Int
  t : List UInt8
/-- A blank. -/
def blank (c : UInt8) : Bool := c == 32 || c == 9 || c == 10 || c == 13
/-- A letter of a name. -/
def letB (c : UInt8) (d : Bool) : Bool := (97 ≤ c.toNat && c.toNat ≤ 122) || (65 ≤ c.toNat && c.toNat ≤ 90) || c == 95 || (d && isDig c)
/-- All signs. -/
def signsL : List (List UInt8) := [[46, 46], [61, 61], [33, 61], [60, 61], [62, 61], [38, 38], [124, 124], [91], [93], [123], [125], [60], [62], [40], [41], [44], [58], [46], [42], [63], [33], [36], [64]]
/-- The token that stands right at a place. -/
def tokL (l : List UInt8) (p : Nat) : Tok ⊕ (Nat × Int) :=
  match l with
  | [] => .inl ⟨0, p, p, 0, []⟩
  | c :: t =>
    if c = 34 then (match unqL (c :: t) with
      | .inl r => .inl ⟨4, p, (p + r.2 : Nat), 0, r.1⟩
      | .inr r => .inr (p + r.1, r.2))
    else if letB c false then .inl ⟨2, p, (p + 1 + (t.takeWhile (letB · true)).length : Nat), 0, c :: t.takeWhile (letB · true)⟩
    else if c = 45 ∨ isDig c = true then
      (if (parseL (c :: t.takeWhile isDig)).2 = 0 then .inl ⟨3, p, (p + 1 + (t.takeWhile isDig).length : Nat), (parseL (c :: t.takeWhile isDig)).1, []⟩ else .inr (p, (parseL (c :: t.takeWhile isDig)).2))
    else match signsL.find? (fun x => x.isPrefixOf (c :: t)) with
      | some x => .inl ⟨1, p, (p + x.length : Nat), 0, x⟩
      | none => .inr (p, 2)
/-- Where a text goes on behind blanks. -/
def skipL (s : List UInt8) (p : Nat) : Nat := p + ((s.drop p).takeWhile blank).length
/-- The token of a text from a place on. -/
def nextL (s : List UInt8) (p : Nat) : Tok ⊕ (Nat × Int) := tokL (s.drop (skipL s p)) (skipL s p)
/-- Why a token can't stand there. -/
def wrongL (s : List UInt8) (t : Tok) : Nat × Int := if t.k = 0 then (s.length, 10) else (t.a.toNat, 2)
/-- A sign that must stand at a place. -/
def signL (s : List UInt8) (p : Nat) (x : List UInt8) : Nat ⊕ (Nat × Int) :=
  match nextL s p with
  | .inr r => .inr r
  | .inl t => if t.k = 1 ∧ t.t = x then .inl t.e.toNat else .inr (wrongL s t)
/-- The sign that closes a step. -/
def endL (o : List UInt8) : List UInt8 := if o = [60] then [62] else [93]
/-- What a token says within a step's signs. -/
def saysL (o : List UInt8) (t : Tok) : Option St := if t.k = 4 then some ⟨if o = [60] then 2 else 1, 0, t.t⟩ else if t.k = 3 ∧ o ≠ [60] then some ⟨0, t.i, []⟩ else none
/-- A step behind its first sign o, which ends at a place. -/
def stepL (s : List UInt8) (o : List UInt8) (p : Nat) : (St × Nat) ⊕ (Nat × Int) :=
  match nextL s p with
  | .inr r => .inr r
  | .inl t => match saysL o t with
    | none => .inr (wrongL s t)
    | some x => match signL s t.e.toNat (endL o) with
      | .inr r => .inr r
      | .inl a => .inl (x, a)
/-- The steps from a place on (so many rounds at most). -/
def goL (s : List UInt8) : Nat → Nat → List St → List St ⊕ (Nat × Int)
  | 0, _, _ => .inr (0, 0)
  | n + 1, p, acc => match nextL s p with
    | .inr r => .inr r
    | .inl t => if t.k = 0 then .inl acc else if t.k = 1 ∧ (t.t = [91] ∨ t.t = [60]) then
        (match stepL s t.t t.e.toNat with
        | .inr r => .inr r
        | .inl x => goL s n x.2 (acc ++ [x.1])) else .inr (wrongL s t)
/-- The address of a text. -/
def addrL (s : List UInt8) : List St ⊕ (Nat × Int) :=
  match signL s 0 [36] with
  | .inr r => .inr r
  | .inl p => goL s (s.length + 1) p []
/-- A step as a text. -/
def stepT (x : St) : List UInt8 := if x.K = 0 then 91 :: (decL x.I ++ [93]) else if x.K = 1 then 91 :: (quoteL x.T ++ [93]) else if x.K = 2 then 60 :: (quoteL x.T ++ [62]) else [91, 63, 93]
/-- An address as a text. -/
def printL (l : List St) : List UInt8 := 36 :: l.flatMap stepT
theorem consU_inl {x : UInt8} {u : (List UInt8 × Nat) ⊕ (Nat × Int)} {r : List UInt8 × Nat} (h : consU x u = .inl r) : ∃ r', u = .inl r' ∧ r = (x :: r'.1, r'.2) := by
  cases u with
  | inl r' => simp [consU] at h; exact ⟨r', rfl, h.symm⟩
  | inr r' => simp [consU] at h
theorem unqB_le : ∀ (n : Nat) (l : List UInt8) (p : Nat) (r : List UInt8 × Nat), l.length ≤ n → unqB l p = .inl r → p < r.2 ∧ r.2 ≤ p + l.length ∧ r.1.length ≤ l.length
  | _, [], p, r, _, h => by simp [unqB] at h
  | 0, c :: t, _, _, h, _ => by simp at h
  | n + 1, c :: t, p, r, hn, h => by
    unfold unqB at h
    have key : ∀ (x : UInt8) (t' : List UInt8) (k : Nat), t'.length + k ≤ (c :: t).length → 0 < k → consU x (unqB t' (p + k)) = .inl r → p < r.2 ∧ r.2 ≤ p + (c :: t).length ∧ r.1.length ≤ (c :: t).length := fun x t' k hk h0 h => by
      obtain ⟨r', hu, rfl⟩ := consU_inl h
      have := unqB_le n t' (p + k) r' (by simp at hn hk; omega) hu
      simp at this hk ⊢; omega
    split at h
    · cases h; simp
    split at h
    · cases h
    split at h
    · exact key _ _ _ (by simp) (by omega) h
    split at h
    · cases h
    split at h
    · split at h
      · cases h
      split at h
      · cases h
      split at h
      · cases h
      split at h
      · cases h
      exact key _ _ _ (by simp) (by omega) h
    · split at h
      · cases h
      exact key _ _ _ (by simp) (by omega) h
theorem unqL_le (l : List UInt8) (r : List UInt8 × Nat) (h : unqL l = .inl r) : 1 < r.2 ∧ r.2 ≤ l.length ∧ r.1.length ≤ l.length := by
  cases l with
  | nil => simp [unqL] at h
  | cons c t =>
    rw [unqL] at h
    split at h
    · have := unqB_le _ t 1 r (Nat.le_refl _) h
      simp; omega
    · cases h
theorem skipL_le (s : List UInt8) (p : Nat) (h : p ≤ s.length) : p ≤ skipL s p ∧ skipL s p ≤ s.length := by
  have := (List.takeWhile_sublist (p := blank) (l := s.drop p)).length_le
  rw [List.length_drop] at this
  unfold skipL
  omega
/-- A token ends behind where it begins, unless it is the end. -/
theorem tokL_le (l : List UInt8) (p : Nat) (t : Tok) (h : tokL l p = .inl t) : (t.k = 0 ∧ t.e = p ∧ l = [] ∨ t.k ≠ 0 ∧ (p : Int) < t.e) ∧ t.a = p ∧ t.e ≤ p + l.length := by
  unfold tokL at h
  split at h
  · cases h; simp
  rename_i c u
  split at h
  · split at h
    · rename_i r hr
      have := unqL_le _ _ hr
      cases h; simp at this ⊢; omega
    · cases h
  split at h
  · have := (List.takeWhile_sublist (p := (letB · true)) (l := u)).length_le
    cases h; simp; omega
  split at h
  · split at h
    · have := (List.takeWhile_sublist (p := isDig) (l := u)).length_le
      cases h; simp; omega
    · cases h
  split at h
  · rename_i x hx
    have h1 := List.find?_some hx
    have h2 := List.mem_of_find?_eq_some hx
    have h3 : x.length ≤ (c :: u).length := (List.isPrefixOf_iff_prefix.1 h1).length_le
    have h4 : 0 < x.length := by simp [signsL] at h2; rcases h2 with h2 | h2 | h2 | h2 | h2 | h2 | h2 | h2 | h2 | h2 | h2 | h2 | h2 | h2 | h2 | h2 | h2 | h2 | h2 | h2 | h2 | h2 | h2 <;> subst h2 <;> simp
    cases h; simp at h3 ⊢; omega
  · cases h
theorem nextL_le (s : List UInt8) (p : Nat) (hp : p ≤ s.length) (t : Tok) (h : nextL s p = .inl t) : (t.k = 0 ∨ t.k ≠ 0 ∧ (p : Int) < t.e) ∧ (p : Int) ≤ t.a ∧ (p : Int) ≤ t.e ∧ t.e ≤ s.length ∧ t.a ≤ s.length := by
  have h1 := skipL_le s p hp
  have h2 := tokL_le _ _ _ h
  rw [List.length_drop] at h2
  omega
end Go.Proofs.YtfcegalckjeafaaGreatDoor
namespace Go.Proofs.YtfcegalckjeafaaGreatDoor
open Go.RowKit Go.BigFrame
theorem ret_b {a b : Bool} (h : a = b) : Ending.returned (.bool a) = .returned (.bool b) := by rw [h]
theorem b_eq (c : UInt8) (n : Nat) (hn : n < 256) : (c == UInt8.ofNat n) = ((c.toNat : Int) == (n : Int)) := (u8_eq c n hn).symm
theorem isDig_int (c : UInt8) : isDig c = (decide ((48 : Int) ≤ (c.toNat : Int)) && decide ((c.toNat : Int) ≤ 57)) := by
  rw [Bool.eq_iff_iff]; simp only [isDig, Bool.and_eq_true, decide_eq_true_eq]; omega
theorem letB_int (c : UInt8) (d : Bool) : letB c d = ((decide ((97 : Int) ≤ (c.toNat : Int)) && decide ((c.toNat : Int) ≤ 122)) || (decide ((65 : Int) ≤ (c.toNat : Int)) && decide ((c.toNat : Int) ≤ 90)) || ((c.toNat : Int) == 95) || (d && isDig c)) := by
  have h := b_eq c 95 (by decide)
  rw [show (UInt8.ofNat 95) = (95 : UInt8) by rfl] at h
  rw [letB, h]
  have e1 : (decide (97 ≤ c.toNat) && decide (c.toNat ≤ 122)) = (decide ((97 : Int) ≤ (c.toNat : Int)) && decide ((c.toNat : Int) ≤ 122)) := by rw [Bool.eq_iff_iff]; simp only [Bool.and_eq_true, decide_eq_true_eq]; omega
  have e2 : (decide (65 ≤ c.toNat) && decide (c.toNat ≤ 90)) = (decide ((65 : Int) ≤ (c.toNat : Int)) && decide ((c.toNat : Int) ≤ 90)) := by rw [Bool.eq_iff_iff]; simp only [Bool.and_eq_true, decide_eq_true_eq]; omega
  rw [e1, e2]
  rfl
theorem blank_int (c : UInt8) : blank c = (((c.toNat : Int) == 32) || ((c.toNat : Int) == 9) || ((c.toNat : Int) == 10) || ((c.toNat : Int) == 13)) := by
  have h1 := b_eq c 32 (by decide)
  have h2 := b_eq c 9 (by decide)
  have h3 := b_eq c 10 (by decide)
  have h4 := b_eq c 13 (by decide)
  simp only [blank]
  rw [← show ((c.toNat : Int) == ((32 : Nat) : Int)) = ((c.toNat : Int) == 32) by rfl, ← h1, ← show ((c.toNat : Int) == ((9 : Nat) : Int)) = ((c.toNat : Int) == 9) by rfl, ← h2, ← show ((c.toNat : Int) == ((10 : Nat) : Int)) = ((c.toNat : Int) == 10) by rfl, ← h3, ← show ((c.toNat : Int) == ((13 : Nat) : Int)) = ((c.toNat : Int) == 13) by rfl, ← h4]
  rfl
def BOut (w : World) (b : Bool) (e : Ending) (w' : World) : Prop := e = .returned (.bool b) ∧ w' = w
theorem digit_any (c : UInt8) (w : World) : Calls Tryz.prog 95 #[bv c] w (BOut w (isDig c)) := by
  have hb : (0 : Int) ≤ (c.toNat : Int) := by omega
  rw [isDig_int, bv]
  generalize (c.toNat : Int) = n at *
  by_cases h1 : 48 ≤ n <;> by_cases h2 : n ≤ 57 <;>
  · go_enter Tryz.func95, Tryz.ntmps95
    go_wp2
    go_ret
    exact ⟨by simp [h1, h2], rfl⟩
theorem rdigit_any (c : UInt8) (w : World) : Calls Tryz.prog 154 #[bv c] w (BOut w (isDig c)) := by
  have hb : (0 : Int) ≤ (c.toNat : Int) := by omega
  rw [isDig_int, bv]
  generalize (c.toNat : Int) = n at *
  by_cases h1 : 48 ≤ n <;> by_cases h2 : n ≤ 57 <;>
  · go_enter Tryz.func154, Tryz.ntmps154
    go_wp2
    go_ret
    exact ⟨by simp [h1, h2], rfl⟩
theorem blank_any (c : UInt8) (w : World) : Calls Tryz.prog 92 #[bv c] w (BOut w (blank c)) := by
  rw [blank_int, bv]
  generalize (c.toNat : Int) = n at *
  by_cases h1 : n = 32
  · subst h1
    go_enter Tryz.func92, Tryz.ntmps92
    go_wp2
    go_ret
    exact ⟨rfl, rfl⟩
  by_cases h2 : n = 9
  · subst h2
    go_enter Tryz.func92, Tryz.ntmps92
    go_wp2
    go_ret
    exact ⟨rfl, rfl⟩
  by_cases h3 : n = 10
  · subst h3
    go_enter Tryz.func92, Tryz.ntmps92
    go_wp2
    go_ret
    exact ⟨rfl, rfl⟩
  by_cases h4 : n = 13
  · subst h4
    go_enter Tryz.func92, Tryz.ntmps92
    go_wp2
    go_ret
    exact ⟨rfl, rfl⟩
  have e1 : (n == 32) = false := by simpa using h1
  have e2 : (n == 9) = false := by simpa using h2
  have e3 : (n == 10) = false := by simpa using h3
  have e4 : (n == 13) = false := by simpa using h4
  go_enter Tryz.func92, Tryz.ntmps92
  go_wp2
  go_ret
  exact ⟨ret_b (by simp [e1, e2, e3, e4]), rfl⟩
theorem rblank_any (c : UInt8) (w : World) : Calls Tryz.prog 152 #[bv c] w (BOut w (blank c)) := by
  rw [blank_int, bv]
  generalize (c.toNat : Int) = n at *
  by_cases h1 : n = 32
  · subst h1
    go_enter Tryz.func152, Tryz.ntmps152
    go_wp2
    go_ret
    exact ⟨rfl, rfl⟩
  by_cases h2 : n = 9
  · subst h2
    go_enter Tryz.func152, Tryz.ntmps152
    go_wp2
    go_ret
    exact ⟨rfl, rfl⟩
  by_cases h3 : n = 10
  · subst h3
    go_enter Tryz.func152, Tryz.ntmps152
    go_wp2
    go_ret
    exact ⟨rfl, rfl⟩
  have e1 : (n == 32) = false := by simpa using h1
  have e2 : (n == 9) = false := by simpa using h2
  have e3 : (n == 10) = false := by simpa using h3
  go_enter Tryz.func152, Tryz.ntmps152
  go_wp2
  go_ret
  exact ⟨ret_b (by simp [e1, e2, e3]), rfl⟩
theorem lt_dec (n : Int) (dd a1 a2 a3 a4 a5 : Bool) (r : Bool) (h1 : a1 = decide (97 ≤ n)) (h2 : a2 = decide (n ≤ 122)) (h3 : a3 = decide (65 ≤ n)) (h4 : a4 = decide (n ≤ 90)) (h5 : (n == 95) = a5) (hr : r = ((a1 && a2) || (a3 && a4) || a5 || dd)) :
    r = ((decide (97 ≤ n) && decide (n ≤ 122)) || (decide (65 ≤ n) && decide (n ≤ 90)) || (n == 95) || dd) := by subst h1 h2 h3 h4 h5; exact hr
theorem letter_any (c : UInt8) (d : Bool) (w : World) : Calls Tryz.prog 94 #[bv c, .bool d] w (BOut w (letB c d)) := by
  have HD := Lib.hid (digit_any c w)
  rw [letB_int]
  simp only [bv] at HD ⊢
  generalize isDig c = dg at *
  generalize (c.toNat : Int) = n at *
  obtain ⟨R, hR⟩ : ∃ R, R = ((decide (97 ≤ n) && decide (n ≤ 122)) || (decide (65 ≤ n) && decide (n ≤ 90)) || (n == 95) || (d && dg)) := ⟨_, rfl⟩
  rw [← hR]
  have HR := Lib.hid hR
  clear hR
  by_cases h1 : 97 ≤ n
  · by_cases h2 : n ≤ 122
    · go_enter Tryz.func94, Tryz.ntmps94
      go_wp2
      go_ret
      exact ⟨ret_b (by rw [HR.out]; simp [h1, h2]), rfl⟩
    · have h3 : 65 ≤ n := by omega
      have h4 : ¬ n ≤ 90 := by omega
      have h5 : (n == 95) = false := by simp; omega
      cases d
      · go_enter Tryz.func94, Tryz.ntmps94
        go_wp2
        go_ret
        refine ⟨ret_b ?_, rfl⟩
        rw [HR.out]
        refine lt_dec n _ true false true false _ _ (decide_eq_true (by omega)).symm (decide_eq_false (by omega)).symm (decide_eq_true (by omega)).symm (decide_eq_false (by omega)).symm h5 ?_
        simp
      · go_enter Tryz.func94, Tryz.ntmps94
        go_wp2_with fail
        refine HD.out.mono ?_
        rintro e w1 ⟨rfl, rfl⟩
        go_wp2
        go_ret
        refine ⟨ret_b ?_, rfl⟩
        rw [HR.out]
        refine lt_dec n _ true false true false _ _ (decide_eq_true (by omega)).symm (decide_eq_false (by omega)).symm (decide_eq_true (by omega)).symm (decide_eq_false (by omega)).symm h5 ?_
        simp
  · by_cases h3 : 65 ≤ n
    · by_cases h4 : n ≤ 90
      · go_enter Tryz.func94, Tryz.ntmps94
        go_wp2
        go_ret
        exact ⟨ret_b (by rw [HR.out]; simp [h3, h4]), rfl⟩
      · by_cases h5 : n = 95
        · subst h5
          go_enter Tryz.func94, Tryz.ntmps94
          go_wp2
          go_ret
          exact ⟨ret_b (by rw [HR.out]; simp), rfl⟩
        · have h6 : (n == 95) = false := by simpa using h5
          cases d
          · go_enter Tryz.func94, Tryz.ntmps94
            go_wp2
            go_ret
            refine ⟨ret_b ?_, rfl⟩
            rw [HR.out]
            refine lt_dec n _ false true true false _ _ (decide_eq_false (by omega)).symm (decide_eq_true (by omega)).symm (decide_eq_true (by omega)).symm (decide_eq_false (by omega)).symm h6 ?_
            simp
          · go_enter Tryz.func94, Tryz.ntmps94
            go_wp2_with fail
            refine HD.out.mono ?_
            rintro e w1 ⟨rfl, rfl⟩
            go_wp2
            go_ret
            refine ⟨ret_b ?_, rfl⟩
            rw [HR.out]
            refine lt_dec n _ false true true false _ _ (decide_eq_false (by omega)).symm (decide_eq_true (by omega)).symm (decide_eq_true (by omega)).symm (decide_eq_false (by omega)).symm h6 ?_
            simp
    · have h6 : (n == 95) = false := by simp; omega
      cases d
      · go_enter Tryz.func94, Tryz.ntmps94
        go_wp2
        go_ret
        refine ⟨ret_b ?_, rfl⟩
        rw [HR.out]
        refine lt_dec n _ false true false true _ _ (decide_eq_false (by omega)).symm (decide_eq_true (by omega)).symm (decide_eq_false (by omega)).symm (decide_eq_true (by omega)).symm h6 ?_
        simp
      · go_enter Tryz.func94, Tryz.ntmps94
        go_wp2_with fail
        refine HD.out.mono ?_
        rintro e w1 ⟨rfl, rfl⟩
        go_wp2
        go_ret
        refine ⟨ret_b ?_, rfl⟩
        rw [HR.out]
        refine lt_dec n _ false true false true _ _ (decide_eq_false (by omega)).symm (decide_eq_true (by omega)).symm (decide_eq_false (by omega)).symm (decide_eq_true (by omega)).symm h6 ?_
        simp
end Go.Proofs.YtfcegalckjeafaaGreatDoor
