/-
  Parts of the proof that AddrTold,AddrBegins calls on: QtNum, Dec.
-/
import Derived.Test.YtfcegalckjeafaaGreatDoorM101
namespace Go.Proofs.YtfcegalckjeafaaGreatDoor
open Go.RowKit Go.BigFrame
/-- Does a text begin with a minus sign? -/
def negL (l : List UInt8) : Bool := l.head? == some 45
/-- What stands behind the sign. -/
def digsL (l : List UInt8) : List UInt8 := if negL l then l.tail else l
/-- Is it the digits of a whole number? -/
def wordL (l : List UInt8) : Bool := !(digsL l).isEmpty && !((digsL l).head? == some 48 && decide (1 < l.length)) && (digsL l).all isDig
/-- The number of digits. -/
def valL (l : List UInt8) : Nat := l.foldl (fun a b => 10 * a + (b.toNat - 48)) 0
theorem valL_snoc (l : List UInt8) (b : UInt8) : valL (l ++ [b]) = 10 * valL l + (b.toNat - 48) := by simp [valL]
/-- A size with a sign, or that it is out of range (4). -/
def sgnN (u : Nat) (neg : Bool) : Int × Int :=
  if neg then (if 9223372036854775808 < u then (0, 4) else (-(u : Int), 0)) else (if 9223372036854775808 ≤ u then (0, 4) else ((u : Int), 0))
/-- A text's number, or why there is none (2: it is not well formed; 4: out of range). -/
def parseL (l : List UInt8) : Int × Int := if wordL l then sgnN (valL (digsL l)) (negL l) else (0, 2)
set_option maxHeartbeats 1000000 in
theorem signed_any (u : Nat) (neg : Bool) (hu : u < 18446744073709551616) (w : World) :
    Calls Tryz.prog 145 #[.int .u64 u, .bool neg] w fun e w' => w' = w ∧ e = .returned (.tuple #[.int .i64 (sgnN u neg).1, .int .i64 (sgnN u neg).2]) := by
  cases neg with
  | true =>
    by_cases h : 9223372036854775808 < (u : Int)
    · have h' : sgnN u true = (0, 4) := by unfold sgnN; rw [if_pos rfl, if_pos (by omega)]
      rw [h']
      clear h'
      go_enter Tryz.func145, Tryz.ntmps145
      go_wp2
      go_ret2
      exact ⟨rfl, rfl⟩
    · have h' : sgnN u true = (-(u : Int), 0) := by unfold sgnN; rw [if_pos rfl, if_neg (by omega)]
      rw [h']
      clear h'
      go_enter Tryz.func145, Tryz.ntmps145
      go_wp2
      go_ret2
      have e : wrap64 (IntKind.u64.wrap (-(u : Int))) = -(u : Int) := by simp [wrap64, IntKind.wrap, IntKind.bits, IntKind.signed]; omega
      exact ⟨rfl, by simp [e]⟩
  | false =>
    by_cases h : 9223372036854775807 < (u : Int)
    · have h' : sgnN u false = (0, 4) := by unfold sgnN; rw [if_neg (by simp), if_pos (by omega)]
      rw [h']
      clear h'
      go_enter Tryz.func145, Tryz.ntmps145
      go_wp2
      go_ret2
      exact ⟨rfl, rfl⟩
    · have h' : sgnN u false = ((u : Int), 0) := by unfold sgnN; rw [if_neg (by simp), if_neg (by omega)]
      rw [h']
      clear h'
      go_enter Tryz.func145, Tryz.ntmps145
      go_wp2
      go_ret2
      exact ⟨rfl, rfl⟩
def n0 (l : List UInt8) : Nat := if negL l then 1 else 0
theorem digs_len (l : List UInt8) : (digsL l).length = l.length - n0 l := by
  unfold digsL n0
  split <;> simp
theorem digs_at (s : ByteArray) (k : Nat) (h : k < s.size) (hk : n0 (bytes s) ≤ k) : (digsL (bytes s))[k - n0 (bytes s)]? = some s[k] := by
  rw [← bytes_at s k h]
  unfold digsL n0 at *
  split
  · rename_i hn
    rw [if_pos hn] at hk
    rw [List.getElem?_tail, Nat.sub_add_cancel hk]
  · rfl
theorem neg_first (s : ByteArray) (h : 0 < s.size) : negL (bytes s) = (s[0] == 45) := by
  rw [negL, bytes_head s h]; rfl
/-- The text so far, k bytes, is well. -/
def Pw (l : List UInt8) (k : Nat) : Prop := ((digsL l).take (k - n0 l)).all isDig = true ∧ (0 < k - n0 l → ¬ ((digsL l).head? = some 48 ∧ 1 < l.length))
/-- The number so far. -/
def Vk (l : List UInt8) (k : Nat) : Nat := valL ((digsL l).take (k - n0 l))
theorem Vk_succ (s : ByteArray) (k : Nat) (h : k < s.size) (hk : n0 (bytes s) ≤ k) : Vk (bytes s) (k + 1) = 10 * Vk (bytes s) k + (s[k].toNat - 48) := by
  unfold Vk
  rw [show k + 1 - n0 (bytes s) = (k - n0 (bytes s)) + 1 by omega, List.take_add_one, digs_at s k h hk]
  exact valL_snoc _ _
theorem Pw_succ (s : ByteArray) (k : Nat) (h : k < s.size) (hk : n0 (bytes s) ≤ k) (hp : Pw (bytes s) k) (hd : isDig s[k] = true) (hz : ¬ (s[k] = 48 ∧ k - n0 (bytes s) = 0 ∧ 1 < s.size)) : Pw (bytes s) (k + 1) := by
  obtain ⟨h1, h2⟩ := hp
  refine ⟨?_, fun _ hc => ?_⟩
  · rw [show k + 1 - n0 (bytes s) = (k - n0 (bytes s)) + 1 by omega, List.take_add_one, digs_at s k h hk]
    simp [h1, hd]
  · rw [bytes_len] at hc
    rcases Nat.eq_zero_or_pos (k - n0 (bytes s)) with h0 | h0
    · refine hz ⟨?_, h0, hc.2⟩
      have := digs_at s k h hk
      rw [h0, ← List.head?_eq_getElem?, hc.1] at this
      simpa using this.symm
    · exact h2 h0 (by rw [bytes_len]; exact hc)
theorem not_word_zero (s : ByteArray) (k : Nat) (h : k < s.size) (hk : k = n0 (bytes s)) (h48 : s[k] = 48) (h1 : 1 < s.size) : parseL (bytes s) = (0, 2) := by
  have hat := digs_at s k h (by omega)
  rw [show k - n0 (bytes s) = 0 by omega, ← List.head?_eq_getElem?, h48] at hat
  have : wordL (bytes s) = false := by unfold wordL; rw [hat, bytes_len]; simp [h1]
  simp [parseL, this]
theorem not_word_byte (s : ByteArray) (k : Nat) (h : k < s.size) (hk : n0 (bytes s) ≤ k) (hd : isDig s[k] = false) : parseL (bytes s) = (0, 2) := by
  have hm : s[k] ∈ digsL (bytes s) := List.mem_of_getElem? (digs_at s k h hk)
  have : (digsL (bytes s)).all isDig = false := by
    rw [Bool.eq_false_iff]
    intro ha
    rw [List.all_eq_true.1 ha _ hm] at hd
    cases hd
  have : wordL (bytes s) = false := by simp [wordL, this]
  simp [parseL, this]
theorem word_full (s : ByteArray) (hp : Pw (bytes s) s.size) (hpos : n0 (bytes s) < s.size) : wordL (bytes s) = true ∧ Vk (bytes s) s.size = valL (digsL (bytes s)) := by
  obtain ⟨h1, h2⟩ := hp
  have hl : (digsL (bytes s)).length = s.size - n0 (bytes s) := by rw [digs_len, bytes_len]
  have ht : (digsL (bytes s)).take (s.size - n0 (bytes s)) = digsL (bytes s) := by rw [← hl]; exact List.take_length
  rw [ht] at h1
  have h3 := h2 (by omega)
  have hne : (digsL (bytes s)).isEmpty = false := by
    cases hc : digsL (bytes s) with
    | nil => rw [hc] at hl; simp at hl; omega
    | cons a t => rfl
  refine ⟨?_, by unfold Vk; rw [ht]⟩
  unfold wordL
  rw [h1, hne]
  cases hh : ((digsL (bytes s)).head? == some 48 && decide (1 < (bytes s).length)) with
  | false => rfl
  | true =>
    rw [Bool.and_eq_true] at hh
    exact absurd ⟨by simpa using hh.1, by simpa using hh.2⟩ h3
theorem not_word_none (s : ByteArray) (h : s.size = n0 (bytes s)) : parseL (bytes s) = (0, 2) := by
  have hl : (digsL (bytes s)).length = 0 := by rw [digs_len, bytes_len]; omega
  have : wordL (bytes s) = false := by simp [wordL, List.length_eq_zero_iff.1 hl]
  simp [parseL, this]
set_option maxRecDepth 100000 in
set_option maxHeartbeats 2000000 in
theorem parse_any (s : ByteArray) (w : World) (hs : s.size ≤ 9223372036854775807) :
    Calls Tryz.prog 96 #[.string s] w fun e w' => w' = w ∧ e = .returned (.tuple #[.int .i64 (parseL (bytes s)).1, .int .i64 (parseL (bytes s)).2]) := by
  have hn1 : n0 (bytes s) ≤ 1 := by unfold n0; split <;> omega
  go_enter Tryz.func96, Tryz.ntmps96
  go_wp2
  go_loop [4, 5, 6, 7, 13] (fun b d o u i => ∃ k : Nat, k ≤ s.size ∧ i = .int .i64 k ∧ b = .bool (negL (bytes s) && decide (0 < k)) ∧ d = .int .i64 ((k - n0 (bytes s) : Nat) : Int) ∧ o = .bool (decide (18446744073709551616 ≤ Vk (bytes s) k)) ∧ u = .int .u64 ((Vk (bytes s) k % 18446744073709551616 : Nat) : Int) ∧ Hid (Pw (bytes s) k)) (fun _ _ _ _ i => match i with | .int _ m => s.size - m.toNat | _ => 0)
  case atStart => exact ⟨0, Nat.zero_le _, rfl, by simp, by simp, by simp [Vk, valL], by simp [Vk, valL], by simp [Hid, Pw]⟩
  case round =>
    obtain ⟨k, hk, rfl, rfl, rfl, rfl, rfl, hp⟩ := hrel
    by_cases hlt : k < s.size
    · by_cases hA : k = 0 ∧ negL (bytes s) = true
      · obtain ⟨rfl, hneg⟩ := hA
        have h45 : (s[0].toNat : Int) = 45 := by
          have := neg_first s hlt
          rw [hneg] at this
          have := eq_of_beq this.symm
          rw [this]; rfl
        have hN : Hid (n0 (bytes s) = 1) := Lib.hid (by unfold n0; rw [if_pos hneg])
        have HNEG := Lib.hid hneg
        clear hneg
        go_wp2
        have hV : Vk (bytes s) 1 = Vk (bytes s) 0 := by unfold Vk; rw [hN.out]
        have hP : Pw (bytes s) 1 := by have := hp.out; unfold Pw at this ⊢; rw [hN.out] at this ⊢; exact this
        exact ⟨⟨1, by omega, rfl, by simp [HNEG.out], by rw [hN.out], by rw [hV], by rw [hV], hP⟩, by simp; omega⟩
      · have hk1 : n0 (bytes s) ≤ k := by
          unfold n0
          split
          · rename_i hn
            rcases Nat.eq_zero_or_pos k with h0 | h0
            · exact absurd ⟨h0, hn⟩ hA
            · exact h0
          · exact Nat.zero_le _
        have hb : (negL (bytes s) && decide (0 < k)) = negL (bytes s) := by
          rcases Nat.eq_zero_or_pos k with h0 | h0
          · cases hn : negL (bytes s) with
            | false => rfl
            | true => exact absurd ⟨h0, hn⟩ hA
          · simp [h0]
        have hb' : Hid ((negL (bytes s) && decide (0 < k + 1)) = negL (bytes s)) := Lib.hid (by simp)
        have h45 : ¬ ((s[k].toNat : Int) = 45 ∧ (k : Int) = 0) := by
          rintro ⟨e1, e2⟩
          have hk0 : k = 0 := by omega
          subst hk0
          refine hA ⟨rfl, ?_⟩
          rw [neg_first s hlt]
          have := u8_eq s[0] 45 (by decide)
          rw [← show UInt8.ofNat 45 = 45 from rfl, ← this]
          simpa using e1
        have hV := Lib.hid (Vk_succ s k hlt hk1)
        have hP := Lib.hid (Pw_succ s k hlt hk1 hp.out)
        have hZ := Lib.hid (not_word_zero s k hlt)
        have hD := Lib.hid (not_word_byte s k hlt hk1)
        have hj1 : Hid (k + 1 - n0 (bytes s) = (k - n0 (bytes s)) + 1) := Lib.hid (by omega)
        obtain ⟨j, hj⟩ : ∃ j, j = k - n0 (bytes s) := ⟨_, rfl⟩
        have hjk : Hid (k = n0 (bytes s) ↔ j = 0) := Lib.hid (by omega)
        have hjs : j ≤ s.size := by omega
        obtain ⟨V, hVd⟩ : ∃ V, V = Vk (bytes s) k := ⟨_, rfl⟩
        have e48 : Hid ((s[k].toNat : Int) = 48 → s[k] = 48) := Lib.hid (fun h => by
          have := u8_eq s[k] 48 (by decide)
          rw [show ((s[k].toNat : Int) == ((48 : Nat) : Int)) = true by simpa using h] at this
          simpa using this.symm)
        have HJ := Lib.hid hj
        have HVd := Lib.hid hVd
        rw [hb, ← hj, ← hVd]
        clear hb hk1 hA hp hj hVd
        by_cases hz : (s[k].toNat : Int) = 48 ∧ j = 0 ∧ 1 < (s.size : Int)
        · obtain ⟨z1, z2, z3⟩ := hz
          clear h45
          go_wp2
          go_ret2
          exact ⟨rfl, by rw [hZ.out (hjk.out.2 z2) (e48.out z1) (by omega)]; rfl⟩
        · by_cases hdg : 48 ≤ (s[k].toNat : Int) ∧ (s[k].toNat : Int) ≤ 57
          · have hcase : ((s[k].toNat : Int) = 48 ∧ 0 < j) ∨ ((s[k].toNat : Int) = 48 ∧ j = 0 ∧ (s.size : Int) ≤ 1) ∨ (49 ≤ (s[k].toNat : Int) ∧ (s[k].toNat : Int) ≤ 57) := by omega
            have hdig : Hid (isDig s[k] = true) := Lib.hid (by simp [isDig]; omega)
            have hz' : Hid (¬ (s[k] = 48 ∧ k - n0 (bytes s) = 0 ∧ 1 < s.size)) := Lib.hid (by
              rintro ⟨a, b, c⟩
              exact hz ⟨by rw [a]; rfl, by have := HJ.out; omega, by omega⟩)
            clear hz h45
            by_cases hov : 18446744073709551616 ≤ V
            · rcases hcase with ⟨z1, z2⟩ | ⟨z1, z2, z3⟩ | ⟨z1, z2⟩
              all_goals
                clear hdg
                go_wp2
                refine ⟨⟨k + 1, by omega, by simp, by rw [hb'.out], ?_, ?_, ?_, hP.out hdig.out hz'.out⟩, by simp; omega⟩
                · have := HJ.out
                  rw [hj1.out, ← this]
                  first | (congr 1; simp [wrap64]; omega) | (congr 1; omega)
                · have := HVd.out
                  rw [hV.out, ← this]
                  congr 1
                  simp
                  omega
                · have := HVd.out
                  rw [hV.out, ← this]
                  congr 1
                  simp only [IntKind.wrap_u64]
                  omega
            · rcases hcase with ⟨z1, z2⟩ | ⟨z1, z2, z3⟩ | ⟨z1, z2⟩
              all_goals
                clear hdg
                go_wp2
                refine ⟨⟨k + 1, by omega, by simp, by rw [hb'.out], ?_, ?_, ?_, hP.out hdig.out hz'.out⟩, by simp; omega⟩
                · have := HJ.out
                  rw [hj1.out, ← this]
                  first | (congr 1; simp [wrap64]; omega) | (congr 1; omega)
                · have := HVd.out
                  rw [hV.out, ← this]
                  congr 1
                  simp
                  omega
                · have := HVd.out
                  rw [hV.out, ← this]
                  congr 1
                  simp only [IntKind.wrap_u64]
                  omega
          · clear hz
            have hnd : Hid (parseL (bytes s) = (0, 2)) := Lib.hid (hD.out (by simp [isDig]; omega))
            by_cases h1 : (s[k].toNat : Int) = 45
            · have hk0 : ¬ (k : Int) = 0 := fun h => h45 ⟨h1, h⟩
              clear h45
              go_wp2
              go_ret2
              exact ⟨rfl, by rw [hnd.out]; rfl⟩
            · by_cases h2 : (s[k].toNat : Int) < 48
              · clear h45 hdg
                go_wp2
                go_ret2
                exact ⟨rfl, by rw [hnd.out]; rfl⟩
              · have h3 : 57 < (s[k].toNat : Int) := by omega
                clear h45 hdg
                go_wp2
                go_ret2
                exact ⟨rfl, by rw [hnd.out]; rfl⟩
    · obtain rfl : k = s.size := by omega
      have hW := Lib.hid (word_full s hp.out)
      have hN := Lib.hid (not_word_none s)
      have hneg : Hid ((negL (bytes s) && decide (0 < s.size)) = negL (bytes s)) := Lib.hid (by
        rcases Nat.eq_zero_or_pos s.size with h0 | h0
        · cases hn : negL (bytes s) with
          | false => rfl
          | true =>
            have := bytes_len s
            rw [h0] at this
            rw [List.length_eq_zero_iff.1 this] at hn
            cases hn
        · simp [h0])
      rw [hneg.out]
      obtain ⟨j, hj⟩ : ∃ j, j = s.size - n0 (bytes s) := ⟨_, rfl⟩
      have HJ := Lib.hid hj
      obtain ⟨V, hVd⟩ : ∃ V, V = Vk (bytes s) s.size := ⟨_, rfl⟩
      have HVd := Lib.hid hVd
      rw [← hj, ← hVd]
      have hle : Hid (n0 (bytes s) ≤ s.size) := Lib.hid (by
        unfold n0
        split
        · rename_i hn
          have := bytes_len s
          cases hc : bytes s with
          | nil => rw [hc] at hn; cases hn
          | cons a t => rw [hc] at this; simp at this; omega
        · exact Nat.zero_le _)
      clear hp hj hVd
      by_cases hj0 : j = 0
      · go_wp2
        go_ret2
        have := HJ.out
        have := hle.out
        exact ⟨rfl, by rw [hN.out (by omega)]; rfl⟩
      · have hw : Hid (wordL (bytes s) = true ∧ V = valL (digsL (bytes s))) := Lib.hid (by
          have h1 := HJ.out
          obtain ⟨a, b⟩ := hW.out (by omega)
          exact ⟨a, HVd.out.trans b⟩)
        have hj1 : ((j : Int) == 0) = false := by simp; omega
        have hP : Hid (parseL (bytes s) = sgnN V (negL (bytes s))) := Lib.hid (by
          have h1 := hw.out
          unfold parseL
          rw [if_pos h1.1, h1.2])
        by_cases hov : 18446744073709551616 ≤ V
        · go_wp2
          go_ret2
          refine ⟨rfl, ?_⟩
          have e : sgnN V (negL (bytes s)) = (0, 4) := by
            unfold sgnN
            split
            · rw [if_pos (by omega)]
            · rw [if_pos (by omega)]
          rw [hP.out, e]
          rfl
        · have hV : V % 18446744073709551616 = V := Nat.mod_eq_of_lt (by omega)
          rw [hV]
          clear hV
          go_wp2_with fail
          refine (signed_any V _ (by omega) w).mono ?_
          rintro e w' ⟨hw', rfl⟩
          have hw'' := hw'.symm
          subst hw''
          go_wp2
          go_ret2
          exact ⟨rfl, by rw [hP.out]; rfl⟩
end Go.Proofs.YtfcegalckjeafaaGreatDoor
namespace Go.Proofs.YtfcegalckjeafaaGreatDoor
open Go.RowKit Go.BigFrame
/-- The decimal digits of a number. -/
def ndig (n : Nat) : List UInt8 := if n < 10 then [UInt8.ofNat (48 + n)] else ndig (n / 10) ++ [UInt8.ofNat (48 + n % 10)]
termination_by n
decreasing_by omega
theorem ndig_lt (n : Nat) (h : n < 10) : ndig n = [UInt8.ofNat (48 + n)] := by rw [ndig, if_pos h]
theorem ndig_ge (n : Nat) (h : ¬ n < 10) : ndig n = ndig (n / 10) ++ [UInt8.ofNat (48 + n % 10)] := by rw [ndig, if_neg h]
theorem ndig_pos (n : Nat) : 0 < (ndig n).length := by
  by_cases h : n < 10
  · rw [ndig_lt n h]; simp
  · rw [ndig_ge n h]; simp
theorem ndig_len : ∀ (k n : Nat), n < 10 ^ (k + 1) → (ndig n).length ≤ k + 1
  | 0, n, h => by rw [ndig_lt n (by simpa using h)]; simp
  | k + 1, n, h => by
    by_cases h10 : n < 10
    · rw [ndig_lt n h10]; simp
    · rw [ndig_ge n h10]
      have := ndig_len k (n / 10) (Nat.div_lt_of_lt_mul (by rw [Nat.pow_succ] at h; omega))
      simp
      omega
theorem dig_lt {n : Nat} (h : n < 10) : (UInt8.ofNat (48 + n)).toNat = 48 + n := by
  rw [UInt8.toNat_ofNat']
  exact Nat.mod_eq_of_lt (by omega)
theorem ndig_dig : ∀ (k n : Nat), n ≤ k → ∀ b ∈ ndig n, 48 ≤ b.toNat ∧ b.toNat ≤ 57
  | k, n, hk, b, hb => by
    by_cases h10 : n < 10
    · rw [ndig_lt n h10] at hb
      rw [List.mem_singleton] at hb
      subst hb
      rw [dig_lt h10]
      omega
    · rw [ndig_ge n h10] at hb
      cases k with
      | zero => omega
      | succ k =>
        rcases List.mem_append.1 hb with hb | hb
        · exact ndig_dig k (n / 10) (by omega) b hb
        · rw [List.mem_singleton] at hb
          subst hb
          rw [dig_lt (Nat.mod_lt _ (by omega))]
          have := Nat.mod_lt n (show 0 < 10 by omega)
          omega
/-- .. with its sign. -/
def decL (n : Int) : List UInt8 := if n < 0 then 45 :: ndig n.natAbs else ndig n.natAbs
theorem decL_len (n : Int) (h1 : -9223372036854775808 ≤ n) (h2 : n ≤ 9223372036854775807) : (decL n).length ≤ 20 := by
  have := ndig_len 18 n.natAbs (by have : (10:Nat)^(18+1) = 10000000000000000000 := by decide
                                   omega)
  unfold decL
  split <;> simp <;> omega
theorem neg_wrap (n : Int) (h1 : -9223372036854775808 ≤ n) (h : n < 0) : IntKind.u64.wrap (-IntKind.u64.wrap n) = (n.natAbs : Int) := by
  simp only [IntKind.wrap, IntKind.signed, IntKind.bits]
  simp
  omega
set_option maxRecDepth 100000 in
set_option maxHeartbeats 1000000 in
theorem size_any (n : Int) (w : World) (h1 : -9223372036854775808 ≤ n) (h2 : n ≤ 9223372036854775807) :
    Calls Tryz.prog 98 #[.int .i64 n] w fun e w' => e = .returned (.int .u64 n.natAbs) ∧ w' = w := by
  by_cases hn : n < 0
  · go_enter Tryz.func98, Tryz.ntmps98
    go_wp2
    go_ret
    refine ⟨?_, rfl⟩
    show Ending.returned (.int .u64 (IntKind.u64.wrap (-IntKind.u64.wrap n))) = _
    rw [neg_wrap n h1 hn]
  · go_enter Tryz.func98, Tryz.ntmps98
    go_wp2
    go_ret
    refine ⟨?_, rfl⟩
    show Ending.returned (.int .u64 n) = _
    rw [show (n.natAbs : Int) = n by omega]
theorem bv_dig {n : Nat} (h : n < 10) : bv (UInt8.ofNat (48 + n)) = .int .u8 ((48 : Int) + n) := by
  unfold bv
  rw [dig_lt h]
  rfl
theorem cat_bytes (x y : List UInt8) (w : World) (hx : x.length ≤ 67108864) (hy : y.length ≤ 67108864) : (Op.stringOp .add ⟨x.toArray⟩ ⟨y.toArray⟩).run Tryz.prog w = .ok (.string ⟨(x ++ y).toArray⟩) w := add_bytes x y w hx hy
end Go.Proofs.YtfcegalckjeafaaGreatDoor
