/-
  The document's Parse: the same number.
-/
import Derived.Test.YtlhekohecbiljaaDoorPtNum
import Derived.Deep.DeepCutAuto
import Derived.Deep.CutRange
namespace Go.Proofs.YtlhekohecbiljaaDoor
open Go.RowKit Go.BigFrame

theorem valL_append_le (l m : List UInt8) : valL l ≤ valL (l ++ m) := by
  have : ∀ (m : List UInt8) (a : Nat), a ≤ m.foldl (fun a b => 10 * a + (b.toNat - 48)) a := by
    intro m
    induction m with
    | nil => intro a; exact Nat.le_refl _
    | cons b t ih => intro a; exact Nat.le_trans (show a ≤ 10 * a + (b.toNat - 48) by omega) (ih _)
  unfold valL
  rw [List.foldl_append]
  exact this m _
theorem Vk_le (l : List UInt8) (k : Nat) : Vk l k ≤ valL (digsL l) := by
  unfold Vk
  conv => rhs; rw [← List.take_append_drop (k - n0 l) (digsL l)]
  exact valL_append_le _ _

set_option maxRecDepth 100000 in
set_option maxHeartbeats 2000000 in
theorem word_any (s : ByteArray) (w : World) (hs : s.size ≤ 9223372036854775807) :
    Calls Tryd.prog 39 #[.string s] w fun e w' => e = .returned (.bool (wordL (bytes s))) ∧ w' = w := by
  have hn1 : n0 (bytes s) ≤ 1 := by unfold n0; split <;> omega
  obtain ⟨n, hn⟩ : ∃ n, n = n0 (bytes s) := ⟨_, rfl⟩
  have HN := Lib.hid hn
  have hle : Hid (n0 (bytes s) ≤ s.size) := Lib.hid (by
    unfold n0
    split
    · rename_i hn
      have := bytes_len s
      cases hc : bytes s with
      | nil => rw [hc] at hn; cases hn
      | cons a t => rw [hc] at this; simp at this; omega
    · exact Nat.zero_le _)
  have hns : n ≤ s.size := by have := hle.out; omega
  have hnn : n ≤ 1 := by omega
  -- the first test: is there a sign?
  have hneg : Hid ((0 < (s.size : Int) ∧ ∀ h : 0 < s.size, (s[0].toNat : Int) = 45) ∧ n = 1 ∨ (¬ (0 < (s.size : Int)) ∧ n = 0) ∨ (0 < (s.size : Int) ∧ (∀ h : 0 < s.size, ¬ (s[0].toNat : Int) = 45) ∧ n = 0)) := Lib.hid (by
    rcases Nat.eq_zero_or_pos s.size with h0 | h0
    · exact .inr (.inl ⟨by omega, by have := hle.out; omega⟩)
    · have h1 := neg_first s h0
      have h2 := u8_eq s[0] 45 (by decide)
      cases hc : negL (bytes s) with
      | true =>
        rw [hc] at h1
        refine .inl ⟨⟨by omega, fun _ => ?_⟩, by rw [hn, n0, if_pos hc]⟩
        rw [show (s[0] == UInt8.ofNat 45) = true from h1.symm] at h2
        simpa using h2
      | false =>
        rw [hc] at h1
        refine .inr (.inr ⟨by omega, fun _ => ?_, by rw [hn, n0, if_neg (by rw [hc]; simp)]⟩)
        rw [show (s[0] == UInt8.ofNat 45) = false from h1.symm] at h2
        simpa using h2)
  have hdl : Hid ((digsL (bytes s)).length = s.size - n) := Lib.hid (by rw [digs_len, bytes_len, hn])
  have hat : Hid (∀ k (h : k < s.size), n ≤ k → (digsL (bytes s))[k - n]? = some s[k]) := Lib.hid (fun k h hk => by rw [hn] at hk ⊢; exact digs_at s k h hk)
  clear hn hn1 hle HN
  have main : ∀ (hsz : n < s.size), ¬ ((s[n].toNat : Int) = 48 ∧ 1 < (s.size : Int)) → wordL (bytes s) = (digsL (bytes s)).all isDig := fun hsz hz => by
    have h1 := hat.out n hsz (Nat.le_refl _)
    rw [Nat.sub_self, ← List.head?_eq_getElem?] at h1
    have h2 : (digsL (bytes s)).isEmpty = false := by
      cases hc : digsL (bytes s) with
      | nil => rw [hc] at h1; simp at h1
      | cons a t => rfl
    unfold wordL
    rw [h1, h2, bytes_len]
    have h3 := u8_eq s[n] 48 (by decide)
    have h4 : (some s[n] == some (48 : UInt8) && decide (1 < s.size)) = false := by
      rw [show (some s[n] == some (48 : UInt8)) = (s[n] == UInt8.ofNat 48) from rfl, ← h3]
      cases hx : ((s[n].toNat : Int) == ((48 : Nat) : Int)) with
      | false => rfl
      | true =>
        have h5 : ¬ (1 < (s.size : Int)) := fun h => hz ⟨by simpa using hx, h⟩
        simp
        omega
    rw [h4]
    simp
  have MAIN := Lib.hid main
  clear main
  go_enter Tryd.func39, Tryd.ntmps39
  go_upto_region 2 with fail
  go_cut [12] from 5 to 12 (fun c wx => c = .bool (decide (n = 1)) ∧ wx = w)
  case first =>
    rcases hneg.out with ⟨⟨a, b⟩, c⟩ | ⟨a, c⟩ | ⟨a, b, c⟩
    · subst c
      have h0 : 0 < s.size := by omega
      have b' := b h0
      clear hneg b
      go_wp2
      go_meet
      exact ⟨rfl, rfl⟩
    · subst c
      clear hneg
      go_wp2
      go_meet
      exact ⟨rfl, rfl⟩
    · subst c
      have h0 : 0 < s.size := by omega
      have b' := b h0
      clear hneg b
      go_wp2
      go_meet
      exact ⟨by simp [b'], rfl⟩
  case rest =>
    obtain ⟨rfl, hw⟩ := hcut
    subst hw
    clear hneg
    go_upto_if 12 with fail
    go_cut [3] from 3 to 3 (fun s3 wx => s3 = .int .i64 n ∧ wx = wc)
    case first =>
      by_cases h1 : n = 1
      · go_wp2
        go_meet
        exact ⟨by rw [h1]; rfl, rfl⟩
      · have h0 : n = 0 := by omega
        go_wp2
        go_meet
        exact ⟨by rw [h0]; rfl, rfl⟩
    case rest =>
      obtain ⟨rfl, hw⟩ := hcut
      subst hw
      by_cases hsz : n < s.size
      · have hE : ((n : Int) == (s.size : Int)) = false := by simp; omega
        by_cases hz : (s[n].toNat : Int) = 48 ∧ 1 < (s.size : Int)
        · obtain ⟨z1, z2⟩ := hz
          have e48 : s[n] = 48 := by
            have := u8_eq s[n] 48 (by decide)
            rw [show ((s[n].toNat : Int) == ((48 : Nat) : Int)) = true by simpa using z1] at this
            simpa using this.symm
          have hW : Hid (wordL (bytes s) = false) := Lib.hid (by
            have h1 := hat.out n hsz (Nat.le_refl _)
            rw [Nat.sub_self, ← List.head?_eq_getElem?, e48] at h1
            have h3 : 1 < s.size := by omega
            unfold wordL
            rw [h1, bytes_len]
            simp [h3])
          clear e48
          go_wp2
          go_ret
          exact ⟨by rw [hW.out]; rfl, rfl⟩
        · have hW : Hid (wordL (bytes s) = (digsL (bytes s)).all isDig) := Lib.hid (MAIN.out hsz hz)
          clear MAIN
          have hz' : ¬ (s[n].toNat : Int) = 48 ∨ ((s[n].toNat : Int) = 48 ∧ ¬ 1 < (s.size : Int)) := by
            by_cases h : (s[n].toNat : Int) = 48
            · exact .inr ⟨h, fun h' => hz ⟨h, h'⟩⟩
            · exact .inl h
          clear hz
          rcases hz' with z | ⟨z, z2⟩
          all_goals
            go_wp2
            go_loop [4] (fun i => ∃ k : Nat, n ≤ k ∧ k ≤ s.size ∧ i = .int .i64 k ∧ Hid (((digsL (bytes s)).take (k - n)).all isDig = true)) (fun i => match i with | .int _ m => s.size - m.toNat | _ => 0)
            case atStart => exact ⟨n, Nat.le_refl _, hns, rfl, by simp [Hid]⟩
            case round =>
              obtain ⟨k, hnk, hk, rfl, hp⟩ := hrel
              by_cases hlt : k < s.size
              · have hb := Lib.hid (hat.out k hlt hnk)
                by_cases h1 : (s[k].toNat : Int) < 48
                · have hno : Hid ((digsL (bytes s)).all isDig = false) := Lib.hid (by
                    have hm := List.mem_of_getElem? hb.out
                    rw [Bool.eq_false_iff]
                    intro ha
                    have := List.all_eq_true.1 ha _ hm
                    simp [isDig] at this
                    omega)
                  go_wp2
                  go_ret
                  exact ⟨by rw [hW.out, hno.out]; rfl, rfl⟩
                · by_cases h2 : 57 < (s[k].toNat : Int)
                  · have hno : Hid ((digsL (bytes s)).all isDig = false) := Lib.hid (by
                      have hm := List.mem_of_getElem? hb.out
                      rw [Bool.eq_false_iff]
                      intro ha
                      have := List.all_eq_true.1 ha _ hm
                      simp [isDig] at this
                      omega)
                    go_wp2
                    go_ret
                    exact ⟨by rw [hW.out, hno.out]; rfl, rfl⟩
                  · go_wp2
                    refine ⟨⟨k + 1, by omega, by omega, by simp, ?_⟩, by simp; omega⟩
                    show ((digsL (bytes s)).take (k + 1 - n)).all isDig = true
                    rw [show k + 1 - n = (k - n) + 1 by omega, List.take_add_one, hb.out]
                    simp [hp.out, isDig]
                    omega
              · have hke : Hid (k = s.size) := Lib.hid (by omega)
                go_wp2
                go_ret
                refine ⟨?_, rfl⟩
                have h1 := hp.out
                rw [hke.out, ← hdl.out, List.take_length] at h1
                rw [hW.out, h1]
                rfl
      · have hE : n = s.size := by omega
        have hW : Hid (wordL (bytes s) = false) := Lib.hid (by
          have := hdl.out
          rw [show s.size - n = 0 by omega] at this
          unfold wordL
          rw [List.length_eq_zero_iff.1 this]
          rfl)
        go_wp2
        go_ret
        exact ⟨by rw [hW.out]; rfl, rfl⟩

theorem parse_over {l : List UInt8} (hw : wordL l = true) (h : 9223372036854775808 < valL (digsL l)) : parseL l = (0, 4) := by
  unfold parseL sgnN
  have h' : 9223372036854775808 ≤ valL (digsL l) := by omega
  simp [hw, h, h']
theorem tdiv10 (e : Int) (h0 : 0 ≤ e) (h9 : e ≤ 9) : (-9223372036854775808 + e).tdiv 10 = -((9223372036854775808 - e) / 10) := by
  have : e = 0 ∨ e = 1 ∨ e = 2 ∨ e = 3 ∨ e = 4 ∨ e = 5 ∨ e = 6 ∨ e = 7 ∨ e = 8 ∨ e = 9 := by omega
  rcases this with h | h | h | h | h | h | h | h | h | h <;> subst h <;> decide

set_option maxRecDepth 100000 in
set_option maxHeartbeats 2000000 in
theorem refParse_any (s : ByteArray) (w : World) (hs : s.size ≤ 9223372036854775807) :
    Calls Tryd.prog 29 #[.string s] w fun e w' => w' = w ∧ e = .returned (.tuple #[.int .i64 (parseL (bytes s)).1, .int .i64 (parseL (bytes s)).2]) := by
  go_enter Tryd.func29, Tryd.ntmps29
  go_wp2_with fail
  refine (word_any s w hs).mono ?_
  rintro e w1 ⟨rfl, hw1⟩
  have hw1' := hw1.symm
  subst hw1'
  by_cases hW : wordL (bytes s) = true
  · rw [hW]
    have HW := Lib.hid hW
    have hpos : n0 (bytes s) < s.size := by
      rcases Nat.lt_or_ge (n0 (bytes s)) s.size with h | h
      · exact h
      · have hl : (digsL (bytes s)).length = 0 := by rw [digs_len, bytes_len]; omega
        have : wordL (bytes s) = false := by simp [wordL, List.length_eq_zero_iff.1 hl]
        rw [this] at hW
        cases hW
    have h0 : 0 < s.size := by omega
    have hdig : Hid (∀ k (h : k < s.size), n0 (bytes s) ≤ k → isDig s[k] = true) := Lib.hid (fun k h hk => by
      have hm : s[k] ∈ digsL (bytes s) := List.mem_of_getElem? (digs_at s k h hk)
      have : (digsL (bytes s)).all isDig = true := by
        unfold wordL at hW
        rw [Bool.and_eq_true] at hW
        exact hW.2
      exact List.all_eq_true.1 this _ hm)
    have HP := Lib.hid hpos
    clear hW hpos
    go_wp2
    go_loop [4, 12] (fun v i => ∃ k : Nat, k ≤ s.size ∧ i = .int .i64 k ∧ v = .int .i64 (-(Vk (bytes s) k : Int)) ∧ Vk (bytes s) k ≤ 9223372036854775808) (fun _ i => match i with | .int _ m => s.size - m.toNat | _ => 0)
    case atStart => exact ⟨0, Nat.zero_le _, rfl, by simp [Vk, valL], by simp [Vk, valL]⟩
    case round =>
      obtain ⟨k, hk, rfl, rfl, hV⟩ := hrel
      by_cases hlt : k < s.size
      · by_cases hA : k = 0 ∧ negL (bytes s) = true
        · obtain ⟨rfl, hneg⟩ := hA
          have h45 : (s[0].toNat : Int) = 45 := by
            have := neg_first s hlt
            rw [hneg] at this
            have := eq_of_beq this.symm
            rw [this]; rfl
          have hN : Hid (n0 (bytes s) = 1) := Lib.hid (by unfold n0; rw [if_pos hneg])
          clear hneg
          go_wp2
          have hV1 : Vk (bytes s) 1 = Vk (bytes s) 0 := by unfold Vk; rw [hN.out]
          exact ⟨⟨1, by omega, rfl, by rw [hV1], by rw [hV1]; exact hV⟩, by simp; omega⟩
        · have hk1 : n0 (bytes s) ≤ k := by
            unfold n0
            split
            · rename_i hn
              rcases Nat.eq_zero_or_pos k with h0 | h0
              · exact absurd ⟨h0, hn⟩ hA
              · exact h0
            · exact Nat.zero_le _
          have hd := hdig.out k hlt hk1
          have h48 : 48 ≤ (s[k].toNat : Int) := by simp [isDig] at hd; omega
          have h57 : (s[k].toNat : Int) ≤ 57 := by simp [isDig] at hd; omega
          have h45 : ((s[k].toNat : Int) == 45) = false := by simp; omega
          have hVs := Lib.hid (Vk_succ s k hlt hk1)
          have hVl := Lib.hid (Vk_le (bytes s) (k + 1))
          clear hd hA hk1
          obtain ⟨V, hVd⟩ : ∃ V, V = Vk (bytes s) k := ⟨_, rfl⟩
          have HVd := Lib.hid hVd
          rw [← hVd] at hV ⊢
          clear hVd
          have hq := tdiv10 ((s[k].toNat : Int) - 48) (by omega) (by omega)
          by_cases hov : 9223372036854775808 < 10 * V + (s[k].toNat - 48)
          · have hl : -(V : Int) < (-9223372036854775808 + ((s[k].toNat : Int) - 48)).tdiv 10 := by rw [hq]; omega
            clear hq
            go_wp2
            go_ret2
            refine ⟨rfl, ?_⟩
            have h1 := hVs.out
            have h2 := hVl.out
            have h3 := HVd.out
            rw [parse_over HW.out (by omega)]
            rfl
          · have hl : ¬ -(V : Int) < (-9223372036854775808 + ((s[k].toNat : Int) - 48)).tdiv 10 := by rw [hq]; omega
            clear hq
            go_wp2
            have h1 := hVs.out
            have h3 := HVd.out
            have e : 10 * -(V : Int) - ((s[k].toNat : Int) - 48) = -(Vk (bytes s) (k + 1) : Int) := by omega
            exact ⟨⟨k + 1, by omega, by simp, by rw [e], by omega⟩, by simp; omega⟩
      · have hke : Hid (k = s.size) := Lib.hid (by omega)
        have hfull : Hid (Vk (bytes s) k = valL (digsL (bytes s))) := Lib.hid (by
          have hl : (digsL (bytes s)).length = s.size - n0 (bytes s) := by rw [digs_len, bytes_len]
          unfold Vk
          rw [hke.out, ← hl, List.take_length])
        have hneg := Lib.hid (neg_first s h0)
        obtain ⟨V, hVd⟩ : ∃ V, V = Vk (bytes s) k := ⟨_, rfl⟩
        have HVd := Lib.hid hVd
        rw [← hVd] at hV ⊢
        clear hVd
        have hP : Hid (parseL (bytes s) = sgnN V (negL (bytes s))) := Lib.hid (by
          unfold parseL
          rw [if_pos HW.out, ← hfull.out, ← HVd.out])
        by_cases h45 : (s[0].toNat : Int) = 45
        · have hn : Hid (negL (bytes s) = true) := Lib.hid (by
            have := u8_eq s[0] 45 (by decide)
            rw [show ((s[0].toNat : Int) == ((45 : Nat) : Int)) = true by simpa using h45] at this
            rw [hneg.out]
            exact this.symm)
          go_wp2
          go_ret2
          refine ⟨rfl, ?_⟩
          have e : sgnN V true = (-(V : Int), 0) := by unfold sgnN; simp; omega
          rw [hP.out, hn.out, e]
          rfl
        · have hn : Hid (negL (bytes s) = false) := Lib.hid (by
            have := u8_eq s[0] 45 (by decide)
            rw [show ((s[0].toNat : Int) == ((45 : Nat) : Int)) = false by simpa using h45] at this
            rw [hneg.out]
            exact this.symm)
          by_cases hL : -(V : Int) = -9223372036854775808
          · go_wp2
            go_ret2
            refine ⟨rfl, ?_⟩
            have e : sgnN V false = (0, 4) := by unfold sgnN; simp; omega
            rw [hP.out, hn.out, e]
            rfl
          · have h45' : ((s[0].toNat : Int) == 45) = false := by simpa using h45
            have hL' : (-(V : Int) == -9223372036854775808) = false := by simpa using hL
            go_wp2
            go_ret2
            refine ⟨rfl, ?_⟩
            have e : sgnN V false = ((V : Int), 0) := by unfold sgnN; simp; omega
            rw [hP.out, hn.out, e]
            rfl
  · have hW' : wordL (bytes s) = false := by simpa using hW
    rw [hW']
    have HW := Lib.hid hW'
    clear hW hW'
    go_wp2
    go_ret2
    exact ⟨rfl, by unfold parseL; rw [HW.out]; rfl⟩
end Go.Proofs.YtlhekohecbiljaaDoor
