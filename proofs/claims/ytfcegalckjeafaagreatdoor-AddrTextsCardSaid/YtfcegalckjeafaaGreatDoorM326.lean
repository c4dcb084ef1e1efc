/-
  Parts of the proof that AddrBegins,AddrTexts calls on: QtNum2, Tu, Tv.
-/
import Derived.Deep.CutRange
import Derived.Deep.DeepCutAuto
import Derived.Test.YtfcegalckjeafaaGreatDoorM303
import Derived.Test.YtfcegalckjeafaaGreatDoorM316
import Derived.Test.YtfcegalckjeafaaGreatDoorM317
import Derived.Test.YtfcegalckjeafaaGreatDoorM325
namespace Go.Proofs.YtfcegalckjeafaaGreatDoor
open Go.RowKit Go.BigFrame
theorem valL_append_le (l m : List UInt8) : valL l ≤ valL (l ++ m) := by
  have : ∀ (m : List UInt8) (a : Nat), a ≤ m.foldl (fun a b => 10 * a + (b.toNat - 48)) a := by
    intro m
    induction m with
    | nil => intro a; exact Nat.le_refl _
    | cons b t ih => intro a; exact Nat.le_trans (show a ≤ 10 * a + (b.toNat - 48) by omega) (ih _)
  unfold valL
  rw [List.foldl_append]
  exact this m _
theorem Vk_le (l : List UInt8) (k : Nat) : Vk l k ≤ valL (digsL l) := by
  unfold Vk
  conv => rhs; rw [← List.take_append_drop (k - n0 l) (digsL l)]
  exact valL_append_le _ _
set_option maxRecDepth 100000 in
set_option maxHeartbeats 2000000 in
theorem nword_any (s : ByteArray) (w : World) (hs : s.size ≤ 9223372036854775807) :
    Calls Tryz.prog 217 #[.string s] w fun e w' => e = .returned (.bool (wordL (bytes s))) ∧ w' = w := by
  have hn1 : n0 (bytes s) ≤ 1 := by unfold n0; split <;> omega
  obtain ⟨n, hn⟩ : ∃ n, n = n0 (bytes s) := ⟨_, rfl⟩
  have HN := Lib.hid hn
  have hle : Hid (n0 (bytes s) ≤ s.size) := Lib.hid (by
    unfold n0
    split
    · rename_i hn
      have := bytes_len s
      cases hc : bytes s with
      | nil => rw [hc] at hn; cases hn
      | cons a t => rw [hc] at this; simp at this; omega
    · exact Nat.zero_le _)
  have hns : n ≤ s.size := by have := hle.out; omega
  have hnn : n ≤ 1 := by omega
  -- the first test: is there a sign?
  have hneg : Hid ((0 < (s.size : Int) ∧ ∀ h : 0 < s.size, (s[0].toNat : Int) = 45) ∧ n = 1 ∨ (¬ (0 < (s.size : Int)) ∧ n = 0) ∨ (0 < (s.size : Int) ∧ (∀ h : 0 < s.size, ¬ (s[0].toNat : Int) = 45) ∧ n = 0)) := Lib.hid (by
    rcases Nat.eq_zero_or_pos s.size with h0 | h0
    · exact .inr (.inl ⟨by omega, by have := hle.out; omega⟩)
    · have h1 := neg_first s h0
      have h2 := u8_eq s[0] 45 (by decide)
      cases hc : negL (bytes s) with
      | true =>
        rw [hc] at h1
        refine .inl ⟨⟨by omega, fun _ => ?_⟩, by rw [hn, n0, if_pos hc]⟩
        rw [show (s[0] == UInt8.ofNat 45) = true from h1.symm] at h2
        simpa using h2
      | false =>
        rw [hc] at h1
        refine .inr (.inr ⟨by omega, fun _ => ?_, by rw [hn, n0, if_neg (by rw [hc]; simp)]⟩)
        rw [show (s[0] == UInt8.ofNat 45) = false from h1.symm] at h2
        simpa using h2)
  have hdl : Hid ((digsL (bytes s)).length = s.size - n) := Lib.hid (by rw [digs_len, bytes_len, hn])
  have hat : Hid (∀ k (h : k < s.size), n ≤ k → (digsL (bytes s))[k - n]? = some s[k]) := Lib.hid (fun k h hk => by rw [hn] at hk ⊢; exact digs_at s k h hk)
  clear hn hn1 hle HN
  have main : ∀ (hsz : n < s.size), ¬ ((s[n].toNat : Int) = 48 ∧ 1 < (s.size : Int)) → wordL (bytes s) = (digsL (bytes s)).all isDig := fun hsz hz => by
    have h1 := hat.out n hsz (Nat.le_refl _)
    rw [Nat.sub_self, ← List.head?_eq_getElem?] at h1
    have h2 : (digsL (bytes s)).isEmpty = false := by
      cases hc : digsL (bytes s) with
      | nil => rw [hc] at h1; simp at h1
      | cons a t => rfl
    unfold wordL
    rw [h1, h2, bytes_len]
    have h3 := u8_eq s[n] 48 (by decide)
    have h4 : (some s[n] == some (48 : UInt8) && decide (1 < s.size)) = false := by
      rw [show (some s[n] == some (48 : UInt8)) = (s[n] == UInt8.ofNat 48) from rfl, ← h3]
      cases hx : ((s[n].toNat : Int) == ((48 : Nat) : Int)) with
      | false => rfl
      | true =>
        have h5 : ¬ (1 < (s.size : Int)) := fun h => hz ⟨by simpa using hx, h⟩
        simp
        omega
    rw [h4]
    simp
  have MAIN := Lib.hid main
  clear main
  go_enter Tryz.func217, Tryz.ntmps217
  go_upto_region 2 with fail
  go_cut [12] from 5 to 12 (fun c wx => c = .bool (decide (n = 1)) ∧ wx = w)
  case first =>
    rcases hneg.out with ⟨⟨a, b⟩, c⟩ | ⟨a, c⟩ | ⟨a, b, c⟩
    · subst c
      have h0 : 0 < s.size := by omega
      have b' := b h0
      clear hneg b
      go_wp2
      go_meet
      exact ⟨rfl, rfl⟩
    · subst c
      clear hneg
      go_wp2
      go_meet
      exact ⟨rfl, rfl⟩
    · subst c
      have h0 : 0 < s.size := by omega
      have b' := b h0
      clear hneg b
      go_wp2
      go_meet
      exact ⟨by simp [b'], rfl⟩
  case rest =>
    obtain ⟨rfl, hw⟩ := hcut
    subst hw
    clear hneg
    go_upto_if 12 with fail
    go_cut [3] from 3 to 3 (fun s3 wx => s3 = .int .i64 n ∧ wx = wc)
    case first =>
      by_cases h1 : n = 1
      · go_wp2
        go_meet
        exact ⟨by rw [h1]; rfl, rfl⟩
      · have h0 : n = 0 := by omega
        go_wp2
        go_meet
        exact ⟨by rw [h0]; rfl, rfl⟩
    case rest =>
      obtain ⟨rfl, hw⟩ := hcut
      subst hw
      by_cases hsz : n < s.size
      · have hE : ((n : Int) == (s.size : Int)) = false := by simp; omega
        by_cases hz : (s[n].toNat : Int) = 48 ∧ 1 < (s.size : Int)
        · obtain ⟨z1, z2⟩ := hz
          have e48 : s[n] = 48 := by
            have := u8_eq s[n] 48 (by decide)
            rw [show ((s[n].toNat : Int) == ((48 : Nat) : Int)) = true by simpa using z1] at this
            simpa using this.symm
          have hW : Hid (wordL (bytes s) = false) := Lib.hid (by
            have h1 := hat.out n hsz (Nat.le_refl _)
            rw [Nat.sub_self, ← List.head?_eq_getElem?, e48] at h1
            have h3 : 1 < s.size := by omega
            unfold wordL
            rw [h1, bytes_len]
            simp [h3])
          clear e48
          go_wp2
          go_ret
          exact ⟨by rw [hW.out]; rfl, rfl⟩
        · have hW : Hid (wordL (bytes s) = (digsL (bytes s)).all isDig) := Lib.hid (MAIN.out hsz hz)
          clear MAIN
          have hz' : ¬ (s[n].toNat : Int) = 48 ∨ ((s[n].toNat : Int) = 48 ∧ ¬ 1 < (s.size : Int)) := by
            by_cases h : (s[n].toNat : Int) = 48
            · exact .inr ⟨h, fun h' => hz ⟨h, h'⟩⟩
            · exact .inl h
          clear hz
          rcases hz' with z | ⟨z, z2⟩
          all_goals
            go_wp2
            go_loop [4] (fun i => ∃ k : Nat, n ≤ k ∧ k ≤ s.size ∧ i = .int .i64 k ∧ Hid (((digsL (bytes s)).take (k - n)).all isDig = true)) (fun i => match i with | .int _ m => s.size - m.toNat | _ => 0)
            case atStart => exact ⟨n, Nat.le_refl _, hns, rfl, by simp [Hid]⟩
            case round =>
              obtain ⟨k, hnk, hk, rfl, hp⟩ := hrel
              by_cases hlt : k < s.size
              · have hb := Lib.hid (hat.out k hlt hnk)
                by_cases h1 : (s[k].toNat : Int) < 48
                · have hno : Hid ((digsL (bytes s)).all isDig = false) := Lib.hid (by
                    have hm := List.mem_of_getElem? hb.out
                    rw [Bool.eq_false_iff]
                    intro ha
                    have := List.all_eq_true.1 ha _ hm
                    simp [isDig] at this
                    omega)
                  go_wp2
                  go_ret
                  exact ⟨by rw [hW.out, hno.out]; rfl, rfl⟩
                · by_cases h2 : 57 < (s[k].toNat : Int)
                  · have hno : Hid ((digsL (bytes s)).all isDig = false) := Lib.hid (by
                      have hm := List.mem_of_getElem? hb.out
                      rw [Bool.eq_false_iff]
                      intro ha
                      have := List.all_eq_true.1 ha _ hm
                      simp [isDig] at this
                      omega)
                    go_wp2
                    go_ret
                    exact ⟨by rw [hW.out, hno.out]; rfl, rfl⟩
                  · go_wp2
                    refine ⟨⟨k + 1, by omega, by omega, by simp, ?_⟩, by simp; omega⟩
                    show ((digsL (bytes s)).take (k + 1 - n)).all isDig = true
                    rw [show k + 1 - n = (k - n) + 1 by omega, List.take_add_one, hb.out]
                    simp [hp.out, isDig]
                    omega
              · have hke : Hid (k = s.size) := Lib.hid (by omega)
                go_wp2
                go_ret
                refine ⟨?_, rfl⟩
                have h1 := hp.out
                rw [hke.out, ← hdl.out, List.take_length] at h1
                rw [hW.out, h1]
                rfl
      · have hE : n = s.size := by omega
        have hW : Hid (wordL (bytes s) = false) := Lib.hid (by
          have := hdl.out
          rw [show s.size - n = 0 by omega] at this
          unfold wordL
          rw [List.length_eq_zero_iff.1 this]
          rfl)
        go_wp2
        go_ret
        exact ⟨by rw [hW.out]; rfl, rfl⟩
theorem parse_over {l : List UInt8} (hw : wordL l = true) (h : 9223372036854775808 < valL (digsL l)) : parseL l = (0, 4) := by
  unfold parseL sgnN
  have h' : 9223372036854775808 ≤ valL (digsL l) := by omega
  simp [hw, h, h']
theorem tdiv10 (e : Int) (h0 : 0 ≤ e) (h9 : e ≤ 9) : (-9223372036854775808 + e).tdiv 10 = -((9223372036854775808 - e) / 10) := by
  have : e = 0 ∨ e = 1 ∨ e = 2 ∨ e = 3 ∨ e = 4 ∨ e = 5 ∨ e = 6 ∨ e = 7 ∨ e = 8 ∨ e = 9 := by omega
  rcases this with h | h | h | h | h | h | h | h | h | h <;> subst h <;> decide
set_option maxRecDepth 100000 in
set_option maxHeartbeats 2000000 in
theorem refParse_any (s : ByteArray) (w : World) (hs : s.size ≤ 9223372036854775807) :
    Calls Tryz.prog 192 #[.string s] w fun e w' => w' = w ∧ e = .returned (.tuple #[.int .i64 (parseL (bytes s)).1, .int .i64 (parseL (bytes s)).2]) := by
  go_enter Tryz.func192, Tryz.ntmps192
  go_wp2_with fail
  refine (nword_any s w hs).mono ?_
  rintro e w1 ⟨rfl, hw1⟩
  have hw1' := hw1.symm
  subst hw1'
  by_cases hW : wordL (bytes s) = true
  · rw [hW]
    have HW := Lib.hid hW
    have hpos : n0 (bytes s) < s.size := by
      rcases Nat.lt_or_ge (n0 (bytes s)) s.size with h | h
      · exact h
      · have hl : (digsL (bytes s)).length = 0 := by rw [digs_len, bytes_len]; omega
        have : wordL (bytes s) = false := by simp [wordL, List.length_eq_zero_iff.1 hl]
        rw [this] at hW
        cases hW
    have h0 : 0 < s.size := by omega
    have hdig : Hid (∀ k (h : k < s.size), n0 (bytes s) ≤ k → isDig s[k] = true) := Lib.hid (fun k h hk => by
      have hm : s[k] ∈ digsL (bytes s) := List.mem_of_getElem? (digs_at s k h hk)
      have : (digsL (bytes s)).all isDig = true := by
        unfold wordL at hW
        rw [Bool.and_eq_true] at hW
        exact hW.2
      exact List.all_eq_true.1 this _ hm)
    have HP := Lib.hid hpos
    clear hW hpos
    go_wp2
    go_loop [4, 12] (fun v i => ∃ k : Nat, k ≤ s.size ∧ i = .int .i64 k ∧ v = .int .i64 (-(Vk (bytes s) k : Int)) ∧ Vk (bytes s) k ≤ 9223372036854775808) (fun _ i => match i with | .int _ m => s.size - m.toNat | _ => 0)
    case atStart => exact ⟨0, Nat.zero_le _, rfl, by simp [Vk, valL], by simp [Vk, valL]⟩
    case round =>
      obtain ⟨k, hk, rfl, rfl, hV⟩ := hrel
      by_cases hlt : k < s.size
      · by_cases hA : k = 0 ∧ negL (bytes s) = true
        · obtain ⟨rfl, hneg⟩ := hA
          have h45 : (s[0].toNat : Int) = 45 := by
            have := neg_first s hlt
            rw [hneg] at this
            have := eq_of_beq this.symm
            rw [this]; rfl
          have hN : Hid (n0 (bytes s) = 1) := Lib.hid (by unfold n0; rw [if_pos hneg])
          clear hneg
          go_wp2
          have hV1 : Vk (bytes s) 1 = Vk (bytes s) 0 := by unfold Vk; rw [hN.out]
          exact ⟨⟨1, by omega, rfl, by rw [hV1], by rw [hV1]; exact hV⟩, by simp; omega⟩
        · have hk1 : n0 (bytes s) ≤ k := by
            unfold n0
            split
            · rename_i hn
              rcases Nat.eq_zero_or_pos k with h0 | h0
              · exact absurd ⟨h0, hn⟩ hA
              · exact h0
            · exact Nat.zero_le _
          have hd := hdig.out k hlt hk1
          have h48 : 48 ≤ (s[k].toNat : Int) := by simp [isDig] at hd; omega
          have h57 : (s[k].toNat : Int) ≤ 57 := by simp [isDig] at hd; omega
          have h45 : ((s[k].toNat : Int) == 45) = false := by simp; omega
          have hVs := Lib.hid (Vk_succ s k hlt hk1)
          have hVl := Lib.hid (Vk_le (bytes s) (k + 1))
          clear hd hA hk1
          obtain ⟨V, hVd⟩ : ∃ V, V = Vk (bytes s) k := ⟨_, rfl⟩
          have HVd := Lib.hid hVd
          rw [← hVd] at hV ⊢
          clear hVd
          have hq := tdiv10 ((s[k].toNat : Int) - 48) (by omega) (by omega)
          by_cases hov : 9223372036854775808 < 10 * V + (s[k].toNat - 48)
          · have hl : -(V : Int) < (-9223372036854775808 + ((s[k].toNat : Int) - 48)).tdiv 10 := by rw [hq]; omega
            clear hq
            go_wp2
            go_ret2
            refine ⟨rfl, ?_⟩
            have h1 := hVs.out
            have h2 := hVl.out
            have h3 := HVd.out
            rw [parse_over HW.out (by omega)]
            rfl
          · have hl : ¬ -(V : Int) < (-9223372036854775808 + ((s[k].toNat : Int) - 48)).tdiv 10 := by rw [hq]; omega
            clear hq
            go_wp2
            have h1 := hVs.out
            have h3 := HVd.out
            have e : 10 * -(V : Int) - ((s[k].toNat : Int) - 48) = -(Vk (bytes s) (k + 1) : Int) := by omega
            exact ⟨⟨k + 1, by omega, by simp, by rw [e], by omega⟩, by simp; omega⟩
      · have hke : Hid (k = s.size) := Lib.hid (by omega)
        have hfull : Hid (Vk (bytes s) k = valL (digsL (bytes s))) := Lib.hid (by
          have hl : (digsL (bytes s)).length = s.size - n0 (bytes s) := by rw [digs_len, bytes_len]
          unfold Vk
          rw [hke.out, ← hl, List.take_length])
        have hneg := Lib.hid (neg_first s h0)
        obtain ⟨V, hVd⟩ : ∃ V, V = Vk (bytes s) k := ⟨_, rfl⟩
        have HVd := Lib.hid hVd
        rw [← hVd] at hV ⊢
        clear hVd
        have hP : Hid (parseL (bytes s) = sgnN V (negL (bytes s))) := Lib.hid (by
          unfold parseL
          rw [if_pos HW.out, ← hfull.out, ← HVd.out])
        by_cases h45 : (s[0].toNat : Int) = 45
        · have hn : Hid (negL (bytes s) = true) := Lib.hid (by
            have := u8_eq s[0] 45 (by decide)
            rw [show ((s[0].toNat : Int) == ((45 : Nat) : Int)) = true by simpa using h45] at this
            rw [hneg.out]
            exact this.symm)
          go_wp2
          go_ret2
          refine ⟨rfl, ?_⟩
          have e : sgnN V true = (-(V : Int), 0) := by unfold sgnN; simp; omega
          rw [hP.out, hn.out, e]
          rfl
        · have hn : Hid (negL (bytes s) = false) := Lib.hid (by
            have := u8_eq s[0] 45 (by decide)
            rw [show ((s[0].toNat : Int) == ((45 : Nat) : Int)) = false by simpa using h45] at this
            rw [hneg.out]
            exact this.symm)
          by_cases hL : -(V : Int) = -9223372036854775808
          · go_wp2
            go_ret2
            refine ⟨rfl, ?_⟩
            have e : sgnN V false = (0, 4) := by unfold sgnN; simp; omega
            rw [hP.out, hn.out, e]
            rfl
          · have h45' : ((s[0].toNat : Int) == 45) = false := by simpa using h45
            have hL' : (-(V : Int) == -9223372036854775808) = false := by simpa using hL
            go_wp2
            go_ret2
            refine ⟨rfl, ?_⟩
            have e : sgnN V false = ((V : Int), 0) := by unfold sgnN; simp; omega
            rw [hP.out, hn.out, e]
            rfl
  · have hW' : wordL (bytes s) = false := by simpa using hW
    rw [hW']
    have HW := Lib.hid hW'
    clear hW hW'
    go_wp2
    go_ret2
    exact ⟨rfl, by unfold parseL; rw [HW.out]; rfl⟩
end Go.Proofs.YtfcegalckjeafaaGreatDoor
namespace Go.Proofs.YtfcegalckjeafaaGreatDoor
open Go.RowKit Go.BigFrame
/-- A name. -/
def nmB : List UInt8 → Bool
  | [] => false
  | c :: t => letB c false && t.all (letB · true)
theorem letB_true (c : UInt8) : letB c true = (letB c false || isDig c) := by simp [letB]
theorem nmB_app (l m : List UInt8) (h : l ≠ []) : nmB (l ++ m) = (nmB l && m.all (letB · true)) := by
  cases l with
  | nil => exact absurd rfl h
  | cons c t => simp [nmB, Bool.and_assoc]
theorem all_take_len (f : UInt8 → Bool) : ∀ (t : List UInt8) (k : Nat), k ≤ t.length → (t.take k).all f = decide (k ≤ (t.takeWhile f).length)
  | _, 0, _ => by simp
  | [], k + 1, h => by simp at h
  | c :: t, k + 1, h => by
    rw [List.take_succ_cons, List.all_cons, List.takeWhile_cons, all_take_len f t k (by simpa using h)]
    cases f c <;> simp
/-- How long a name stands at a text's beginning. -/
def wlen : List UInt8 → Nat
  | [] => 0
  | c :: t => if letB c false then 1 + (t.takeWhile (letB · true)).length else 0
theorem nmB_take (l : List UInt8) (k : Nat) (h : k < l.length) : nmB (l.take (k + 1)) = decide (k < wlen l) := by
  cases l with
  | nil => simp at h
  | cons c t =>
    rw [List.take_succ_cons, nmB, all_take_len _ t k (by simp at h; omega), wlen]
    cases letB c false
    · simp
    · simp only [Bool.true_and, if_true]
      exact decide_eq_decide.2 (by omega)
theorem wlen_le (l : List UInt8) : wlen l ≤ l.length := by
  cases l with
  | nil => simp [wlen]
  | cons c t =>
    have := (List.takeWhile_sublist (p := (letB · true)) (l := t)).length_le
    rw [wlen]
    split <;> simp <;> omega
theorem bytes_at2 (s : ByteArray) (k : Nat) (h : k < s.size) : (bytes s)[k]? = some s[k] := by
  have := bytes_drop s k h
  have h2 : ((bytes s).drop k)[0]? = some s[k] := by rw [this]; rfl
  simpa [List.getElem?_drop] using h2
set_option maxRecDepth 100000 in
set_option maxHeartbeats 4000000 in
theorem rname_any (s : ByteArray) (w : World) (hs : s.size ≤ 8388608) : Calls Tryz.prog 156 #[.string s] w (BOut w (nmB (bytes s))) := by
  obtain ⟨R, hR⟩ : ∃ R, R = nmB (bytes s) := ⟨_, rfl⟩
  have HR := Lib.hid hR
  rw [← hR]
  clear hR
  go_enter Tryz.func156, Tryz.ntmps156
  go_wp2
  go_loopw [8] (fun i wr => ∃ k : Nat, k ≤ s.size ∧ i = .int .i64 k ∧ Hid (k = 0 ∨ nmB ((bytes s).take k) = true) ∧ wr = w) (fun i _ => (s.size - intOf i).toNat)
  case atStart => exact ⟨0, Nat.zero_le _, rfl, .inl rfl, rfl⟩
  case round =>
    obtain ⟨k, hk, rfl, hG, rfl⟩ := hrel
    by_cases hlt : k < s.size
    · have hki : (k : Int) < (s.size : Int) := by omega
      have hk0 : (0 : Int) ≤ (k : Int) := by omega
      have HAT := Lib.hid (bytes_at2 s k hlt)
      have HDR := Lib.hid (bytes_drop s k hlt)
      have hgk : s[k] = s[k] := rfl
      have HI := Lib.hid (letB_int s[k] false)
      have HDI := Lib.hid (isDig_int s[k])
      have HLT := Lib.hid (letB_true s[k])
      have HTK := Lib.hid (show (bytes s).take (k + 1) = (bytes s).take k ++ [s[k]] by rw [List.take_add_one, bytes_at2 s k hlt]; rfl)
      have HAPP := Lib.hid (show bytes s = (bytes s).take k ++ s[k] :: (bytes s).drop (k + 1) by rw [← bytes_drop s k hlt, List.take_append_drop])
      have HLEN := Lib.hid (show k ≠ 0 → (bytes s).take k ≠ [] from fun h e => by
        have := congrArg List.length e
        rw [List.length_take, bytes_len] at this
        simp only [List.length_nil] at this
        omega)
      generalize hc : s[k] = c at *
      go_upto_region 5 with fail
      clear hc hgk
      go_cut [5] from 14 to 31 (fun s5 wx => s5 = .bool (letB c false) ∧ wx = wr)
      case first =>
        by_cases h1 : (97 : Int) ≤ (c.toNat : Int)
        · by_cases h2 : (c.toNat : Int) ≤ 122
          · have e : letB c false = true := by rw [HI.out]; simp [h1, h2]
            go_wp2_with fail
            go_meet
            exact ⟨by rw [e], rfl⟩
          · have h3 : (65 : Int) ≤ (c.toNat : Int) := by omega
            have h4 : ¬ (c.toNat : Int) ≤ 90 := by omega
            have h5 : ((c.toNat : Int) == 95) = false := by simp; omega
            have e : letB c false = false := by rw [HI.out, h5]; simp [h2, h4]
            go_wp2_with fail
            go_meet
            exact ⟨by rw [e], rfl⟩
        · by_cases h3 : (65 : Int) ≤ (c.toNat : Int)
          · by_cases h4 : (c.toNat : Int) ≤ 90
            · have e : letB c false = true := by rw [HI.out]; simp [h3, h4]
              go_wp2_with fail
              go_meet
              exact ⟨by rw [e], rfl⟩
            · obtain ⟨q, hq⟩ : ∃ q, q = ((c.toNat : Int) == 95) := ⟨_, rfl⟩
              have e : letB c false = q := by rw [HI.out, ← hq]; simp [h1, h4]
              have hq' := hq.symm
              have HE := Lib.hid e
              clear hq e
              go_wp2_with fail
              go_meet
              exact ⟨by rw [HE.out], rfl⟩
          · have h5 : ((c.toNat : Int) == 95) = false := by simp; omega
            have e : letB c false = false := by rw [HI.out, h5]; simp [h1, h3]
            go_wp2_with fail
            go_meet
            exact ⟨by rw [e], rfl⟩
      case rest =>
        obtain ⟨rfl, rfl⟩ := hcut
        cases hL : letB c false with
        | true =>
          have hnx : Hid (k + 1 = 0 ∨ nmB ((bytes s).take (k + 1)) = true) := Lib.hid (.inr (by
            rw [HTK.out]
            rcases hG.out with h0 | h0
            · subst h0; simp [nmB, hL]
            · rw [nmB_app _ _ (fun e => by rw [e] at h0; cases h0), h0]
              simp [HLT.out, hL]))
          clear hL
          go_wp2_with fail
          exact ⟨⟨k + 1, by omega, by go_num, hnx, trivial⟩, by simp [intOf]; omega⟩
        | false =>
          by_cases hk1 : k = 0
          · subst hk1
            have hX : Hid (R = false) := Lib.hid (by rw [HR.out, HAPP.out]; simp [nmB, hL])
            clear hL
            go_wp2
            go_ret
            exact ⟨by rw [hX.out]; rfl, rfl⟩
          · have hk2 : ((k : Int) == 0) = false := by simp; omega
            have hg : Hid (nmB ((bytes s).take k) = true) := Lib.hid (hG.out.resolve_left hk1)
            by_cases h1 : (48 : Int) ≤ (c.toNat : Int)
            · by_cases h2 : (c.toNat : Int) ≤ 57
              · have hD : isDig c = true := by rw [HDI.out]; simp [h1, h2]
                have h1' : ¬ (c.toNat : Int) < 48 := by omega
                have h2' : ¬ (57 : Int) < (c.toNat : Int) := by omega
                have hnx : Hid (k + 1 = 0 ∨ nmB ((bytes s).take (k + 1)) = true) := Lib.hid (.inr (by
                  rw [HTK.out, nmB_app _ _ (HLEN.out hk1), hg.out]
                  simp [HLT.out, hD]))
                clear hL hk1 hD
                go_wp2_with fail
                exact ⟨⟨k + 1, by omega, by go_num, hnx, trivial⟩, by simp [intOf]; omega⟩
              · have hD : isDig c = false := by rw [HDI.out]; simp [h2]
                have h2' : (57 : Int) < (c.toNat : Int) := by omega
                have h1' : ¬ (c.toNat : Int) < 48 := by omega
                have hX : Hid (R = false) := Lib.hid (by rw [HR.out, HAPP.out, nmB_app _ _ (HLEN.out hk1)]; simp [HLT.out, hL, hD])
                clear hL hk1 hD
                go_wp2
                go_ret
                exact ⟨by rw [hX.out]; rfl, rfl⟩
            · have hD : isDig c = false := by rw [HDI.out]; simp [h1]
              have h1' : (c.toNat : Int) < 48 := by omega
              have hX : Hid (R = false) := Lib.hid (by rw [HR.out, HAPP.out, nmB_app _ _ (HLEN.out hk1)]; simp [HLT.out, hL, hD])
              clear hL hk1 hD
              go_wp2
              go_ret
              exact ⟨by rw [hX.out]; rfl, rfl⟩
    · have hke : k = s.size := by omega
      have hX : Hid (R = decide (0 < s.size)) := Lib.hid (by
        rw [HR.out]
        rcases hG.out with h0 | h0
        · have : bytes s = [] := List.eq_nil_of_length_eq_zero (by rw [bytes_len]; omega)
          rw [this, nmB]
          exact (decide_eq_false (by omega)).symm
        · rw [List.take_of_length_le (by rw [bytes_len]; omega)] at h0
          rw [h0]
          refine (decide_eq_true ?_).symm
          have : 0 < (bytes s).length := by
            cases hb : bytes s with
            | nil => rw [hb] at h0; cases h0
            | cons c t => simp
          rw [bytes_len] at this
          exact this)
      clear hG hke
      go_wp2
      go_ret
      exact ⟨by rw [hX.out]; rfl, rfl⟩
end Go.Proofs.YtfcegalckjeafaaGreatDoor
namespace Go.Proofs.YtfcegalckjeafaaGreatDoor
open Go.RowKit Go.BigFrame
set_option maxRecDepth 100000 in
set_option maxHeartbeats 2000000 in
theorem starts_any (s xb : ByteArray) (p : Nat) (w : World) (hp : p ≤ s.size) (hs : s.size ≤ 8388608) (hx : xb.size ≤ 2) :
    Calls Tryz.prog 158 #[.string s, .int .i64 p, .string xb] w (BOut w (xb.toList.isPrefixOf ((bytes s).drop p))) := by
  have HX := Lib.hid (pre_iff s p xb.toList)
  rw [show xb.toList.length = xb.size by rw [Lib.toList_data]; exact (Lib.size_eq xb).symm] at HX
  by_cases hle : p + xb.size ≤ s.size
  · obtain ⟨R, hR⟩ : ∃ R, R = xb.toList.isPrefixOf ((bytes s).drop p) := ⟨_, rfl⟩
    have hE : ((s.extract p (p + xb.size)).toList == xb.toList) = R := by
      rw [hR, Bool.eq_iff_iff, HX.out]
      simp only [beq_iff_eq]
      exact ⟨fun h => ⟨by omega, h⟩, fun h => h.2⟩
    rw [← hR]
    have i1 : (xb.size : Int) ≤ (s.size : Int) - (p : Int) := by omega
    have i2 : (p : Int) + (xb.size : Int) ≤ (s.size : Int) := by omega
    have i3 : (0 : Int) ≤ (p : Int) := by omega
    have i4 : ((p : Int) + (xb.size : Int)).toNat = p + xb.size := by omega
    clear HX hR
    go_enter Tryz.func158, Tryz.ntmps158
    go_wp2
    go_ret
    exact ⟨rfl, rfl⟩
  · have hF : xb.toList.isPrefixOf ((bytes s).drop p) = false := by
      rw [Bool.eq_false_iff]
      intro h
      have := (HX.out.1 h).1
      omega
    rw [hF]
    have i1 : ¬ (xb.size : Int) ≤ (s.size : Int) - (p : Int) := by omega
    clear HX hF
    go_enter Tryz.func158, Tryz.ntmps158
    go_wp2
    go_ret
    exact ⟨rfl, rfl⟩
/-- All signs, in new memory. -/
def SignsOut (w : World) (e : Ending) (w' : World) : Prop := e = .returned (.slice (some ⟨w.heap.size, 0, none⟩) 23 23) ∧ Below w.heap.size w w' ∧ ∀ (k : Nat) (x : List UInt8), signsL[k]? = some x → w'.cell? ((⟨w.heap.size, 0, none⟩ : Addr).add k) = some (sv x)
set_option maxRecDepth 100000 in
set_option maxHeartbeats 2000000 in
theorem rsigns_any (w : World) : Calls Tryz.prog 157 #[] w (SignsOut w) := by
  go_enter Tryz.func157, Tryz.ntmps157
  go_wp2
  go_ret
  refine ⟨rfl, (Below.refl _ _).alloc (Nat.le_refl _) _, fun k x hx => ?_⟩
  have := Blk.cell (Blk.new w 9 (signsL.map sv).toArray) k
  rw [addr_plain]
  refine this.trans ?_
  simp [hx]
/-- What the document's Next answers. -/
def RNext (R : Tok ⊕ (Nat × Int)) (w : World) (e : Ending) (w' : World) : Prop := Below w.heap.size w w' ∧ match R with
  | .inl t => e = .returned (.tuple #[t.v, .int .i64 0, .int .i64 0])
  | .inr r => e = .returned (.tuple #[Tok.z.v, .int .i64 r.1, .int .i64 r.2])
set_option maxRecDepth 100000 in
set_option maxHeartbeats 4000000 in
theorem rnumber_any (s : ByteArray) (p : Nat) (w : World) (hp : p < s.size) (hs : s.size ≤ 8388608) :
    Calls Tryz.prog 155 #[.string s, .int .i64 p] w (RNext (if (parseL (s[p] :: ((bytes s).drop (p + 1)).takeWhile isDig)).2 = 0 then .inl ⟨3, p, (p + 1 + (((bytes s).drop (p + 1)).takeWhile isDig).length : Nat), (parseL (s[p] :: ((bytes s).drop (p + 1)).takeWhile isDig)).1, []⟩ else .inr (p, (parseL (s[p] :: ((bytes s).drop (p + 1)).takeWhile isDig)).2)) w) := by
  obtain ⟨E, hE⟩ : ∃ E, E = endF isDig (bytes s) (p + 1) := ⟨_, rfl⟩
  have hle := endF_le (f := isDig) s (p + 1) (by omega)
  rw [← hE] at hle
  have hext := endF_ext (f := isDig) s p hp
  rw [← hE] at hext
  have hel : p + 1 + (((bytes s).drop (p + 1)).takeWhile isDig).length = E := by rw [hE, endF]
  rw [hel, ← hext]
  have HE := Lib.hid hE
  have HP := Lib.hid (fun W => refParse_any (s.extract p E) W (by have h : (s.extract p E).size ≤ s.size := (by rw [ByteArray.size_extract]; omega); omega))
  obtain ⟨r, hr⟩ : ∃ r, r = parseL (bytes (s.extract p E)) := ⟨_, rfl⟩
  rw [← hr] at HP ⊢
  obtain ⟨R, hR⟩ : ∃ R : Tok ⊕ (Nat × Int), R = if r.2 = 0 then .inl ⟨3, p, E, r.1, []⟩ else .inr (p, r.2) := ⟨_, rfl⟩
  have HR := Lib.hid hR
  rw [← hR]
  clear hE hext hel hr hR
  go_enter Tryz.func155, Tryz.ntmps155
  go_wp2
  go_loopw [7] (fun i wr => ∃ k : Nat, p + 1 ≤ k ∧ k ≤ s.size ∧ i = .int .i64 k ∧ Hid (endF isDig (bytes s) k = E) ∧ Hid (Below w.heap.size w wr ∧ Blk wr w.heap.size 93 (Tok.l Tok.z).toArray)) (fun i _ => (s.size - intOf i).toNat)
  case atStart => exact ⟨p + 1, Nat.le_refl _, by omega, by go_num, HE.out.symm, (Below.refl _ _).alloc (Nat.le_refl _) _, Blk.new _ _ _⟩
  case round =>
    obtain ⟨k, hk1, hk, rfl, hG, hB⟩ := hrel
    by_cases hlt : k < s.size
    · have hki : (k : Int) < (s.size : Int) := by omega
      have hk0 : (0 : Int) ≤ (k : Int) := by omega
      have HD := Lib.hid (fun W => rdigit_any s[k] W)
      have HST := Lib.hid (fun h => endF_step (f := isDig) s k hlt h)
      have HSP := Lib.hid (fun h => endF_stop (f := isDig) s k hlt h)
      simp only [bv] at HD
      generalize hc : s[k] = c at *
      go_wp2_with fail
      refine (HD.out _).mono ?_
      rintro e w5 ⟨rfl, rfl⟩
      clear hc
      cases hd : isDig c with
      | true =>
        have hnx : Hid (endF isDig (bytes s) (k + 1) = E) := Lib.hid (by rw [← HST.out hd, hG.out])
        go_wp2_with fail
        exact ⟨⟨k + 1, by omega, by omega, by go_num, hnx, hB⟩, by simp [intOf]; omega⟩
      | false =>
        have hkE : k = E := by rw [← hG.out, HSP.out hd]
        clear hG HST HSP HD HE
        subst hkE
        obtain ⟨r1, r2⟩ := r
        simp only at HP HR
        go_wp2_with fail
        refine (HP.out _).mono ?_
        rintro e w6 ⟨hw6, rfl⟩
        obtain rfl : w6 = w5 := hw6
        clear HP
        have HBW := Lib.hid hB.out.1
        have HBO := Lib.hid hB.out.2
        by_cases h0 : r2 = 0
        · have hX : Hid (R = .inl ⟨3, p, k, r1, []⟩) := Lib.hid (by rw [HR.out, if_pos h0])
          subst h0
          clear HR hB
          go_wp2_with (first
            | (refine wpList_stE (E := eTk) rfl rfl infoTk rfl ⟨3, p, k, r1, []⟩ HBO.out rfl rfl ?_; intro w8 HR8 ho8 hB8)
            | fail)
          refine ret_ctt (p := 4) (q := 5) (u := 6) rfl rfl rfl HR8.out (by kernel_rfl) rfl rfl ?_
          rw [hX.out]
          exact ⟨hB8 _ _ HBW.out (Nat.le_refl _), rfl⟩
        · have h1 : (r2 != 0) = true := by simpa using h0
          have hX : Hid (R = .inr (p, r2)) := Lib.hid (by rw [HR.out, if_neg h0])
          clear HR hB h0
          go_wp2_with (first
            | (refine wpList_stE (E := eTk) rfl rfl infoTk rfl Tok.z HBO.out rfl rfl ?_; intro w8 HR8 ho8 hB8)
            | fail)
          refine ret_ctt (p := 4) (q := 5) (u := 6) rfl rfl rfl HR8.out (by kernel_rfl) rfl rfl ?_
          rw [hX.out]
          exact ⟨hB8 _ _ HBW.out (Nat.le_refl _), rfl⟩
    · have hkE : k = E := by rw [← hG.out, endF_end s k (by omega)]
      clear hG HE
      subst hkE
      obtain ⟨r1, r2⟩ := r
      simp only at HP HR
      go_wp2_with fail
      refine (HP.out _).mono ?_
      rintro e w6 ⟨hw6, rfl⟩
      obtain rfl : w6 = wr := hw6
      clear HP
      have HBW := Lib.hid hB.out.1
      have HBO := Lib.hid hB.out.2
      by_cases h0 : r2 = 0
      · have hX : Hid (R = .inl ⟨3, p, k, r1, []⟩) := Lib.hid (by rw [HR.out, if_pos h0])
        subst h0
        clear HR hB
        go_wp2_with (first
          | (refine wpList_stE (E := eTk) rfl rfl infoTk rfl ⟨3, p, k, r1, []⟩ HBO.out rfl rfl ?_; intro w8 HR8 ho8 hB8)
          | fail)
        refine ret_ctt (p := 4) (q := 5) (u := 6) rfl rfl rfl HR8.out (by kernel_rfl) rfl rfl ?_
        rw [hX.out]
        exact ⟨hB8 _ _ HBW.out (Nat.le_refl _), rfl⟩
      · have h1 : (r2 != 0) = true := by simpa using h0
        have hX : Hid (R = .inr (p, r2)) := Lib.hid (by rw [HR.out, if_neg h0])
        clear HR hB h0
        go_wp2_with (first
          | (refine wpList_stE (E := eTk) rfl rfl infoTk rfl Tok.z HBO.out rfl rfl ?_; intro w8 HR8 ho8 hB8)
          | fail)
        refine ret_ctt (p := 4) (q := 5) (u := 6) rfl rfl rfl HR8.out (by kernel_rfl) rfl rfl ?_
        rw [hX.out]
        exact ⟨hB8 _ _ HBW.out (Nat.le_refl _), rfl⟩
end Go.Proofs.YtfcegalckjeafaaGreatDoor
