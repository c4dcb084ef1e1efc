/-
  digits, of the program: by strings.Trim's contract off the shelf.
-/
import Derived.Test.YtlhekohecbiljaaDoorPtStr
import Derived.Test.YtlhekohecbiljaaDoorPtShelf
namespace Go.Proofs.YtlhekohecbiljaaDoor
open Go.RowKit Go.BigFrame Go.Shelf

theorem dropW_nil {α : Type} (p : α → Bool) : ∀ l : List α, l.dropWhile p = [] ↔ ∀ x ∈ l, p x = true
  | [] => by simp
  | a :: l => by
    rw [List.dropWhile_cons]
    by_cases h : p a = true
    · rw [if_pos h, dropW_nil p l]; simp [h]
    · rw [if_neg h]; simp [h]
theorem trimS_nil (l cs : List UInt8) : Lib.trimS l cs = [] ↔ l.all (cs.contains ·) = true := by
  unfold Lib.trimS Lib.trimLeftS Lib.trimRightS
  rw [dropW_nil, List.all_eq_true]
  constructor
  · intro h x hx
    by_cases hn : l.reverse.dropWhile (cs.contains ·) = []
    · exact (dropW_nil _ _).1 hn x (by simpa using hx)
    · obtain ⟨y, t, hy⟩ := List.exists_cons_of_ne_nil hn
      have h1 := h y (by rw [hy]; simp)
      have h2 := List.head_dropWhile_not (cs.contains ·) hn
      simp only [hy, List.head_cons] at h2
      rw [h1] at h2
      cases h2
  · intro h x hx
    refine h x ?_
    have := (List.dropWhile_sublist (cs.contains ·) (l := l.reverse)).subset (List.mem_reverse.1 hx)
    simpa using this
theorem isDig_mem : ∀ b : UInt8, ([48, 49, 50, 51, 52, 53, 54, 55, 56, 57] : List UInt8).contains b = isDig b := by
  have h : (List.range 256).all (fun n => ([48, 49, 50, 51, 52, 53, 54, 55, 56, 57] : List UInt8).contains (UInt8.ofNat n) == isDig (UInt8.ofNat n)) = true := by decide +kernel
  intro b
  have := List.all_eq_true.1 h b.toNat (by simpa using b.toNat_lt)
  simpa using this
theorem digits_spec (l : List UInt8) : digitsL l = (!(l.isEmpty || (l.head? == some 48 && decide (1 < l.length))) && l.all isDig) := by
  unfold digitsL
  cases l with
  | nil => simp
  | cons a t =>
    cases t with
    | nil =>
      by_cases h : a = 48
      · subst h; simp
      · simp [h]
    | cons b t =>
      rw [Bool.eq_iff_iff]
      by_cases h : a = 48
      · subst h; simp
      · simp [h]

set_option maxRecDepth 100000 in
set_option maxHeartbeats 1000000 in
theorem digits_any (s : ByteArray) (w : World) (hs : s.size ≤ 9223372036854775807) : Calls Tryd.prog 27 #[.string s] w fun e w' => e = .returned (.bool (digitsL (bytes s))) ∧ Below w.heap.size w w' := by
  have hcon := Any.strings_Trim_laid Tryd.lays160 (by kernel_rfl) s ⟨#[48, 49, 50, 51, 52, 53, 54, 55, 56, 57]⟩ w hs (by decide) (ascii_of_all (by decide))
  change Calls Tryd.prog 37 _ _ (fun e w' => e = .returned (.string ⟨(Lib.trimS s.data.toList [48, 49, 50, 51, 52, 53, 54, 55, 56, 57]).toArray⟩) ∧ Below w.heap.size w w') at hcon
  have hT : ((⟨(Lib.trimS s.data.toList [48, 49, 50, 51, 52, 53, 54, 55, 56, 57]).toArray⟩ : ByteArray).toList.isEmpty) = (bytes s).all isDig := by
    rw [Lib.toList_data]
    have h := trimS_nil (bytes s) [48, 49, 50, 51, 52, 53, 54, 55, 56, 57]
    rw [show ((bytes s).all fun x => ([48, 49, 50, 51, 52, 53, 54, 55, 56, 57] : List UInt8).contains x) = (bytes s).all isDig by congr 1; funext b; exact isDig_mem b] at h
    cases hc : (bytes s).all isDig with
    | true =>
      have := h.2 hc
      simp [bytes] at this ⊢
      rw [this]
    | false =>
      have hn : ¬ Lib.trimS (bytes s) [48, 49, 50, 51, 52, 53, 54, 55, 56, 57] = [] := fun e => by rw [h.1 e] at hc; cases hc
      simpa [bytes] using hn
  have HT := Lib.hid hT
  generalize (⟨(Lib.trimS s.data.toList [48, 49, 50, 51, 52, 53, 54, 55, 56, 57]).toArray⟩ : ByteArray) = r at hcon HT
  have HC := Lib.hid hcon
  clear hT hcon
  have hsp := Lib.hid (digits_spec (bytes s))
  by_cases h0 : s.toList = []
  · go_enter Tryd.func27, Tryd.ntmps27
    go_wp2_with fail
    go_ret
    refine ⟨?_, Below.refl _ _⟩
    rw [Lib.toList_data] at h0
    rw [hsp.out]
    simp [bytes, h0]
  · have hp : 0 < s.size := by
      rw [Lib.toList_data] at h0
      have := bytes_len s
      have : (bytes s).length ≠ 0 := fun e => h0 (List.length_eq_zero_iff.1 e)
      omega
    have hh := Lib.hid (bytes_head s hp)
    have hhd : Hid ((bytes s).isEmpty = false) := Lib.hid (by
      have h0 := h0
      rw [Lib.toList_data] at h0
      cases hc : bytes s with
      | nil => exact absurd hc h0
      | cons a t => rfl)
    have h0e : s.toList.isEmpty = false := by rw [Lib.toList_data]; exact hhd.out
    by_cases h48 : (s[0].toNat : Int) = 48
    · have e48 : Hid (s[0] = 48) := Lib.hid (by have := u8_eq s[0] 48 (by decide); rw [show ((s[0].toNat : Int) == ((48 : Nat) : Int)) = true by simpa using h48] at this; simpa using this.symm)
      by_cases h1 : 1 < (s.size : Int)
      · go_enter Tryd.func27, Tryd.ntmps27
        go_wp2_with fail
        go_ret
        refine ⟨?_, Below.refl _ _⟩
        have hl : decide (1 < (bytes s).length) = true := by rw [bytes_len]; simp; omega
        rw [hsp.out, hh.out, e48.out, hl]
        simp
      · go_enter Tryd.func27, Tryd.ntmps27
        go_wp2_with fail
        refine HC.out.mono ?_
        rintro e w1 ⟨rfl, hb⟩
        go_wp2_with fail
        go_ret
        refine ⟨?_, hb⟩
        have hl : decide (1 < (bytes s).length) = false := by rw [bytes_len]; simp; omega
        show Ending.returned (.bool r.toList.isEmpty) = _
        rw [hsp.out, hhd.out, hl, HT.out]
        simp
    · have e48 : Hid ((s[0] == 48) = false) := Lib.hid (by have := u8_eq s[0] 48 (by decide); rw [show ((s[0].toNat : Int) == ((48 : Nat) : Int)) = false by simpa using h48] at this; exact this.symm)
      go_enter Tryd.func27, Tryd.ntmps27
      go_wp2_with fail
      refine HC.out.mono ?_
      rintro e w1 ⟨rfl, hb⟩
      go_wp2_with fail
      go_ret
      refine ⟨?_, hb⟩
      show Ending.returned (.bool r.toList.isEmpty) = _
      rw [hsp.out, hhd.out, HT.out, hh.out, show (some s[0] == some (48 : UInt8)) = false from e48.out]
      simp
end Go.Proofs.YtlhekohecbiljaaDoor
