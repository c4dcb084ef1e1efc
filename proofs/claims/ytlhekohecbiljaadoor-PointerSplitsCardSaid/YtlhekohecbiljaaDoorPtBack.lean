/-
  What is joined is split into the same tokens; what is split and joined is the same pointer. Plain Lean.
-/
import Derived.Test.YtlhekohecbiljaaDoorPtLive
namespace Go.Proofs.YtlhekohecbiljaaDoor

theorem esc_no_slash : ∀ (l : List UInt8), ∀ b ∈ escL l, b ≠ 47
  | [], _, h => by simp [escL] at h
  | a :: t, b, h => by
    rw [show escL (a :: t) = esc1 a ++ escL t from rfl, List.mem_append] at h
    rcases h with h | h
    · unfold esc1 at h
      split at h
      · simp at h; rcases h with rfl | rfl <;> decide
      · split at h
        · simp at h; rcases h with rfl | rfl <;> decide
        · simp at h; subst h; assumption
    · exact esc_no_slash t b h
theorem un_esc : ∀ (l : List UInt8) (i : Nat), unL (escL l) i = .inl l
  | [], i => by simp [escL, unL]
  | a :: t, i => by
    rw [show escL (a :: t) = esc1 a ++ escL t from rfl]
    unfold esc1
    split
    · rename_i h
      subst h
      rw [show [126, 48] ++ escL t = 126 :: 48 :: escL t from rfl, un_zero, un_esc t]
    · split
      · rename_i h
        subst h
        rw [show [126, 49] ++ escL t = 126 :: 49 :: escL t from rfl, un_one, un_esc t]
      · rename_i h _
        rw [show [a] ++ escL t = a :: escL t from rfl, un_plain a _ i h, un_esc t]
theorem spl_app : ∀ (q r : List UInt8), (∀ b ∈ q, b ≠ 47) → spl (q ++ 47 :: r) = q :: spl r
  | [], r, _ => by simp [spl]
  | a :: t, r, h => by
    rw [List.cons_append, spl, if_neg (h a (by simp)), spl_app t r (fun b hb => h b (by simp [hb]))]
theorem spl_last : ∀ (q : List UInt8), (∀ b ∈ q, b ≠ 47) → spl q = [q]
  | [], _ => rfl
  | a :: t, h => by rw [spl, if_neg (h a (by simp)), spl_last t (fun b hb => h b (by simp [hb]))]
theorem spl_join : ∀ (t : List UInt8) (ts : List (List UInt8)), spl (escL t ++ joinL ts) = escL t :: ts.map escL
  | t, [] => by simp [joinL, spl_last _ (esc_no_slash t)]
  | t, u :: ts => by
    rw [show joinL (u :: ts) = 47 :: (escL u ++ joinL ts) by simp [joinL], spl_app _ _ (esc_no_slash t), spl_join u ts]
    rfl
theorem tok_esc : ∀ (ts : List (List UInt8)) (i : Nat), tokL (ts.map escL) i = .inl ts
  | [], _ => rfl
  | t :: ts, i => by rw [List.map_cons, tokL, un_esc, tok_esc ts]
/-- What is joined is split into the same tokens. -/
theorem split_join (ts : List (List UInt8)) : splitL (joinL ts) = .inl ts := by
  cases ts with
  | nil => rfl
  | cons t r =>
    rw [show joinL (t :: r) = 47 :: (escL t ++ joinL r) by simp [joinL], splitL, if_pos rfl, spl_join]
    exact tok_esc (t :: r) 1
theorem esc_un : ∀ (n : Nat) (l : List UInt8) (i : Nat) (r : List UInt8), l.length ≤ n → (∀ b ∈ l, b ≠ 47) → unL l i = .inl r → escL r = l
  | _, [], i, r, _, _, h => by simp [unL] at h; subst h; rfl
  | 0, b :: t, _, _, hn, _, _ => by simp at hn
  | n + 1, b :: t, i, r, hn, hs, h => by
    simp at hn
    by_cases hb : b = 126
    · subst hb
      by_cases h0 : t.head? = some 48
      · cases t with
        | nil => cases h0
        | cons c u =>
          simp at h0
          subst h0
          rw [un_zero] at h
          cases hr : unL u (i + 2) with
          | inr x => rw [hr] at h; cases h
          | inl x =>
            rw [hr] at h
            have := esc_un n u (i + 2) x (by simp at hn; omega) (fun b hb => hs b (by simp [hb])) hr
            simp at h
            subst h
            rw [show escL (126 :: x) = esc1 126 ++ escL x from rfl, this]
            rfl
      · by_cases h1 : t.head? = some 49
        · cases t with
          | nil => cases h1
          | cons c u =>
            simp at h1
            subst h1
            rw [un_one] at h
            cases hr : unL u (i + 2) with
            | inr x => rw [hr] at h; cases h
            | inl x =>
              rw [hr] at h
              have := esc_un n u (i + 2) x (by simp at hn; omega) (fun b hb => hs b (by simp [hb])) hr
              simp at h
              subst h
              rw [show escL (47 :: x) = esc1 47 ++ escL x from rfl, this]
              rfl
        · rw [un_bad t i h0 h1] at h
          cases h
    · have hb2 : b ≠ 47 := hs b (by simp)
      rw [un_plain b t i hb] at h
      cases hr : unL t (i + 1) with
      | inr x => rw [hr] at h; cases h
      | inl x =>
        rw [hr] at h
        have := esc_un n t (i + 1) x hn (fun b hb => hs b (by simp [hb])) hr
        simp at h
        subst h
        rw [show escL (b :: x) = esc1 b ++ escL x from rfl, this]
        simp [esc1, hb, hb2]
theorem spl_form : ∀ l : List UInt8, ∃ h r, spl l = h :: r ∧ h ++ r.flatMap (fun q => 47 :: q) = l ∧ (∀ q ∈ h :: r, ∀ b ∈ q, b ≠ 47)
  | [] => ⟨[], [], rfl, rfl, by simp⟩
  | b :: t => by
    obtain ⟨h, r, e1, e2, e3⟩ := spl_form t
    by_cases hb : b = 47
    · subst hb
      refine ⟨[], h :: r, by rw [spl, if_pos rfl, e1], by simp [← e2], ?_⟩
      intro q hq
      rw [List.mem_cons] at hq
      rcases hq with rfl | hq
      · simp
      · exact e3 q hq
    · refine ⟨b :: h, r, by rw [spl, if_neg hb, e1], by simp [← e2], ?_⟩
      intro q hq
      rw [List.mem_cons] at hq
      rcases hq with rfl | hq
      · intro c hc
        rw [List.mem_cons] at hc
        rcases hc with rfl | hc
        · exact hb
        · exact e3 h (by simp) c hc
      · exact e3 q (by simp [hq])
theorem tok_join : ∀ (qs : List (List UInt8)) (i : Nat) (ts : List (List UInt8)), (∀ q ∈ qs, ∀ b ∈ q, b ≠ 47) → tokL qs i = .inl ts → joinL ts = qs.flatMap (fun q => 47 :: q)
  | [], _, ts, _, h => by simp [tokL] at h; subst h; rfl
  | q :: r, i, ts, hs, h => by
    rw [tokL] at h
    cases h1 : unL q 0 with
    | inr n => rw [h1] at h; cases h
    | inl t =>
      rw [h1] at h
      simp only at h
      cases h2 : tokL r (i + q.length + 1) with
      | inr n => rw [h2] at h; cases h
      | inl us =>
        rw [h2] at h
        simp at h
        subst h
        have e1 := esc_un q.length q 0 t (Nat.le_refl _) (hs q (by simp)) h1
        have e2 := tok_join r _ us (fun x hx => hs x (by simp [hx])) h2
        rw [show joinL (t :: us) = 47 :: escL t ++ joinL us from rfl, e1, e2]
        rfl
/-- What is split and joined is the same pointer. -/
theorem join_split (p : List UInt8) (ts : List (List UInt8)) (h : splitL p = .inl ts) : joinL ts = p := by
  cases p with
  | nil => simp [splitL] at h; subst h; rfl
  | cons b t =>
    rw [splitL] at h
    by_cases hb : b = 47
    · subst hb
      rw [if_pos rfl] at h
      obtain ⟨q, r, e1, e2, e3⟩ := spl_form t
      rw [e1] at h
      rw [tok_join _ _ ts e3 h, ← e2]
      rfl
    · rw [if_neg hb] at h
      cases h
theorem esc_ge (l : List UInt8) : l.length ≤ (escL l).length := by
  induction l with
  | nil => simp
  | cons b t ih =>
    rw [show escL (b :: t) = esc1 b ++ escL t from rfl, List.length_append, List.length_cons]
    have : 1 ≤ (esc1 b).length := by unfold esc1; split <;> (try split) <;> simp
    omega
theorem join_ge (ts : List (List UInt8)) : ts.length ≤ (joinL ts).length ∧ ∀ t ∈ ts, t.length ≤ (joinL ts).length := by
  induction ts with
  | nil => simp
  | cons t r ih =>
    rw [show joinL (t :: r) = 47 :: escL t ++ joinL r from rfl]
    have := esc_ge t
    refine ⟨by simp; omega, fun x hx => ?_⟩
    rw [List.mem_cons] at hx
    rcases hx with rfl | hx
    · simp; omega
    · have := ih.2 x hx
      simp
      omega
end Go.Proofs.YtlhekohecbiljaaDoor
