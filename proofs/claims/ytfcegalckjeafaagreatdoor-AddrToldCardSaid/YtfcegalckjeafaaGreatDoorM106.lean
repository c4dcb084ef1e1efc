/-
  Parts of the proof that AddrTold,AddrBegins calls on: TxTold, Tg, Ge.
-/
import Derived.Test.YtfcegalckjeafaaGreatDoorM103
import Derived.Test.YtfcegalckjeafaaGreatDoorM105
namespace Go.Proofs.YtfcegalckjeafaaGreatDoor
theorem u8_all (p : UInt8 → Bool) (h : ∀ n : Fin 256, p (UInt8.ofNat n.val) = true) (c : UInt8) : p c = true := by
  have := h ⟨c.toNat, c.toNat_lt⟩
  simpa using this
theorem unq_q1 : ∀ (c : UInt8) (rest : List UInt8) (p : Nat), unqB (q1 c ++ rest) p = consU c (unqB rest (p + (q1 c).length)) := by
  intro c rest p
  by_cases h : letL c = 0
  · by_cases h2 : c.toNat < 32 ∨ 126 < c.toNat
    · have hk : (hexv (hexd (c.toNat / 16))).bind (fun m => (hexv (hexd (c.toNat % 16))).map fun n => UInt8.ofNat (16 * m + n)) = some c :=
        eq_of_beq (u8_all (fun c => (hexv (hexd (c.toNat / 16))).bind (fun m => (hexv (hexd (c.toNat % 16))).map fun n => UInt8.ofNat (16 * m + n)) == some c) (by decide +kernel) c)
      have e : q1 c = [92, 120, hexd (c.toNat / 16), hexd (c.toNat % 16)] := by unfold q1; rw [if_neg (by simp [h]), if_pos h2]
      rw [e]
      simp only [List.cons_append, List.nil_append, List.length_cons, List.length_nil]
      rw [unqB.eq_def]
      simp only [show (92 : UInt8) ≠ 34 by decide, if_false, show ¬ ((92 : UInt8).toNat < 32) by decide, ne_eq, not_true_eq_false, if_true]
      cases h1 : hexv (hexd (c.toNat / 16)) with
      | none => rw [h1] at hk; cases hk
      | some m =>
        cases h3 : hexv (hexd (c.toNat % 16)) with
        | none => rw [h1, h3] at hk; cases hk
        | some n =>
          rw [h1, h3] at hk
          simp only [Option.bind_some, Option.map_some, Option.some.injEq] at hk
          simp only [hk]
    · have e : q1 c = [c] := by unfold q1; rw [if_neg (by simp [h]), if_neg h2]
      rw [e]
      simp only [List.cons_append, List.nil_append, List.length_cons, List.length_nil]
      have h34 : c ≠ 34 := by rintro rfl; exact absurd h (by decide)
      have h92 : c ≠ 92 := by rintro rfl; exact absurd h (by decide)
      rw [unqB.eq_def]
      simp only [h34, if_false, h92, ne_eq, not_false_eq_true, if_true]
      rw [if_neg (by omega)]
  · have hk : byLet (letL c) = some c ∧ letL c ≠ 120 := by
      have := u8_all (fun c => letL c == 0 || (byLet (letL c) == some c && letL c != 120)) (by decide +kernel) c
      simpa [h] using this
    have e : q1 c = [92, letL c] := by unfold q1; rw [if_pos h]
    rw [e]
    simp only [List.cons_append, List.nil_append, List.length_cons, List.length_nil]
    rw [unqB.eq_def]
    simp only [show (92 : UInt8) ≠ 34 by decide, if_false, show ¬ ((92 : UInt8).toNat < 32) by decide, ne_eq, not_true_eq_false, hk.2, hk.1]
theorem unq_flat : ∀ (s rest : List UInt8) (p : Nat), unqB (s.flatMap q1 ++ 34 :: rest) p = .inl (s, p + (s.flatMap q1).length + 1)
  | [], rest, p => by rw [List.flatMap_nil, List.nil_append, unqB.eq_def]; simp
  | c :: s, rest, p => by
    rw [List.flatMap_cons, List.append_assoc, unq_q1, unq_flat s rest]
    simp only [consU, List.length_append]
    congr 2
    omega
theorem unq_quote (s rest : List UInt8) : unqL (quoteL s ++ rest) = .inl (s, (quoteL s).length) := by
  have h := unq_flat s rest 1
  simp only [quoteL, List.cons_append, List.append_assoc, List.nil_append, unqL, if_true, h, List.length_cons, List.length_append, List.length_nil]
  congr 2
  omega
theorem skip_none {s : List UInt8} {p : Nat} {c : UInt8} {u : List UInt8} (h : s.drop p = c :: u) (hc : blank c = false) : skipL s p = p := by
  rw [skipL, h, List.takeWhile_cons, hc]
  rfl
theorem next_tok {s : List UInt8} {p : Nat} {c : UInt8} {u : List UInt8} (h : s.drop p = c :: u) (hc : blank c = false) : nextL s p = tokL (c :: u) p := by
  rw [nextL, skip_none h hc, h]
theorem next_quote {s : List UInt8} {p : Nat} {x rest : List UInt8} (h : s.drop p = quoteL x ++ rest) : nextL s p = .inl ⟨4, p, (p + (quoteL x).length : Nat), 0, x⟩ := by
  have h' : s.drop p = 34 :: (x.flatMap q1 ++ [34] ++ rest) := by rw [h]; rfl
  rw [next_tok h' (by decide)]
  have hq := unq_quote x rest
  rw [show quoteL x ++ rest = 34 :: (x.flatMap q1 ++ [34] ++ rest) from rfl] at hq
  simp only [tokL, if_true, hq]
theorem next_one {s : List UInt8} {p : Nat} {c : UInt8} {u : List UInt8} (h : s.drop p = c :: u) (hc : c = 36 ∨ c = 91 ∨ c = 93 ∨ (c = 60 ∨ c = 62) ∧ u.head? ≠ some 61) : nextL s p = .inl ⟨1, p, (p + 1 : Nat), 0, [c]⟩ := by
  have hb : blank c = false := by rcases hc with rfl | rfl | rfl | ⟨rfl | rfl, _⟩ <;> decide
  rw [next_tok h hb]
  rcases hc with rfl | rfl | rfl | ⟨rfl | rfl, hu⟩
  · simp [tokL, letB, isDig, signsL, List.isPrefixOf]
  · simp [tokL, letB, isDig, signsL, List.isPrefixOf]
  · simp [tokL, letB, isDig, signsL, List.isPrefixOf]
  · have : List.isPrefixOf [61] u = false := by
      cases u with
      | nil => rfl
      | cons d u => simp [List.isPrefixOf] at hu ⊢; exact fun h => hu h.symm
    simp [tokL, letB, isDig, signsL, List.isPrefixOf, this]
  · have : List.isPrefixOf [61] u = false := by
      cases u with
      | nil => rfl
      | cons d u => simp [List.isPrefixOf] at hu ⊢; exact fun h => hu h.symm
    simp [tokL, letB, isDig, signsL, List.isPrefixOf, this]
/-- The number of decimal digits is the number. -/
theorem val_snoc (l : List UInt8) (b : UInt8) : valL (l ++ [b]) = 10 * valL l + (b.toNat - 48) := by simp [valL]
theorem val_ndig : ∀ (k n : Nat), n ≤ k → valL (ndig n) = n
  | k, n, h => by
    by_cases h9 : n < 10
    · rw [ndig, if_pos h9]
      simp [valL]
      omega
    · rw [ndig, if_neg h9, val_snoc]
      cases k with
      | zero => omega
      | succ k =>
        rw [val_ndig k (n / 10) (by omega)]
        have : (UInt8.ofNat (48 + n % 10)).toNat = 48 + n % 10 := UInt8.toNat_ofNat_of_lt' (by simp [UInt8.size]; omega)
        rw [this]
        omega
theorem isDig_ndig (n : Nat) : (ndig n).all isDig = true := List.all_eq_true.2 fun b hb => by
  have := ndig_dig n n (Nat.le_refl _) b hb
  simp [isDig]; omega
theorem ndig_head : ∀ (k n : Nat), n ≤ k → 10 ≤ n → (ndig n).head? ≠ some 48
  | k, n, h, h10 => by
    rw [ndig, if_neg (by omega)]
    have hp := ndig_pos (n / 10)
    have hh : (ndig (n / 10) ++ [UInt8.ofNat (48 + n % 10)]).head? = (ndig (n / 10)).head? := by
      cases e : ndig (n / 10) with
      | nil => rw [e] at hp; simp at hp
      | cons b t => rfl
    rw [hh]
    cases k with
    | zero => omega
    | succ k =>
      by_cases h9 : n / 10 < 10
      · rw [ndig, if_pos h9]
        have : (UInt8.ofNat (48 + n / 10)).toNat = 48 + n / 10 := UInt8.toNat_ofNat_of_lt' (by simp [UInt8.size]; omega)
        intro e
        have e' := congrArg UInt8.toNat (Option.some.inj e)
        rw [this, show (48 : UInt8).toNat = 48 by rfl] at e'
        omega
      · exact ndig_head k (n / 10) (by omega) (by omega)
theorem ndig_len1 (n : Nat) (h : 1 < (ndig n).length) : 10 ≤ n := by
  by_cases h9 : n < 10
  · rw [ndig, if_pos h9] at h; simp at h
  · omega
theorem ndig_zero (n : Nat) (h : (ndig n).head? = some 48) : n = 0 := by
  by_cases h9 : n < 10
  · rw [ndig, if_pos h9] at h
    have : (UInt8.ofNat (48 + n)).toNat = 48 + n := UInt8.toNat_ofNat_of_lt' (by simp [UInt8.size]; omega)
    have e' := congrArg UInt8.toNat (Option.some.inj h)
    rw [this, show (48 : UInt8).toNat = 48 by rfl] at e'
    omega
  · exact absurd h (ndig_head n n (Nat.le_refl _) (by omega))
theorem parse_dec (i : Int) (h1 : -9223372036854775808 ≤ i) (h2 : i ≤ 9223372036854775807) : parseL (decL i) = (i, 0) := by
  have hp := ndig_pos i.natAbs
  have hne : ndig i.natAbs ≠ [] := by intro e; rw [e] at hp; simp at hp
  by_cases hn : i < 0
  · rw [decL, if_pos hn]
    have e1 : negL (45 :: ndig i.natAbs) = true := by rfl
    have e2 : digsL (45 :: ndig i.natAbs) = ndig i.natAbs := by rw [digsL, e1]; rfl
    have e3 : wordL (45 :: ndig i.natAbs) = true := by
      rw [wordL, e2, isDig_ndig]
      have : (ndig i.natAbs).head? ≠ some 48 := fun e => by have := ndig_zero _ e; omega
      simp [hne, this]
    rw [parseL, e3, if_pos rfl, e1, e2, val_ndig _ _ (Nat.le_refl _), sgnN, if_pos rfl, if_neg (by omega)]
    congr 1
    omega
  · rw [decL, if_neg hn]
    have h45 : (ndig i.natAbs).head? ≠ some 45 := by
      obtain ⟨b, t, e⟩ := List.exists_cons_of_ne_nil hne
      rw [e]
      intro e'
      obtain rfl : b = 45 := by simpa using e'
      have := ndig_dig i.natAbs i.natAbs (Nat.le_refl _) 45 (by rw [e]; simp)
      exact absurd this (by decide)
    have e1 : negL (ndig i.natAbs) = false := by rw [negL]; simp [h45]
    have e2 : digsL (ndig i.natAbs) = ndig i.natAbs := by rw [digsL, e1]; rfl
    have e3 : wordL (ndig i.natAbs) = true := by
      rw [wordL, e2, isDig_ndig]
      have : ¬ ((ndig i.natAbs).head? = some 48 ∧ 1 < (ndig i.natAbs).length) := fun ⟨a, b⟩ => by have := ndig_zero _ a; have := ndig_len1 _ b; omega
      simp [hne]
      by_cases a : (ndig i.natAbs).head? = some 48
      · exact .inr (Nat.le_of_not_lt fun b => this ⟨a, b⟩)
      · exact .inl a
    rw [parseL, e3, if_pos rfl, e1, e2, val_ndig _ _ (Nat.le_refl _), sgnN, if_neg (by simp), if_neg (by omega)]
    congr 1
    omega
theorem take_digs (l : List UInt8) (rest : List UInt8) (h : l.all isDig = true) : (l ++ 93 :: rest).takeWhile isDig = l := by
  induction l with
  | nil => rfl
  | cons c l ih =>
    simp only [List.all_cons, Bool.and_eq_true] at h
    rw [List.cons_append, List.takeWhile_cons, h.1, if_pos rfl, ih h.2]
theorem isDig_tail {c : UInt8} {t : List UInt8} {n : Nat} (e : ndig n = c :: t) : isDig c = true ∧ t.all isDig = true := by
  have := isDig_ndig n
  rw [e] at this
  simpa using this
theorem next_dec {s : List UInt8} {p : Nat} {i : Int} {rest : List UInt8} (h : s.drop p = decL i ++ 93 :: rest) (h1 : -9223372036854775808 ≤ i) (h2 : i ≤ 9223372036854775807) : nextL s p = .inl ⟨3, p, (p + (decL i).length : Nat), i, []⟩ := by
  have hpd := parse_dec i h1 h2
  have notl : ∀ c : UInt8, isDig c = true → c ≠ 34 ∧ letB c false = false ∧ blank c = false := fun c hc => by
    have := u8_all (fun c => !isDig c || (c != 34 && !letB c false && !blank c)) (by decide +kernel) c
    simpa [hc, and_assoc] using this
  by_cases hn : i < 0
  · have e : decL i = 45 :: ndig i.natAbs := if_pos hn
    rw [e] at h hpd ⊢
    rw [List.cons_append] at h
    rw [next_tok h (by decide)]
    simp only [tokL, take_digs _ _ (isDig_ndig _), hpd, show (45 : UInt8) ≠ 34 by decide, if_false, show letB 45 false = false by decide, Bool.false_eq_true, true_or, if_true]
    simp only [List.length_cons]
    rw [Nat.add_assoc, Nat.add_comm 1]
  · have e : decL i = ndig i.natAbs := if_neg hn
    have hp := ndig_pos i.natAbs
    obtain ⟨c, t, e'⟩ := List.exists_cons_of_ne_nil (l := ndig i.natAbs) (by intro e; rw [e] at hp; simp at hp)
    obtain ⟨d1, d2⟩ := isDig_tail e'
    obtain ⟨n1, n2, n3⟩ := notl c d1
    rw [e, e'] at h hpd ⊢
    rw [List.cons_append] at h
    rw [next_tok h n3]
    simp only [tokL, take_digs _ _ d2, hpd, n1, if_false, n2, Bool.false_eq_true, d1, or_true, if_true]
    simp only [List.length_cons]
    rw [Nat.add_assoc, Nat.add_comm 1]
theorem drop_more {s a b : List UInt8} {p : Nat} (h : s.drop p = a ++ b) : s.drop (p + a.length) = b := by
  rw [← List.drop_drop, h, List.drop_left]
/-- Steps of the three kinds, with nothing that their kinds do not need. -/
def goodS (x : St) : Prop := (x.K = 0 ∧ x.T = [] ∨ (x.K = 1 ∨ x.K = 2) ∧ x.I = 0) ∧ -9223372036854775808 ≤ x.I ∧ x.I ≤ 9223372036854775807
theorem head_flat (l : List St) (h : ∀ x ∈ l, goodS x) : (l.flatMap stepT).head? ≠ some 61 := by
  cases l with
  | nil => simp
  | cons x l =>
    rw [List.flatMap_cons]
    obtain ⟨(⟨a, _⟩ | ⟨a | a, _⟩), _⟩ := h x (by simp) <;> simp [stepT, a]
theorem sign_one {s : List UInt8} {p : Nat} {c : UInt8} {u : List UInt8} (h : s.drop p = c :: u) (hc : c = 36 ∨ c = 91 ∨ c = 93 ∨ (c = 60 ∨ c = 62) ∧ u.head? ≠ some 61) : signL s p [c] = .inl (p + 1) := by
  rw [signL, next_one h hc]
  simp
theorem step_told {s : List UInt8} {p : Nat} {x : St} {rest : List UInt8} (hx : goodS x) (h : s.drop p = stepT x ++ rest) (hr : rest.head? ≠ some 61) :
    ∃ o u, s.drop p = o :: u ∧ nextL s p = .inl ⟨1, p, (p + 1 : Nat), 0, [o]⟩ ∧ (o = 91 ∨ o = 60) ∧ stepL s [o] (p + 1) = .inl (x, p + (stepT x).length) := by
  obtain ⟨K, I, T⟩ := x
  obtain ⟨(⟨a, b⟩ | ⟨a | a, b⟩), c1, c2⟩ := hx <;> simp only at a b c1 c2 <;> subst a b
  · have e : stepT ⟨0, I, []⟩ = 91 :: (decL I ++ [93]) := by simp [stepT]
    rw [e] at h
    have h' : s.drop p = 91 :: (decL I ++ 93 :: rest) := by rw [h]; simp
    have h1 : s.drop (p + 1) = decL I ++ 93 :: rest := drop_more (a := [91]) h'
    have h2 : s.drop (p + 1 + (decL I).length) = 93 :: rest := drop_more h1
    refine ⟨91, _, h', next_one h' (by simp), by simp, ?_⟩
    have h3 := sign_one h2 (by simp)
    have hs : saysL [91] ⟨3, (p + 1 : Nat), (p + 1 + (decL I).length : Nat), I, []⟩ = some ⟨0, I, []⟩ := by simp [saysL]
    have hE : endL [91] = [93] := by decide
    rw [stepL, next_dec h1 c1 c2]
    simp only [hs, hE, Int.toNat_natCast, h3, e, List.length_cons, List.length_append, List.length_nil]
    congr 2
    omega
  · have e : stepT ⟨1, 0, T⟩ = 91 :: (quoteL T ++ [93]) := by simp [stepT]
    rw [e] at h
    have h' : s.drop p = 91 :: (quoteL T ++ 93 :: rest) := by rw [h]; simp
    have h1 : s.drop (p + 1) = quoteL T ++ 93 :: rest := drop_more (a := [91]) h'
    have h2 : s.drop (p + 1 + (quoteL T).length) = 93 :: rest := drop_more h1
    refine ⟨91, _, h', next_one h' (by simp), by simp, ?_⟩
    have h3 := sign_one h2 (by simp)
    have hs : saysL [91] ⟨4, (p + 1 : Nat), (p + 1 + (quoteL T).length : Nat), 0, T⟩ = some ⟨1, 0, T⟩ := by simp [saysL]
    have hE : endL [91] = [93] := by decide
    rw [stepL, next_quote h1]
    simp only [hs, hE, Int.toNat_natCast, h3, e, List.length_cons, List.length_append, List.length_nil]
    congr 2
    omega
  · have e : stepT ⟨2, 0, T⟩ = 60 :: (quoteL T ++ [62]) := by simp [stepT]
    rw [e] at h
    have h' : s.drop p = 60 :: (quoteL T ++ 62 :: rest) := by rw [h]; simp
    have h1 : s.drop (p + 1) = quoteL T ++ 62 :: rest := drop_more (a := [60]) h'
    have h2 : s.drop (p + 1 + (quoteL T).length) = 62 :: rest := drop_more h1
    refine ⟨60, _, h', next_one h' (by simp [quoteL]), by simp, ?_⟩
    have h3 := sign_one h2 (.inr (.inr (.inr ⟨.inr rfl, hr⟩)))
    have hs : saysL [60] ⟨4, (p + 1 : Nat), (p + 1 + (quoteL T).length : Nat), 0, T⟩ = some ⟨2, 0, T⟩ := by simp [saysL]
    have hE : endL [60] = [62] := by decide
    rw [stepL, next_quote h1]
    simp only [hs, hE, Int.toNat_natCast, h3, e, List.length_cons, List.length_append, List.length_nil]
    congr 2
    omega
theorem next_end {s : List UInt8} {p : Nat} (h : s.drop p = []) : nextL s p = .inl ⟨0, p, p, 0, []⟩ := by
  have : skipL s p = p := by rw [skipL, h]; rfl
  rw [nextL, this, h]
  rfl
theorem go_told : ∀ (l : List St) (s : List UInt8) (n p : Nat) (acc : List St), (∀ x ∈ l, goodS x) → s.drop p = l.flatMap stepT → l.length < n → goL s n p acc = .inl (acc ++ l)
  | _, _, 0, _, _, _, _, h => by omega
  | [], s, n + 1, p, acc, _, h, _ => by
    rw [goL, next_end (by simpa using h)]
    simp
  | x :: l, s, n + 1, p, acc, hg, h, hn => by
    rw [List.flatMap_cons] at h
    have hl : ∀ y ∈ l, goodS y := fun y hy => hg y (by simp [hy])
    obtain ⟨o, u, h1, h2, h3, h4⟩ := step_told (hg x (by simp)) h (head_flat l hl)
    have h5 := drop_more h
    rw [goL, h2]
    have ho : ([o] : List UInt8) = [91] ∨ ([o] : List UInt8) = [60] := by rcases h3 with rfl | rfl <;> simp
    simp only [Int.toNat_natCast, h4, ho, and_self, if_true]
    rw [if_neg (by decide), go_told l s n _ _ hl h5 (by simp at hn; omega)]
    simp
theorem step_pos (x : St) : 0 < (stepT x).length := by unfold stepT; split <;> (try split) <;> (try split) <;> simp
theorem addr_told (l : List St) (h : ∀ x ∈ l, goodS x) : addrL (printL l) = .inl l := by
  have h0 : (printL l).drop 0 = 36 :: l.flatMap stepT := rfl
  rw [addrL, sign_one h0 (by simp)]
  have hl : l.length ≤ (l.flatMap stepT).length := by
    clear h h0
    induction l with
    | nil => simp
    | cons x l ih => have := step_pos x; rw [List.flatMap_cons, List.length_append]; simp only [List.length_cons]; omega
  have := go_told l (printL l) ((printL l).length + 1) 1 [] h rfl (by simp only [printL, List.length_cons]; omega)
  simpa using this
end Go.Proofs.YtfcegalckjeafaaGreatDoor
namespace Go.Proofs.YtfcegalckjeafaaGreatDoor
open Go.RowKit Go.BigFrame
theorem q1_let {c : UInt8} (h : letL c ≠ 0) : q1 c = [92, letL c] := if_pos h
theorem q1_hex {c : UInt8} (h : letL c = 0) (h2 : c.toNat < 32 ∨ 126 < c.toNat) : q1 c = [92, 120, hexd (c.toNat / 16), hexd (c.toNat % 16)] := by rw [q1, if_neg (by simp [h]), if_pos h2]
theorem q1_plain {c : UInt8} (h : letL c = 0) (h2 : ¬ (c.toNat < 32 ∨ 126 < c.toNat)) : q1 c = [c] := by rw [q1, if_neg (by simp [h]), if_neg h2]
theorem flat_succ (s : ByteArray) (k : Nat) (h : k < s.size) : ((bytes s).take (k + 1)).flatMap q1 = ((bytes s).take k).flatMap q1 ++ q1 s[k] := by
  rw [bytes_take s k h, List.flatMap_append]
  simp
def hexS : ByteArray := ⟨#[48, 49, 50, 51, 52, 53, 54, 55, 56, 57, 97, 98, 99, 100, 101, 102]⟩
theorem hexS_size : hexS.size = 16 := rfl
theorem hex_at : ∀ n : Fin 16, (hexS[n.val]'(by rw [hexS_size]; exact n.isLt)) = hexd n.val := by decide +kernel
theorem idxhex (W : World) : ∀ n : Nat, n < 16 → (Instr.index 9 (.string ⟨#[48, 49, 50, 51, 52, 53, 54, 55, 56, 57, 97, 98, 99, 100, 101, 102]⟩) (.int .u8 (n : Int))).run Tryz.prog W = .ok (.int .u8 ((hexd n).toNat : Int)) W
  | 0, _ => by kernel_rfl
  | 1, _ => by kernel_rfl
  | 2, _ => by kernel_rfl
  | 3, _ => by kernel_rfl
  | 4, _ => by kernel_rfl
  | 5, _ => by kernel_rfl
  | 6, _ => by kernel_rfl
  | 7, _ => by kernel_rfl
  | 8, _ => by kernel_rfl
  | 9, _ => by kernel_rfl
  | 10, _ => by kernel_rfl
  | 11, _ => by kernel_rfl
  | 12, _ => by kernel_rfl
  | 13, _ => by kernel_rfl
  | 14, _ => by kernel_rfl
  | 15, _ => by kernel_rfl
  | n + 16, h => by omega
theorem and15 (c : UInt8) : bits .and .u8 (c.toNat : Int) 15 = ((c.toNat % 16 : Nat) : Int) := by
  have := u8_all (fun c => bits .and .u8 (c.toNat : Int) 15 == ((c.toNat % 16 : Nat) : Int)) (by decide +kernel) c
  simpa using this
set_option maxRecDepth 100000 in
set_option maxHeartbeats 8000000 in
theorem quote_any (s : ByteArray) (w : World) (hs : s.size ≤ 2097152) : Calls Tryz.prog 55 #[.string s] w (VBOut w (sv (quoteL (bytes s)))) := by
  go_enter Tryz.func55, Tryz.ntmps55
  go_wp2_with (first
    | (at_make; refine wpList_mk elB rfl rfl (s.size + 2) rfl rfl (by omega) (by omega) (by decide) ?_; intro w1 HO1 HB1 HG1; clear HG1; have hz1 := HB1.out.size)
    | (at_builtin; refine wpList_app elB (o := ⟨some 13, _, _, _, _, _⟩) rfl rfl (n := 0) (World.ownsRow.alloc HO1.out _) rfl (w0 := w) (HB1.out.alloc hz1 _) (reads_new w1 5 [bv 34]) rfl (by simp [bv, Value.oneCell']) (by simp) (by decide) (by simp; omega) ?_; intro v2 w2 HO2 HB2 HG2; clear HG2)
    | fail)
  go_loopw [3, 16] (fun v i wr => ∃ (k : Nat) (acc : List UInt8), k ≤ s.size ∧ i = .int .i64 k ∧ acc.length ≤ 4 * k + 1 ∧ Hid (acc = 34 :: ((bytes s).take k).flatMap q1) ∧ Hid (wr.ownsRow w.heap.size 5 1 v acc.length (acc.map bv)) ∧ Hid (Below w.heap.size w wr)) (fun _ i _ => (s.size - intOf i).toNat)
  case atStart => exact ⟨0, [34], Nat.zero_le _, rfl, by simp, by simp [Hid], by simpa using HO2, HB2⟩
  case round =>
    obtain ⟨k, acc, hk, rfl, hal, hA, hO, hB⟩ := hrel
    have hz0 := hB.out.size
    obtain ⟨A, c, rfl, hcap⟩ := own_shape hO.out
    by_cases hlt : k < s.size
    · have hki : (k : Int) < (s.size : Int) := by omega
      have hgk : s[k] = s[k] := rfl
      have HL : Hid (∀ W, Calls Tryz.prog 99 #[.int .u8 (s[k].toNat : Int)] W fun e w' => e = .returned (.int .u8 ((letL s[k]).toNat : Int)) ∧ Below W.heap.size W w') := Lib.hid (fun W => letter2_any s[k] W)
      have HF := Lib.hid (flat_succ s k hlt)
      by_cases hl : letL s[k] = 0
      · rw [hl] at HL
        have e0 : ((0 : UInt8).toNat : Int) = 0 := rfl
        rw [e0] at HL
        have hn0 : (0 : Int) ≤ (s[k].toNat : Int) := by omega
        have hn256 : (s[k].toNat : Int) < 256 := by have := (s[k]).toNat_lt; omega
        by_cases c1 : s[k].toNat < 32 ∨ 126 < s[k].toNat
        · have hq := Lib.hid (q1_hex hl c1)
          have hacc : Hid (acc ++ [92, 120, hexd (s[k].toNat / 16), hexd (s[k].toNat % 16)] = 34 :: ((bytes s).take (k + 1)).flatMap q1) := Lib.hid (by rw [HF.out, hq.out, hA.out]; simp)
          have d1 := hex_at ⟨s[k].toNat / 16, by have := (s[k]).toNat_lt; omega⟩
          have d2 := hex_at ⟨s[k].toNat % 16, by omega⟩
          have HD1 := Lib.hid d1
          have HD2 := Lib.hid d2
          clear hl hgk HF hq d1 d2
          by_cases c32 : (s[k].toNat : Int) < 32
          · go_wp2_with fail
            refine (HL.out _).mono ?_
            rintro e w1 ⟨rfl, hb⟩
            have hz1 : w.heap.size ≤ w1.heap.size := Nat.le_trans hz0 hb.size
            go_wp2_with fail
            have HO1' : Hid (w1.drew.ownsRow w.heap.size 5 1 (.slice A acc.length c) acc.length (acc.map bv)) := Lib.hid (own_below hO.out hb.drew)
            have HB1' : Hid (Below w.heap.size w w1.drew) := Lib.hid ((hB.out.trans (hb.mono hz0)).drew)
            obtain ⟨H, s1, hH, hH'⟩ : ∃ H : Nat, (s[k].toNat : Int) / 16 = (H : Int) ∧ H < 16 ∧ Hid (s[k].toNat / 16 = H) := ⟨s[k].toNat / 16, by omega, by omega, rfl⟩
            obtain ⟨L, s2, hL, hL'⟩ : ∃ L : Nat, bits .and .u8 (s[k].toNat : Int) 15 = (L : Int) ∧ L < 16 ∧ Hid (s[k].toNat % 16 = L) := ⟨s[k].toNat % 16, and15 s[k], by omega, rfl⟩
            have hacc2 : Hid (acc ++ [92, 120, hexd H, hexd L] = 34 :: ((bytes s).take (k + 1)).flatMap q1) := Lib.hid (by rw [← hH'.out, ← hL'.out]; exact hacc.out)
            have HIH := Lib.hid (fun W => idxhex W H hH)
            have HIL := Lib.hid (fun W => idxhex W L hL)
            have hsz1 : w.heap.size ≤ w1.drew.heap.size := hz1
            clear hacc hL' hH' HD1 HD2 c1
            refine wp_region_sq 8 [(0, true), (1, true), (2, true), (3, true), (4, true), (5, true), (6, true), (7, false)] (fun _ => True) (by kernel_rfl) (by kernel_rfl) trivial (fun hS => ?_)
            iterate 3 (refine sq_t (o := ⟨_, _, _, _, _, _⟩) (v := ?_) rfl (by rfl) ?_ ?_; rotate_left; (· (intro w hSw; (try dsimp only at hSw); go_simp; try with_reducible rfl)); try simp only [Act.put, List.setIfInBounds_toArray, List.set_cons_zero, List.set_cons_succ])
            refine sq_t (o := ⟨_, _, _, _, _, _⟩) (v := .int .u8 ((hexd H).toNat : Int)) rfl (by rfl) (fun w' _ => by have h := HIH.out w'; simp [execOp, Act.eval, h]) ?_
            try simp only [Act.put, List.setIfInBounds_toArray, List.set_cons_zero, List.set_cons_succ]
            iterate 2 (refine sq_t (o := ⟨_, _, _, _, _, _⟩) (v := ?_) rfl (by rfl) ?_ ?_; rotate_left; (· (intro w hSw; (try dsimp only at hSw); go_simp; try with_reducible rfl)); try simp only [Act.put, List.setIfInBounds_toArray, List.set_cons_zero, List.set_cons_succ])
            refine sq_t (o := ⟨_, _, _, _, _, _⟩) (v := .int .u8 ((hexd L).toNat : Int)) rfl (by rfl) (fun w' _ => by have h := HIL.out w'; simp [execOp, Act.eval, h]) ?_
            try simp only [Act.put, List.setIfInBounds_toArray, List.set_cons_zero, List.set_cons_succ]
            refine sq_c rfl (fun K hK => ?_)
            go_simp
            refine hK.out _ _ trivial (fun hS => ?_)
            clear hK K
            try simp only [Act.put, List.setIfInBounds_toArray, List.set_cons_zero, List.set_cons_succ]
            simp only [wpSq, List.drop_succ_cons, List.drop_zero]
            go_wp2_with (first | (at_builtin; refine wpList_app elB (o := ⟨some 44, _, _, _, _, _⟩) rfl rfl (n := acc.length) (World.ownsRow.alloc HO1'.out _) rfl (w0 := w) (HB1'.out.alloc hsz1 _) (reads_new w1.drew 5 [bv 92, bv 120, bv (hexd H), bv (hexd L)]) rfl (by simp [bv, Value.oneCell']) (by simp; omega) (by decide) (by simp; omega) ?_; intro v9 w9 HO9 HB9 HG9; clear HG9) | fail)
            refine NoPanic.normal ?_
            go_wp2
            go_roundw
            case rel => exact ⟨k + 1, acc ++ [92, 120, hexd H, hexd L], by omega, by go_num, by simp; omega, hacc2, by simpa [bv] using HO9, HB9⟩
            case measure => simp [intOf]; omega
          · have c126 : (126 : Int) < (s[k].toNat : Int) := by omega
            go_wp2_with fail
            refine (HL.out _).mono ?_
            rintro e w1 ⟨rfl, hb⟩
            have hz1 : w.heap.size ≤ w1.heap.size := Nat.le_trans hz0 hb.size
            go_wp2_with fail
            have HO1' : Hid (w1.drew.ownsRow w.heap.size 5 1 (.slice A acc.length c) acc.length (acc.map bv)) := Lib.hid (own_below hO.out hb.drew)
            have HB1' : Hid (Below w.heap.size w w1.drew) := Lib.hid ((hB.out.trans (hb.mono hz0)).drew)
            obtain ⟨H, s1, hH, hH'⟩ : ∃ H : Nat, (s[k].toNat : Int) / 16 = (H : Int) ∧ H < 16 ∧ Hid (s[k].toNat / 16 = H) := ⟨s[k].toNat / 16, by omega, by omega, rfl⟩
            obtain ⟨L, s2, hL, hL'⟩ : ∃ L : Nat, bits .and .u8 (s[k].toNat : Int) 15 = (L : Int) ∧ L < 16 ∧ Hid (s[k].toNat % 16 = L) := ⟨s[k].toNat % 16, and15 s[k], by omega, rfl⟩
            have hacc2 : Hid (acc ++ [92, 120, hexd H, hexd L] = 34 :: ((bytes s).take (k + 1)).flatMap q1) := Lib.hid (by rw [← hH'.out, ← hL'.out]; exact hacc.out)
            have HIH := Lib.hid (fun W => idxhex W H hH)
            have HIL := Lib.hid (fun W => idxhex W L hL)
            have hsz1 : w.heap.size ≤ w1.drew.heap.size := hz1
            clear hacc hL' hH' HD1 HD2 c1
            refine wp_region_sq 8 [(0, true), (1, true), (2, true), (3, true), (4, true), (5, true), (6, true), (7, false)] (fun _ => True) (by kernel_rfl) (by kernel_rfl) trivial (fun hS => ?_)
            iterate 3 (refine sq_t (o := ⟨_, _, _, _, _, _⟩) (v := ?_) rfl (by rfl) ?_ ?_; rotate_left; (· (intro w hSw; (try dsimp only at hSw); go_simp; try with_reducible rfl)); try simp only [Act.put, List.setIfInBounds_toArray, List.set_cons_zero, List.set_cons_succ])
            refine sq_t (o := ⟨_, _, _, _, _, _⟩) (v := .int .u8 ((hexd H).toNat : Int)) rfl (by rfl) (fun w' _ => by have h := HIH.out w'; simp [execOp, Act.eval, h]) ?_
            try simp only [Act.put, List.setIfInBounds_toArray, List.set_cons_zero, List.set_cons_succ]
            iterate 2 (refine sq_t (o := ⟨_, _, _, _, _, _⟩) (v := ?_) rfl (by rfl) ?_ ?_; rotate_left; (· (intro w hSw; (try dsimp only at hSw); go_simp; try with_reducible rfl)); try simp only [Act.put, List.setIfInBounds_toArray, List.set_cons_zero, List.set_cons_succ])
            refine sq_t (o := ⟨_, _, _, _, _, _⟩) (v := .int .u8 ((hexd L).toNat : Int)) rfl (by rfl) (fun w' _ => by have h := HIL.out w'; simp [execOp, Act.eval, h]) ?_
            try simp only [Act.put, List.setIfInBounds_toArray, List.set_cons_zero, List.set_cons_succ]
            refine sq_c rfl (fun K hK => ?_)
            go_simp
            refine hK.out _ _ trivial (fun hS => ?_)
            clear hK K
            try simp only [Act.put, List.setIfInBounds_toArray, List.set_cons_zero, List.set_cons_succ]
            simp only [wpSq, List.drop_succ_cons, List.drop_zero]
            go_wp2_with (first | (at_builtin; refine wpList_app elB (o := ⟨some 44, _, _, _, _, _⟩) rfl rfl (n := acc.length) (World.ownsRow.alloc HO1'.out _) rfl (w0 := w) (HB1'.out.alloc hsz1 _) (reads_new w1.drew 5 [bv 92, bv 120, bv (hexd H), bv (hexd L)]) rfl (by simp [bv, Value.oneCell']) (by simp; omega) (by decide) (by simp; omega) ?_; intro v9 w9 HO9 HB9 HG9; clear HG9) | fail)
            refine NoPanic.normal ?_
            go_wp2
            go_roundw
            case rel => exact ⟨k + 1, acc ++ [92, 120, hexd H, hexd L], by omega, by go_num, by simp; omega, hacc2, by simpa [bv] using HO9, HB9⟩
            case measure => simp [intOf]; omega
        · have hq := Lib.hid (q1_plain hl c1)
          have hacc : Hid (acc ++ [s[k]] = 34 :: ((bytes s).take (k + 1)).flatMap q1) := Lib.hid (by rw [HF.out, hq.out, hA.out]; simp)
          have c32 : ¬ (s[k].toNat : Int) < 32 := by omega
          have c126 : ¬ (126 : Int) < (s[k].toNat : Int) := by omega
          clear hl hgk HF hq
          go_wp2_with fail
          refine (HL.out _).mono ?_
          rintro e w1 ⟨rfl, hb⟩
          have hz1 : w.heap.size ≤ w1.heap.size := Nat.le_trans hz0 hb.size
          go_wp2_with (first | (at_builtin; refine wpList_app elB (o := ⟨some 48, _, _, _, _, _⟩) rfl rfl (n := acc.length) (World.ownsRow.alloc (own_below hO.out hb) _) rfl (w0 := w) ((hB.out.trans (hb.mono hz0)).alloc hz1 _) (reads_new w1 5 [bv s[k]]) rfl (by simp [bv, Value.oneCell']) (by simp; omega) (by decide) (by simp; omega) ?_; intro v9 w9 HO9 HB9 HG9; clear HG9) | fail)
          go_roundw
          case rel => exact ⟨k + 1, acc ++ [s[k]], by omega, by go_num, by simp; omega, hacc, by simpa [bv] using HO9, HB9⟩
          case measure => simp [intOf]; omega
      · have hq := Lib.hid (q1_let hl)
        have hpos : (0 : Int) < ((letL s[k]).toNat : Int) := by
          have : (letL s[k]).toNat ≠ 0 := fun e => hl (UInt8.toNat_inj.1 e)
          omega
        have hacc : Hid (acc ++ [92, letL s[k]] = 34 :: ((bytes s).take (k + 1)).flatMap q1) := Lib.hid (by rw [HF.out, hq.out, hA.out]; simp)
        generalize letL s[k] = l at *
        clear hl hgk HF hq
        go_wp2_with fail
        refine (HL.out _).mono ?_
        rintro e w1 ⟨rfl, hb⟩
        have hz1 : w.heap.size ≤ w1.heap.size := Nat.le_trans hz0 hb.size
        go_wp2_with (first | (at_builtin; refine wpList_app elB (o := ⟨some 29, _, _, _, _, _⟩) rfl rfl (n := acc.length) (World.ownsRow.alloc (own_below hO.out hb) _) rfl (w0 := w) ((hB.out.trans (hb.mono hz0)).alloc hz1 _) (reads_new w1 5 [bv 92, bv l]) rfl (by simp [bv, Value.oneCell']) (by simp; omega) (by decide) (by simp; omega) ?_; intro v9 w9 HO9 HB9 HG9; clear HG9) | fail)
        go_roundw
        case rel => exact ⟨k + 1, acc ++ [92, l], by omega, by go_num, by simp; omega, hacc, by simpa [bv] using HO9, HB9⟩
        case measure => simp [intOf]; omega
    · have hfin : Hid (acc ++ [34] = quoteL (bytes s)) := Lib.hid (by
        have hk' : k = s.size := by omega
        rw [hA.out, hk', bytes_full, quoteL]; rfl)
      go_wp2_with (first | (at_builtin; refine wpList_app elB (o := ⟨some 52, _, _, _, _, _⟩) rfl rfl (n := acc.length) (World.ownsRow.alloc hO.out _) rfl (w0 := w) (hB.out.alloc hz0 _) (reads_new wr 5 [bv 34]) rfl (by simp [bv, Value.oneCell']) (by simp; omega) (by decide) (by simp; omega) ?_; intro v9 w9 HO9 HB9 HG9; clear HG9; obtain ⟨A9, c9, rfl, -⟩ := own_shape HO9.out; have hcv := run_string_own (l := acc ++ [34]) (A := A9) (c := c9) (base := w.heap.size) (w := w9) (by have := HO9.out; simpa using this); simp only [List.length_append, List.length_cons, List.length_nil] at hcv) | fail)
      go_ret
      exact ⟨by rw [← hfin.out]; rfl, HB9.out⟩
end Go.Proofs.YtfcegalckjeafaaGreatDoor
namespace Go.Proofs.YtfcegalckjeafaaGreatDoor
open Go.RowKit Go.BigFrame
/-- How a thing stands in memory: so many cells. -/
structure Enc (α : Type) where
  l : α → List Value
  sz : Nat
  len : ∀ a, (l a).length = sz
  one : ∀ a, ∀ u ∈ l a, u.oneCell' = true
namespace Enc
variable {α : Type} (E : Enc α)
def fl (xs : List α) : List Value := xs.flatMap E.l
theorem fl_app (a b : List α) : E.fl (a ++ b) = E.fl a ++ E.fl b := by simp [fl]
theorem fl_cons (a : α) (b : List α) : E.fl (a :: b) = E.l a ++ E.fl b := by simp [fl]
theorem fl_one (xs : List α) : ∀ u ∈ E.fl xs, u.oneCell' = true := by
  intro u hu
  simp only [fl, List.mem_flatMap] at hu
  obtain ⟨v, _, h⟩ := hu
  exact E.one v u h
theorem fl_take (xs : List α) (k : Nat) : (E.fl xs).take (k * E.sz) = E.fl (xs.take k) := by
  induction xs generalizing k with
  | nil => simp [fl]
  | cons v vs ih =>
    cases k with
    | zero => simp [fl]
    | succ k =>
      have := ih k
      rw [List.take_succ_cons, fl_cons, fl_cons, show (k + 1) * E.sz = (E.l v).length + k * E.sz by rw [E.len, Nat.add_mul]; omega, List.take_length_add_append, this]
theorem fl_drop (xs : List α) (k : Nat) : (E.fl xs).drop (k * E.sz) = E.fl (xs.drop k) := by
  induction xs generalizing k with
  | nil => simp [fl]
  | cons v vs ih =>
    cases k with
    | zero => simp [fl]
    | succ k =>
      have := ih k
      rw [List.drop_succ_cons, fl_cons, show (k + 1) * E.sz = (E.l v).length + k * E.sz by rw [E.len, Nat.add_mul]; omega, List.drop_length_add_append, this]
theorem fl_at (xs : List α) (k j : Nat) (v : α) (h : xs[k]? = some v) (hj : j < E.sz) : (E.fl xs)[k * E.sz + j]? = (E.l v)[j]? := by
  have h1 : (E.fl xs)[k * E.sz + j]? = ((E.fl xs).drop (k * E.sz))[j]? := by rw [List.getElem?_drop]
  rw [h1, fl_drop]
  obtain ⟨hk, e⟩ := List.getElem?_eq_some_iff.1 h
  rw [List.drop_eq_getElem_cons hk, e, fl_cons, List.getElem?_append_left (by rw [E.len]; exact hj)]
theorem splice_fl {xs : List α} {k : Nat} {v : α} (hk : k < xs.length) : splice (E.fl xs) (k * E.sz) (E.l v) = E.fl (xs.set k v) := by
  simp only [splice]
  rw [fl_take, show k * E.sz + (E.l v).length = (k + 1) * E.sz by rw [E.len, Nat.add_mul]; omega, fl_drop, List.set_eq_take_append_cons_drop, if_pos hk, fl_app, fl_cons]
theorem cells {w : World} {S : Nat → Prop} {A : Option Addr} {n k : Nat} {xs : List α} {v : α} (h : Reads w S E.sz A n (E.fl xs)) (hv : xs[k]? = some v) (hn : k < n) : ∃ ad, A = some ad ∧ S ad.block ∧ ∀ j u, (E.l v)[j]? = some u → w.cell? ((ad.add (k * E.sz)).add j) = some u := by
  obtain ⟨ad, e, hs, hc⟩ := h.2 (by omega)
  refine ⟨ad, e, hs, fun j u hu => ?_⟩
  rw [add_of_add]
  refine hc _ u ?_
  rw [E.fl_at xs k j v hv (by have := (List.getElem?_eq_some_iff.1 hu).1; rwa [E.len] at this), hu]
end Enc
/-- A struct in a box. -/
def EB {α : Type} (E : Enc α) (t : TypeId) (w : World) (g : Nat) (x : α) : Prop := Blk w g t (E.l x).toArray
/-- A whole struct is stored. -/
theorem wpList_stE {α : Type} {E : Enc α} {ty : Nat} {ops : Array Oper} {rest : List Oper} {o : Oper} {a : Act} {w : World} {Q : Exit → Act → World → Prop} (hgd : o.guard = none) {p x : Operand} (ho : o.op = .store ty p x) (hi : (Tryz.prog.info? ty).map (·.size) = some E.sz)
    {g t : Nat} (hp : a.eval p = .pointer (some ⟨g, 0, none⟩)) (v : α) {cur : Array Value} (hg : Blk w g t cur) (hcur : cur.size = E.sz) (hx : a.eval x = .agg (E.l v).toArray)
    (h : ∀ w', Hid (EB E t w' g v) → (∀ k, k ≠ g → w'.heap[k]? = w.heap[k]?) → (∀ B w0, Below B w0 w → B ≤ g → Below B w0 w') → wpList Tryz.prog ops Q rest (a.put o.dst undef) w') : wpList Tryz.prog ops Q (o :: rest) a w :=
  wpList_store_row hgd ty p x ho g hp (E.l v).toArray hx _ _ hg (by rw [hi]; simp [E.len]) (by rw [hcur]; simp [E.len]) (by
    rw [Array.all_eq_true_iff_forall_mem]; intro u hu; exact E.one v u (by simpa using hu)) h
end Go.Proofs.YtfcegalckjeafaaGreatDoor
