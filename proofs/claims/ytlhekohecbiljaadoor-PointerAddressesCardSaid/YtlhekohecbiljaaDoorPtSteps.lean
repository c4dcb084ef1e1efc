/-
  STEPS as they lie in memory; Short; Of, of the program and of the document.
-/
import Derived.Test.YtlhekohecbiljaaDoorPtDec2
import Derived.Test.YtlhekohecbiljaaDoorPtSplitR
namespace Go.Proofs.YtlhekohecbiljaaDoor
open Go.RowKit Go.BigFrame

/-- A step. -/
structure St where
  K : Int
  I : Int
  T : List UInt8
/-- A slice of steps. -/
def StepsIn (w : World) (A : Option Addr) (l : List St) : Prop := 0 < l.length → ∃ ad : Addr, A = some ad ∧ ad.block < w.heap.size ∧ ∀ (k : Nat) (o : St), l[k]? = some o →
  w.cell? (ad.add (k * 3)) = some (.int .i64 o.K) ∧ w.cell? ⟨(ad.add (k * 3)).block, (ad.add (k * 3)).off + 1, none⟩ = some (.int .i64 o.I) ∧ w.cell? ⟨(ad.add (k * 3)).block, (ad.add (k * 3)).off + 2, none⟩ = some (.string ⟨o.T.toArray⟩)
theorem StepsIn.below {w w' : World} {A : Option Addr} {l : List St} (h : StepsIn w A l) (hb : Below w.heap.size w w') : StepsIn w' A l := fun hn => by
  obtain ⟨ad, e1, e2, e3⟩ := h hn
  refine ⟨ad, e1, Nat.lt_of_lt_of_le e2 hb.size, fun k o ho => ?_⟩
  obtain ⟨a, b, c⟩ := e3 k o ho
  have hbk : (ad.add (k * 3)).block < w.heap.size := by rw [block_of_add]; exact e2
  exact ⟨(hb.cell hbk).trans a, (hb.cell (p := ⟨(ad.add (k * 3)).block, _, none⟩) hbk).trans b, (hb.cell (p := ⟨(ad.add (k * 3)).block, _, none⟩) hbk).trans c⟩
theorem StepsIn.at_ {w : World} {A : Option Addr} {l : List St} (h : StepsIn w A l) {k : Nat} (hk : k < l.length) : ∃ ad K I T, A = some ad ∧ l[k]? = some ⟨K, I, T⟩ ∧
    w.cell? (ad.add (k * 3)) = some (.int .i64 K) ∧ w.cell? ⟨(ad.add (k * 3)).block, (ad.add (k * 3)).off + 1, none⟩ = some (.int .i64 I) ∧ w.cell? ⟨(ad.add (k * 3)).block, (ad.add (k * 3)).off + 2, none⟩ = some (.string ⟨T.toArray⟩) := by
  obtain ⟨ad, e1, e2, e3⟩ := h (by omega)
  have := e3 k l[k] (List.getElem?_eq_getElem hk)
  exact ⟨ad, l[k].K, l[k].I, l[k].T, e1, List.getElem?_eq_getElem hk, this⟩
/-- Few steps, with short texts. -/
def shortS (l : List St) : Bool := l.all (fun s => decide (s.T.length ≤ 3000)) && decide (l.length ≤ 70)

set_option maxRecDepth 100000 in
set_option maxHeartbeats 1000000 in
theorem shortS_any (A : Option Addr) (c : Nat) (l : List St) (w : World) (h : StepsIn w A l) (hn : l.length ≤ 9223372036854775807) :
    Calls Tryd.prog 23 #[.slice A l.length c] w fun e w' => e = .returned (.bool (shortS l)) ∧ Below w.heap.size w w' := by
  have H := Lib.hid h
  clear h
  obtain ⟨R, hR⟩ : ∃ R, R = shortS l := ⟨_, rfl⟩
  have HR := Lib.hid hR
  rw [← hR]
  clear hR
  go_enter Tryd.func23, Tryd.ntmps23
  go_wp2
  go_loopw [7] (fun i wr => ∃ k : Nat, k ≤ l.length ∧ i = .int .i64 k ∧ Hid ((l.take k).all (fun s => decide (s.T.length ≤ 3000)) = true) ∧ Hid (Below w.heap.size w wr)) (fun i _ => (l.length - intOf i).toNat)
  case atStart => exact ⟨0, Nat.zero_le _, rfl, by simp [Hid], Below.refl _ _⟩
  case round =>
    obtain ⟨k, hk, rfl, hp, hB⟩ := hrel
    by_cases hlt : k < l.length
    · obtain ⟨ad, K, I, T, rfl, hs, hc0, hc1, hc2⟩ := (H.out.below hB.out).at_ hlt
      have HS := Lib.hid hs
      clear hs
      have hz0 := hB.out.size
      have hsz := size_mk T
      by_cases h3 : (3000 : Int) < T.length
      · have hX : Hid (R = false) := Lib.hid (by
          rw [HR.out]
          have : (l.all fun s => decide (s.T.length ≤ 3000)) = false := by
            rw [Bool.eq_false_iff]
            intro ha
            have := List.all_eq_true.1 ha _ (List.mem_of_getElem? HS.out)
            simp at this
            omega
          simp [shortS, this])
        go_wp2
        go_ret
        exact ⟨by rw [hX.out]; rfl, hB.out.alloc hz0 _⟩
      · go_wp2
        refine ⟨⟨k + 1, by omega, by simp, ?_, hB.out.alloc hz0 _⟩, by simp [intOf]; omega⟩
        show ((l.take (k + 1)).all fun s => decide (s.T.length ≤ 3000)) = true
        rw [List.take_add_one, HS.out, List.all_append, hp.out]
        simp
        omega
    · have hke : Hid (k = l.length) := Lib.hid (by omega)
      go_wp2
      go_ret
      refine ⟨?_, hB.out⟩
      have h1 := hp.out
      rw [hke.out, List.take_length] at h1
      rw [HR.out, shortS, h1]
      show Ending.returned (.bool (decide ((l.length : Int) ≤ 70))) = _
      rw [show decide ((l.length : Int) ≤ 70) = decide (l.length ≤ 70) from decide_eq_decide.2 (by omega)]
      simp

/-- A step's token; or why there is none. -/
def tokOf (s : St) : List UInt8 ⊕ Int := if s.K = 1 then .inl s.T else if s.K = 2 then .inr 12 else if s.K = 0 then (if s.I < 0 then .inr 4 else .inl (decL s.I)) else .inr 1
/-- The tokens of steps, the first of a number; or the step that has none. -/
def offL : List St → Nat → List (List UInt8) ⊕ (Nat × Int)
  | [], _ => .inl []
  | s :: r, i => match tokOf s with
    | .inr c => .inr (i, c)
    | .inl t => match offL r (i + 1) with | .inl ts => .inl (t :: ts) | .inr p => .inr p
def withO (acc : List (List UInt8)) : List (List UInt8) ⊕ (Nat × Int) → List (List UInt8) ⊕ (Nat × Int)
  | .inl r => .inl (acc ++ r)
  | .inr p => .inr p
theorem withO_bad (acc : List (List UInt8)) (l : List St) (k : Nat) (s : St) (c : Int) (hs : l[k]? = some s) (h : tokOf s = .inr c) : withO acc (offL (l.drop k) k) = .inr (k, c) := by
  obtain ⟨h1, h2⟩ := List.getElem?_eq_some_iff.1 hs
  rw [List.drop_eq_getElem_cons h1, h2, offL, h]
  rfl
theorem withO_ok (acc : List (List UInt8)) (l : List St) (k : Nat) (s : St) (t : List UInt8) (hs : l[k]? = some s) (h : tokOf s = .inl t) : withO acc (offL (l.drop k) k) = withO (acc ++ [t]) (offL (l.drop (k + 1)) (k + 1)) := by
  obtain ⟨h1, h2⟩ := List.getElem?_eq_some_iff.1 hs
  rw [List.drop_eq_getElem_cons h1, h2, offL, h]
  simp only []
  cases offL (l.drop (k + 1)) (k + 1) <;> simp [withO]
theorem esc_digits (l : List UInt8) (h : ∀ b ∈ l, 48 ≤ b.toNat ∧ b.toNat ≤ 57) : escL l = l := by
  induction l with
  | nil => rfl
  | cons b t ih =>
    rw [show escL (b :: t) = esc1 b ++ escL t from rfl, ih (fun x hx => h x (by simp [hx]))]
    have := h b (by simp)
    have e : esc1 b = [b] := by
      unfold esc1
      rw [if_neg (by rintro rfl; revert this; decide), if_neg (by rintro rfl; revert this; decide)]
    rw [e]
    rfl
theorem decL_dig (n : Int) (h : ¬ n < 0) : escL (decL n) = decL n := by
  rw [decL_pos n h]
  exact esc_digits _ (ndig_dig n.natAbs n.natAbs (Nat.le_refl _))

/-- What Of hands back. -/
def OfOut (R : List (List UInt8) ⊕ (Nat × Int)) (w : World) (e : Ending) (w' : World) : Prop := Below w.heap.size w w' ∧ match R with
  | .inl ts => e = .returned (.tuple #[.string ⟨(joinL ts).toArray⟩, .nilIface])
  | .inr p => ∃ v, e = .returned (.tuple #[.string ⟨#[]⟩, v]) ∧ ErrAt w' v p.1 p.2
/-- What the document's hands back. -/
def ofR : List (List UInt8) ⊕ (Nat × Int) → Value
  | .inl ts => .tuple #[.string ⟨(joinL ts).toArray⟩, .int .i64 0, .int .i64 0]
  | .inr p => .tuple #[.string ⟨#[]⟩, .int .i64 p.1, .int .i64 p.2]
/-- A list of tokens that is not too long. -/
def Fair (acc : List (List UInt8)) (k : Nat) : Prop := acc.length = k ∧ ∀ t ∈ acc, t.length ≤ 3000
theorem Fair.snoc {acc : List (List UInt8)} {k : Nat} (h : Fair acc k) {t : List UInt8} (ht : t.length ≤ 3000) : Fair (acc ++ [t]) (k + 1) := by
  refine ⟨by simp [h.1], fun x hx => ?_⟩
  rcases List.mem_append.1 hx with hx | hx
  · exact h.2 x hx
  · rw [List.mem_singleton] at hx
    rw [hx]
    exact ht
theorem Fair.join {acc : List (List UInt8)} {k : Nat} (h : Fair acc k) (hk : k ≤ 70) : (joinL acc).length ≤ 500000 := by
  have h1 := joinL_len acc 3000 h.2
  have h2 : acc.length * (2 * 3000 + 1) ≤ 70 * (2 * 3000 + 1) := Nat.mul_le_mul_right _ (by rw [h.1]; exact hk)
  omega

set_option maxRecDepth 100000 in
set_option maxHeartbeats 4000000 in
theorem of_any (A : Option Addr) (c : Nat) (l : List St) (w : World) (h : StepsIn w A l) (hn : l.length ≤ 70) (hs : ∀ s ∈ l, s.T.length ≤ 3000 ∧ -9223372036854775808 ≤ s.I ∧ s.I ≤ 9223372036854775807) :
    Calls Tryd.prog 24 #[.slice A l.length c] w (OfOut (offL l 0) w) := by
  have H := Lib.hid h
  have HT := Lib.hid hs
  clear h hs
  obtain ⟨R, hR⟩ : ∃ R, R = offL l 0 := ⟨_, rfl⟩
  have HR := Lib.hid hR
  rw [← hR]
  clear hR
  go_enter Tryd.func24, Tryd.ntmps24
  go_wp2
  go_loopg [4, 9] l.length (fun g p i wr => ∃ (k : Nat) (acc : List (List UInt8)), k + g = l.length ∧ i = .int .i64 k ∧ p = .string ⟨(joinL acc).toArray⟩ ∧ Hid (Fair acc k) ∧ Hid (Below w.heap.size w wr) ∧ Hid (withO acc (offL (l.drop k) k) = R))
  case atStart => exact ⟨0, [], by omega, rfl, rfl, ⟨rfl, by simp⟩, Below.refl _ _, by show withO [] (offL l 0) = R; rw [HR.out]; cases offL l 0 <;> simp [withO]⟩
  case round =>
    obtain ⟨k, acc, hkg, rfl, rfl, hF, hB, hO⟩ := hrel
    by_cases hlt : k < l.length
    · obtain ⟨ad, K, I, T, rfl, hs, hc0, hc1, hc2⟩ := (H.out.below hB.out).at_ hlt
      have hz0 := hB.out.size
      have HS := Lib.hid hs
      have ht3 := HT.out _ (List.mem_of_getElem? hs)
      have HI := Lib.hid ht3.2
      have ht0 : T.length ≤ 3000 := ht3.1
      clear hs ht3
      have HJ := Lib.hid (hF.out.join (by omega))
      have hw1 := Lib.hid (hB.out.alloc hz0 (.cells #[.int .i64 K, .int .i64 I, .string ⟨T.toArray⟩] 57))
      by_cases h1 : K = 1
      · subst h1
        have hN : Hid (withO (acc ++ [T]) (offL (l.drop (k + 1)) (k + 1)) = R) := Lib.hid (by rw [← hO.out, withO_ok acc l k _ T HS.out (by simp [tokOf])])
        have hF1 := Lib.hid (hF.out.snoc ht0)
        have hj := Lib.hid (joinL_snoc acc T)
        have hl4 := Lib.hid (escL_len T)
        go_wp2_with fail
        refine (escape_any ⟨T.toArray⟩ _ (by rw [size_mk]; omega)).mono ?_
        rintro e w9 ⟨rfl, hb9⟩
        rw [bytes_mk]
        have HB9 := Lib.hid (hw1.out.trans (hb9.mono (by simp; omega)))
        have a1 := add_sum [47] (escL T) w9 (by have := hl4.out; simp; omega)
        have a2 : ¬ 9223372036854775807 < (joinL acc).length + ((escL T).length + 1) := by have := hl4.out; have := HJ.out; omega
        clear hb9
        go_wp2_with fail
        go_roundg (l.length - (k + 1))
        case measure => omega
        case rel => exact ⟨k + 1, acc ++ [T], by omega, by simp, by rw [hj.out, ByteArray.mk_append_mk]; rfl, hF1, HB9, hN⟩
      · by_cases h2 : K = 2
        · subst h2
          have hX : Hid (R = .inr (k, 12)) := Lib.hid (by rw [← hO.out, withO_bad acc l k _ 12 HS.out (by simp [tokOf])])
          go_wp2_with fail
          refine (new_err 12 k _ (by decide)).mono ?_
          rintro e w9 ⟨v, rfl, hv, hb⟩
          have HV := Lib.hid hv
          have HB9 := Lib.hid (hw1.out.trans (hb.mono (by simp; omega)))
          clear hv hb
          go_wp2_with fail
          go_ret2
          refine ⟨HB9.out, ?_⟩
          rw [hX.out]
          exact ⟨v, rfl, HV.out⟩
        · by_cases h0 : K = 0
          · subst h0
            by_cases hneg : I < 0
            · have hX : Hid (R = .inr (k, 4)) := Lib.hid (by rw [← hO.out, withO_bad acc l k _ 4 HS.out (by simp [tokOf, hneg])])
              go_wp2_with fail
              refine (new_err 4 k _ (by decide)).mono ?_
              rintro e w9 ⟨v, rfl, hv, hb⟩
              have HV := Lib.hid hv
              have HB9 := Lib.hid (hw1.out.trans (hb.mono (by simp; omega)))
              clear hv hb
              go_wp2_with fail
              go_ret2
              refine ⟨HB9.out, ?_⟩
              rw [hX.out]
              exact ⟨v, rfl, HV.out⟩
            · have hN : Hid (withO (acc ++ [decL I]) (offL (l.drop (k + 1)) (k + 1)) = R) := Lib.hid (by rw [← hO.out, withO_ok acc l k _ (decL I) HS.out (by simp [tokOf, hneg])])
              have hdl := Lib.hid (decL_len I HI.out.1 HI.out.2)
              have hF1 := Lib.hid (hF.out.snoc (t := decL I) (by have := hdl.out; omega))
              have hj : Hid (joinL (acc ++ [decL I]) = joinL acc ++ ([47] ++ decL I)) := Lib.hid (by rw [joinL_snoc, decL_dig I hneg])
              go_wp2_with fail
              refine (dec_any I _ HI.out.1 HI.out.2).mono ?_
              rintro e w9 ⟨rfl, hb9⟩
              have HB9 := Lib.hid (hw1.out.trans (hb9.mono (by simp; omega)))
              have a1 := add_sum [47] (decL I) w9 (by have := hdl.out; simp; omega)
              have a2 : ¬ 9223372036854775807 < (joinL acc).length + ((decL I).length + 1) := by have := hdl.out; have := HJ.out; omega
              clear hb9
              go_wp2_with fail
              go_roundg (l.length - (k + 1))
              case measure => omega
              case rel => exact ⟨k + 1, acc ++ [decL I], by omega, by simp, by rw [hj.out, ByteArray.mk_append_mk]; rfl, hF1, HB9, hN⟩
          · have hX : Hid (R = .inr (k, 1)) := Lib.hid (by rw [← hO.out, withO_bad acc l k _ 1 HS.out (by simp [tokOf, h0, h1, h2])])
            go_wp2_with fail
            refine (new_err 1 k _ (by decide)).mono ?_
            rintro e w9 ⟨v, rfl, hv, hb⟩
            have HV := Lib.hid hv
            have HB9 := Lib.hid (hw1.out.trans (hb.mono (by simp; omega)))
            clear hv hb
            go_wp2_with fail
            go_ret2
            refine ⟨HB9.out, ?_⟩
            rw [hX.out]
            exact ⟨v, rfl, HV.out⟩
    · have hX : Hid (R = .inl acc) := Lib.hid (by
        rw [← hO.out, List.drop_of_length_le (by omega)]
        simp [offL, withO])
      go_wp2_with fail
      go_ret2
      refine ⟨hB.out, ?_⟩
      rw [hX.out]
      rfl
end Go.Proofs.YtlhekohecbiljaaDoor
