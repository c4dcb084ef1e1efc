/-
  LISTS OF TEXTS: short, Words, Join.
-/
import Derived.Test.YtlhekohecbiljaaDoorPtUn
import Derived.Deep.QuietTactic
import Derived.BigQuiet
namespace Go.Proofs.YtlhekohecbiljaaDoor
open Go.RowKit Go.BigFrame

/-- A text's value. -/
def sv (l : List UInt8) : Value := .string ⟨l.toArray⟩
theorem sv_one (l : List UInt8) : (sv l).oneCell' = true := rfl
theorem bytes_mk (l : List UInt8) : bytes ⟨l.toArray⟩ = l := rfl
theorem size_mk (l : List UInt8) : (⟨l.toArray⟩ : ByteArray).size = l.length := by simp [ByteArray.size]
/-- A slice of texts. -/
def Strs (w : World) (A : Option Addr) (ts : List (List UInt8)) : Prop := Reads w (fun k => k < w.heap.size) 1 A ts.length (ts.map sv)
theorem Strs.below {w w' : World} {A : Option Addr} {ts : List (List UInt8)} (h : Strs w A ts) (hb : Below w.heap.size w w') : Strs w' A ts :=
  (Reads.below h hb (fun _ h => h)).more (fun k hk => Nat.lt_of_lt_of_le hk hb.size)
theorem Strs.at_ {w : World} {A : Option Addr} {ts : List (List UInt8)} (h : Strs w A ts) {k : Nat} (hk : k < ts.length) : ∃ ad, A = some ad ∧ w.cell? (ad.add k) = some (.string ⟨ts[k].toArray⟩) := by
  obtain ⟨ad, u, e1, -, hu, hc⟩ := Reads.at_ h hk
  rw [List.getElem?_map, List.getElem?_eq_getElem hk] at hu
  simp at hu
  exact ⟨ad, e1, by rw [hc, ← hu]; rfl⟩
/-- Few tokens, and short ones. -/
def shortL (ts : List (List UInt8)) : Bool := ts.all (fun t => decide (t.length ≤ 300)) && decide (ts.length ≤ 80)

set_option maxRecDepth 100000 in
set_option maxHeartbeats 1000000 in
theorem short_any (A : Option Addr) (c : Nat) (ts : List (List UInt8)) (w : World) (h : Strs w A ts) (hn : ts.length ≤ 9223372036854775807) :
    Calls Tryd.prog 15 #[.slice A ts.length c] w fun e w' => e = .returned (.bool (shortL ts)) ∧ w' = w := by
  have H := Lib.hid h
  clear h
  obtain ⟨R, hR⟩ : ∃ R, R = shortL ts := ⟨_, rfl⟩
  have HR := Lib.hid hR
  rw [← hR]
  clear hR
  go_enter Tryd.func15, Tryd.ntmps15
  go_wp2
  go_loop [7] (fun i => ∃ k : Nat, k ≤ ts.length ∧ i = .int .i64 k ∧ Hid ((ts.take k).all (fun t => decide (t.length ≤ 300)) = true)) (fun i => match i with | .int _ m => ts.length - m.toNat | _ => 0)
  case atStart => exact ⟨0, Nat.zero_le _, rfl, by simp [Hid]⟩
  case round =>
    obtain ⟨k, hk, rfl, hp⟩ := hrel
    by_cases hlt : k < ts.length
    · obtain ⟨ad, rfl, hc⟩ := H.out.at_ hlt
      have hsz := size_mk ts[k]
      by_cases h3 : (300 : Int) < ts[k].length
      · have hX : Hid (R = false) := Lib.hid (by
          rw [HR.out]
          have : (ts.all fun t => decide (t.length ≤ 300)) = false := by
            rw [Bool.eq_false_iff]
            intro ha
            have := List.all_eq_true.1 ha _ (List.getElem_mem hlt)
            simp at this
            omega
          simp [shortL, this])
        go_wp2
        go_ret
        exact ⟨by rw [hX.out]; rfl, rfl⟩
      · go_wp2
        refine ⟨⟨k + 1, by omega, by simp, ?_⟩, by simp; omega⟩
        show ((ts.take (k + 1)).all fun t => decide (t.length ≤ 300)) = true
        rw [List.take_add_one, List.getElem?_eq_getElem hlt, List.all_append, hp.out]
        simp
        omega
    · have hke : Hid (k = ts.length) := Lib.hid (by omega)
      go_wp2
      go_ret
      refine ⟨?_, rfl⟩
      have h1 := hp.out
      rw [hke.out, List.take_length] at h1
      rw [HR.out, shortL, h1]
      show Ending.returned (.bool (decide ((ts.length : Int) ≤ 80))) = _
      rw [show decide ((ts.length : Int) ≤ 80) = decide (ts.length ≤ 80) from decide_eq_decide.2 (by omega)]
      simp

set_option maxRecDepth 100000 in
set_option maxHeartbeats 1000000 in
theorem words_any (A B : Option Addr) (c d : Nat) (ts us : List (List UInt8)) (w : World) (h1 : Strs w A ts) (h2 : Strs w B us) (hn : ts.length ≤ 9223372036854775807) :
    Calls Tryd.prog 18 #[.slice A ts.length c, .slice B us.length d] w fun e w' => e = .returned (.bool (decide (ts = us))) ∧ Below w.heap.size w w' := by
  have H1 := Lib.hid h1
  have H2 := Lib.hid h2
  clear h1 h2
  by_cases hl : (ts.length : Int) = us.length
  · obtain ⟨R, hR⟩ : ∃ R, R = decide (ts = us) := ⟨_, rfl⟩
    have HR := Lib.hid hR
    rw [← hR]
    clear hR
    go_enter Tryd.func18, Tryd.ntmps18
    go_wp2
    go_loopw [13] (fun i wr => ∃ k : Nat, k ≤ ts.length ∧ i = .int .i64 k ∧ Hid (ts.take k = us.take k) ∧ Hid (Below w.heap.size w wr)) (fun i _ => (ts.length - intOf i).toNat)
    case atStart => exact ⟨0, Nat.zero_le _, rfl, rfl, Below.refl _ _⟩
    case round =>
      obtain ⟨k, hk, rfl, hp, hB⟩ := hrel
      by_cases hlt : k < ts.length
      · have hlu : k < us.length := by omega
        obtain ⟨ad, rfl, hc⟩ := (H1.out.below hB.out).at_ hlt
        obtain ⟨bd, rfl, hd⟩ := (H2.out.below hB.out).at_ hlu
        have hlu' : (k : Int) < us.length := by omega
        go_wp2
        go_quiet (fail)
        have hBn : Hid (Below w.heap.size w (wr.drewN nq)) := Lib.hid (hB.out.trans ⟨rfl, rfl, rfl, Nat.le_refl _, fun _ _ => rfl⟩)
        go_wp2
        · rename_i h
          have he : ¬ ts[k] = us[k] := by simpa using h
          have hX : Hid (R = false) := Lib.hid (by
            rw [HR.out]
            simp
            rintro rfl
            exact he rfl)
          go_ret
          exact ⟨by rw [hX.out]; rfl, hBn.out⟩
        · rename_i h
          have he : ts[k] = us[k] := by simpa using h
          refine ⟨⟨k + 1, by omega, by simp, ?_, hBn⟩, by simp [intOf]; omega⟩
          show ts.take (k + 1) = us.take (k + 1)
          rw [List.take_add_one, List.take_add_one, hp.out, List.getElem?_eq_getElem hlt, List.getElem?_eq_getElem hlu, he]
      · have hke : Hid (k = ts.length) := Lib.hid (by omega)
        go_wp2
        go_ret
        refine ⟨?_, hB.out⟩
        have h1 := hp.out
        rw [hke.out, List.take_length, show ts.length = us.length by omega, List.take_length] at h1
        rw [HR.out, h1]
        simp
  · have hX : decide (ts = us) = false := by
      simp
      intro e
      exact hl (by rw [e])
    rw [hX]
    clear hX
    go_enter Tryd.func18, Tryd.ntmps18
    go_wp2
    go_ret
    exact ⟨rfl, Below.refl _ _⟩

/-- The pointer of tokens. -/
def joinL (ts : List (List UInt8)) : List UInt8 := ts.flatMap fun t => 47 :: escL t
theorem joinL_snoc (ts : List (List UInt8)) (t : List UInt8) : joinL (ts ++ [t]) = joinL ts ++ ([47] ++ escL t) := by simp [joinL]
theorem joinL_len (ts : List (List UInt8)) (n : Nat) (h : ∀ t ∈ ts, t.length ≤ n) : (joinL ts).length ≤ ts.length * (2 * n + 1) := by
  induction ts with
  | nil => simp [joinL]
  | cons t r ih =>
    have h1 := escL_len t
    have h2 := h t (by simp)
    have h3 := ih (fun x hx => h x (by simp [hx]))
    rw [show joinL (t :: r) = 47 :: escL t ++ joinL r from rfl, List.length_append, List.length_cons, List.length_cons, Nat.succ_mul]
    omega
theorem add_sum (x y : List UInt8) (w : World) (h : x.length + y.length ≤ 9223372036854775807) : (Op.stringOp .add ⟨x.toArray⟩ ⟨y.toArray⟩).run Tryd.prog w = .ok (.string ⟨(x ++ y).toArray⟩) w := by
  rw [run_string_add_sum w _ _ (by rw [size_mk, size_mk]; exact h), ByteArray.mk_append_mk]

set_option maxRecDepth 100000 in
set_option maxHeartbeats 1000000 in
theorem join_any (A : Option Addr) (c : Nat) (ts : List (List UInt8)) (w : World) (h : Strs w A ts) (hn : ts.length ≤ 16777216) (hs : ∀ t ∈ ts, t.length ≤ 16777216) :
    Calls Tryd.prog 17 #[.slice A ts.length c] w fun e w' => e = .returned (.string ⟨(joinL ts).toArray⟩) ∧ Below w.heap.size w w' := by
  have H := Lib.hid h
  have HS := Lib.hid hs
  clear h hs
  go_enter Tryd.func17, Tryd.ntmps17
  go_wp2
  go_loopw [3, 8] (fun v i wr => ∃ k : Nat, k ≤ ts.length ∧ i = .int .i64 k ∧ v = .string ⟨(joinL (ts.take k)).toArray⟩ ∧ Hid (Below w.heap.size w wr)) (fun _ i _ => (ts.length - intOf i).toNat)
  case atStart => exact ⟨0, Nat.zero_le _, rfl, rfl, Below.refl _ _⟩
  case round =>
    obtain ⟨k, hk, rfl, rfl, hB⟩ := hrel
    by_cases hlt : k < ts.length
    · obtain ⟨ad, rfl, hc⟩ := (H.out.below hB.out).at_ hlt
      have hz0 := hB.out.size
      have hl1 := joinL_len (ts.take k) 16777216 (fun t ht => HS.out t (List.mem_of_mem_take ht))
      have hl2 : (ts.take k).length ≤ 16777216 := by rw [List.length_take]; omega
      have hl3 := HS.out ts[k] (List.getElem_mem hlt)
      have hl4 := escL_len ts[k]
      have hl5 : (joinL (ts.take k)).length ≤ 16777216 * 33554433 := Nat.le_trans hl1 (Nat.mul_le_mul hl2 (by omega))
      have hj : Hid (joinL (ts.take (k + 1)) = joinL (ts.take k) ++ ([47] ++ escL ts[k])) := Lib.hid (by rw [List.take_add_one, List.getElem?_eq_getElem hlt]; exact joinL_snoc _ _)
      go_wp2_with fail
      refine (escape_any ⟨ts[k].toArray⟩ wr (by rw [size_mk]; exact hl3)).mono ?_
      rintro e w9 ⟨rfl, hb9⟩
      rw [bytes_mk]
      have HB9 := Lib.hid (hB.out.trans (hb9.mono hz0))
      have a1 := add_sum [47] (escL ts[k]) w9 (by simp; omega)
      have a2 : ¬ 9223372036854775807 < (joinL (ts.take k)).length + ((escL ts[k]).length + 1) := by omega
      clear hl1 hl2 hl3 hl4 hl5 hb9
      go_wp2
      exact ⟨⟨k + 1, by omega, by simp, by rw [hj.out, ByteArray.mk_append_mk]; rfl, HB9⟩, by simp [intOf]; omega⟩
    · have hke : Hid (k = ts.length) := Lib.hid (by omega)
      go_wp2
      go_ret
      refine ⟨?_, hB.out⟩
      show Ending.returned (.string ⟨(joinL (ts.take k)).toArray⟩) = _
      rw [hke.out, List.take_length]
end Go.Proofs.YtlhekohecbiljaaDoor
