/-
  Split and Join of the document; Begins of both.
-/
import Derived.Test.YtlhekohecbiljaaDoorPtLive
import Derived.Laws.OwnMore
import Derived.Deep.LoopGhost
namespace Go.Proofs.YtlhekohecbiljaaDoor
open Go.RowKit Go.BigFrame Go.Shelf

theorem spl_end : ∀ l : List UInt8, (∀ b ∈ l, b ≠ 47) → spl l = [l]
  | [], _ => rfl
  | b :: t, h => by rw [spl, if_neg (h b (by simp)), spl_end t (fun x hx => h x (by simp [hx]))]
theorem spl_at : ∀ (l : List UInt8) (e : Nat), (∀ b ∈ l.take e, b ≠ 47) → l[e]? = some 47 → spl l = l.take e :: spl (l.drop (e + 1))
  | [], e, _, h => by simp at h
  | b :: t, 0, _, h => by simp at h; subst h; simp [spl]
  | b :: t, e + 1, h, h1 => by
    simp at h1
    rw [spl, if_neg (h b (by simp)), spl_at t e (fun x hx => h x (by simp [hx])) h1]
    simp

/-- What the document's Split hands back. -/
def RSplitOut (R : List (List UInt8) ⊕ Nat) (w : World) (e : Ending) (w' : World) : Prop := Below w.heap.size w w' ∧ match R with
  | .inl ts => ∃ A c, e = .returned (.tuple #[.slice A ts.length c, .int .i64 0, .int .i64 0]) ∧ Strs w' A ts
  | .inr p => e = .returned (.tuple #[.slice none 0 0, .int .i64 p, .int .i64 2])

/-- What is known at the head of a round. -/
def Fin (s : ByteArray) (R : List (List UInt8) ⊕ Nat) (acc : List (List UInt8)) (k : Nat) : Prop :=
  (k ≤ s.size → withT acc (tokL (spl ((bytes s).drop k)) k) = R) ∧ (s.size < k → R = .inl acc)

set_option maxRecDepth 100000 in
set_option maxHeartbeats 2000000 in
theorem refSplit_any (s : ByteArray) (w : World) (hs : s.size ≤ 16777216) :
    Calls Tryd.prog 19 #[.string s] w (RSplitOut (splitL (bytes s)) w) := by
  obtain ⟨R, hR⟩ : ∃ R, R = splitL (bytes s) := ⟨_, rfl⟩
  have HR := Lib.hid hR
  rw [← hR]
  obtain ⟨i0, hi, hz0, hz1, hz2⟩ := info_parts info_str
  have HI := Lib.hid hi
  have HZ0 := Lib.hid hz0
  have HZ1 := Lib.hid hz1
  have HZ2 := Lib.hid hz2
  clear hi hz0 hz1 hz2 hR
  by_cases h0 : s.toList = []
  · go_enter Tryd.func19, Tryd.ntmps19
    go_wp2_with fail
    go_ret3
    rw [Lib.toList_data] at h0
    refine ⟨(Below.refl _ _).alloc (Nat.le_refl _) _, ?_⟩
    rw [HR.out, show bytes s = [] from h0]
    exact ⟨_, 0, rfl, (reads_new w 9 []).more (fun k hk => by subst hk; simp)⟩
  · have hp : 0 < s.size := by
      rw [Lib.toList_data] at h0
      have := bytes_len s
      have : (bytes s).length ≠ 0 := fun e => h0 (List.length_eq_zero_iff.1 e)
      omega
    have h0e : s.toList.isEmpty = false := by
      rw [Lib.toList_data] at h0 ⊢
      cases hc : s.data.toList with
      | nil => exact absurd hc h0
      | cons a t => rfl
    have hd := bytes_drop s 0 hp
    rw [List.drop_zero] at hd
    by_cases h47 : (s[0].toNat : Int) = 47
    · have hE47 : s[0] = 47 := u8_of s[0] 47 (by decide) h47
      have HR' : Hid (R = tokL (spl ((bytes s).drop 1)) 1) := Lib.hid (by rw [HR.out, hd, hE47]; rfl)
      clear hd h0 HR hE47
      have hL := World.ownsRow_lit (base := w.heap.size) (e := 9) (size := 1) w #[] 0 (Nat.le_refl _) (by decide) rfl
      have HL := Lib.hid hL
      clear hL
      go_enter Tryd.func19, Tryd.ntmps19
      go_wp2_with fail
      go_loopg [5, 6] s.size (fun g v i wr => ∃ (k : Nat) (acc : List (List UInt8)), 0 < k ∧ k ≤ s.size + 1 ∧ k + g = s.size + 1 ∧ i = .int .i64 k ∧ acc.length ≤ k ∧ Hid (wr.ownsRow w.heap.size 9 1 v acc.length (acc.map sv)) ∧ Hid (Below w.heap.size w wr) ∧ Hid (Fin s R acc k))
      case atStart => exact ⟨1, [], by omega, by omega, by omega, rfl, by simp, HL.out, (Below.refl _ _).alloc (Nat.le_refl _) _, fun _ => by rw [HR'.out]; cases tokL (spl ((bytes s).drop 1)) 1 <;> simp [withT], fun h => by omega⟩
      case round =>
        obtain ⟨k, acc, hk0, hk1, hkg, rfl, hal, hO, hB, hF⟩ := hrel
        obtain ⟨A, c, rfl, hcap⟩ := own_shape hO.out
        have hz0 := hB.out.size
        by_cases hk : k ≤ s.size
        · have hkI : (k : Int) ≤ s.size := by omega
          go_wp2_with fail
          go_loopg [7] (s.size - k) (fun g2 i2 wy => ∃ en : Nat, k ≤ en ∧ en + g2 = s.size ∧ i2 = .int .i64 en ∧ Hid (∀ b ∈ ((bytes s).drop k).take (en - k), b ≠ 47) ∧ wy = wr)
          case atStart => exact ⟨k, Nat.le_refl _, by omega, rfl, by show ∀ b ∈ ((bytes s).drop k).take (k - k), b ≠ 47; simp, rfl⟩
          case round =>
            obtain ⟨en, hke, heg, rfl, hN, hwy⟩ := hrel
            subst hwy
            by_cases hgo : ∃ h : en < s.size, s[en] ≠ 47
            · obtain ⟨hlt, hne⟩ := hgo
              have hneI : ¬ (s[en].toNat : Int) = 47 := fun e => hne (u8_of s[en] 47 (by decide) e)
              have hN1 : Hid (∀ b ∈ ((bytes s).drop k).take (en + 1 - k), b ≠ 47) := Lib.hid (by
                intro b hb
                rw [show en + 1 - k = (en - k) + 1 by omega, List.take_add_one, List.getElem?_drop, show k + (en - k) = en by omega, bytes_at s en hlt] at hb
                rcases List.mem_append.1 hb with hb | hb
                · exact hN.out b hb
                · simp at hb
                  rw [hb]
                  exact hne)
              go_wp2_with fail
              go_roundg (s.size - (en + 1))
              case measure => omega
              case rel => exact ⟨en + 1, by omega, by omega, by simp, hN1, rfl⟩
            · have hsp : Hid (spl ((bytes s).drop k) = ((bytes s).drop k).take (en - k) :: (if en < s.size then spl ((bytes s).drop (en + 1)) else [])) := Lib.hid (by
                by_cases hlt : en < s.size
                · have h47 : s[en] = 47 := Classical.byContradiction fun h => hgo ⟨hlt, h⟩
                  rw [if_pos hlt, spl_at ((bytes s).drop k) (en - k) hN.out (by rw [List.getElem?_drop, show k + (en - k) = en by omega, bytes_at s en hlt, h47]), List.drop_drop, show k + (en - k + 1) = en + 1 by omega]
                · have hl : ((bytes s).drop k).length = en - k := by rw [List.length_drop, bytes_len]; omega
                  have hn := hN.out
                  rw [if_neg hlt]
                  rw [← hl, List.take_length] at hn ⊢
                  exact spl_end _ hn)
              have hq : Hid (bytes (s.extract k en) = ((bytes s).drop k).take (en - k)) := Lib.hid (by rw [bytes, Lib.extract_data])
              have hql : Hid ((s.extract k en).size ≤ 16777216) := Lib.hid (by rw [← bytes_len, hq.out, List.length_take, List.length_drop, bytes_len]; omega)
              have hend : (∃ h : en < s.size, (s[en].toNat : Int) = 47) ∨ (¬ (en : Int) < s.size ∧ Hid (en = s.size)) := by
                by_cases hlt : en < s.size
                · exact .inl ⟨hlt, by rw [Classical.byContradiction fun h => hgo ⟨hlt, h⟩]; rfl⟩
                · exact .inr ⟨by omega, Lib.hid (by omega)⟩
              clear hgo
              have hu := refUnescape_any (s.extract k en) wr hql.out
              rw [hq.out] at hu
              obtain ⟨U, hU0⟩ : ∃ U, U = unL (((bytes s).drop k).take (en - k)) 0 := ⟨_, rfl⟩
              rw [← hU0] at hu
              have hr := hU0.symm
              clear hU0
              rcases hend with ⟨hlt, h47e⟩ | ⟨hnlt, hes⟩
              all_goals
                cases U with
                | inr n =>
                  have hX : Hid (R = .inr (k + n)) := Lib.hid (by rw [← hF.out.1 hk, hsp.out, withT_bad _ _ _ _ _ hr])
                  have hnl := un_le _ _ _ _ (Nat.le_refl _) hr
                  have hnl' : n ≤ s.size := by simp at hnl; omega
                  clear hr hnl
                  dsimp only [unR] at hu
                  go_wp2_with fail
                  refine hu.mono ?_
                  rintro e1 wx ⟨rfl, hwx⟩
                  have hwx' := hwx.symm
                  subst hwx'
                  go_wp2_with fail
                  go_ret3
                  refine ⟨hB.out, ?_⟩
                  rw [hX.out]
                  simp
                | inl t =>
                  have hF1 : Hid (Fin s R (acc ++ [t]) (en + 1)) := Lib.hid (by
                    have h1 := hF.out.1 hk
                    rw [hsp.out, withT_ok _ _ _ _ _ hr] at h1
                    have hl : (((bytes s).drop k).take (en - k)).length = en - k := by rw [List.length_take, List.length_drop, bytes_len]; omega
                    rw [hl, show k + (en - k) + 1 = en + 1 by omega] at h1
                    constructor
                    · intro h
                      rwa [if_pos (by omega)] at h1
                    · intro h
                      rw [if_neg (by omega)] at h1
                      rw [← h1]
                      simp [tokL, withT])
                  clear hr
                  dsimp only [unR] at hu
                  go_wp2_with fail
                  refine hu.mono ?_
                  rintro e1 wx ⟨rfl, hwx⟩
                  have hwx' := hwx.symm
                  subst hwx'
                  go_wp2_with (at_builtin; refine wpList_append_any _ rfl (.tmp 50) (.tmp 52) 35 rfl w.heap.size 9 i0 (.string ⟨#[]⟩) 1 16 Tryd.underlying35 HI.out HZ0.out HZ1.out HZ2.out rfl (by omega) _ acc.length _ rfl (World.ownsRow.alloc hO.out _) (fun j => j = wr.heap.size) (some ⟨wr.heap.size, 0, none⟩) 1 1 [.string ⟨t.toArray⟩] rfl (reads_new wr 9 [.string ⟨t.toArray⟩]) (by simp [Value.oneCell']) (by simp only [maxLen]; omega) (by omega) (by simp; omega) ?_; intro v9 w9 hown9 hg9 hat9; have HO9 := Lib.hid hown9; have HB9 := Lib.hid (hB.out.trans (((Below.refl w.heap.size wr).alloc (by omega) _).grown hg9 (by simp; omega) (fun j e => own_base hO.out e))); clear hown9 hg9 hat9)
                  go_roundg (s.size - en)
                  case measure => omega
                  case rel => exact ⟨en + 1, acc ++ [t], by omega, by omega, by omega, by simp, by simp; omega, by simpa [sv] using HO9, HB9, hF1⟩
        · have hX : Hid (R = .inl acc) := Lib.hid (hF.out.2 (by omega))
          have hkI : ¬ (k : Int) ≤ s.size := by omega
          go_wp2_with fail
          go_ret3
          refine ⟨hB.out, ?_⟩
          rw [hX.out]
          refine ⟨A, c, rfl, ?_⟩
          have h1 := (Reads.of_own hO.out).more (S' := fun k => k < wr.heap.size) (fun k hk => hk.2)
          unfold Strs
          simpa [sv] using h1
    · have hX : Hid (R = .inr 0) := Lib.hid (by
        rw [HR.out, hd, splitL, if_neg (fun e => h47 (by rw [e]; rfl))])
      clear hd h0
      go_enter Tryd.func19, Tryd.ntmps19
      go_wp2_with fail
      go_ret3
      refine ⟨(Below.refl _ _).alloc (Nat.le_refl _) _, ?_⟩
      rw [hX.out]
      rfl

set_option maxRecDepth 100000 in
set_option maxHeartbeats 1000000 in
theorem refJoin_any (A : Option Addr) (c : Nat) (ts : List (List UInt8)) (w : World) (h : Strs w A ts) (hn : ts.length ≤ 16777216) (hs : ∀ t ∈ ts, t.length ≤ 16777216) :
    Calls Tryd.prog 20 #[.slice A ts.length c] w fun e w' => e = .returned (.string ⟨(joinL ts).toArray⟩) ∧ w' = w := by
  have H := Lib.hid h
  have HS := Lib.hid hs
  clear h hs
  go_enter Tryd.func20, Tryd.ntmps20
  go_wp2
  go_loop [3, 8] (fun v i => ∃ k : Nat, k ≤ ts.length ∧ i = .int .i64 k ∧ v = .string ⟨(joinL (ts.take k)).toArray⟩) (fun _ i => (ts.length - intOf i).toNat)
  case atStart => exact ⟨0, Nat.zero_le _, rfl, rfl⟩
  case round =>
    obtain ⟨k, hk, rfl, rfl⟩ := hrel
    by_cases hlt : k < ts.length
    · obtain ⟨ad, rfl, hc⟩ := H.out.at_ hlt
      have hl1 := joinL_len (ts.take k) 16777216 (fun t ht => HS.out t (List.mem_of_mem_take ht))
      have hl2 : (ts.take k).length ≤ 16777216 := by rw [List.length_take]; omega
      have hl3 := HS.out ts[k] (List.getElem_mem hlt)
      have hl4 := escL_len ts[k]
      have hl5 : (joinL (ts.take k)).length ≤ 16777216 * 33554433 := Nat.le_trans hl1 (Nat.mul_le_mul hl2 (by omega))
      have hj : Hid (joinL (ts.take (k + 1)) = joinL (ts.take k) ++ ([47] ++ escL ts[k])) := Lib.hid (by rw [List.take_add_one, List.getElem?_eq_getElem hlt]; exact joinL_snoc _ _)
      go_wp2_with fail
      refine (refEscape_any ⟨ts[k].toArray⟩ w (by rw [size_mk]; exact hl3)).mono ?_
      rintro e w9 ⟨rfl, hw9⟩
      have hw9' := hw9.symm
      subst hw9'
      rw [bytes_mk]
      have a1 := add_sum [47] (escL ts[k]) w (by simp; omega)
      have a2 : ¬ 9223372036854775807 < (joinL (ts.take k)).length + ((escL ts[k]).length + 1) := by omega
      clear hl1 hl2 hl3 hl4 hl5
      go_wp2
      exact ⟨⟨k + 1, by omega, by simp, by rw [hj.out, ByteArray.mk_append_mk]; rfl⟩, by simp [intOf]; omega⟩
    · have hke : Hid (k = ts.length) := Lib.hid (by omega)
      go_wp2
      go_ret
      refine ⟨?_, rfl⟩
      show Ending.returned (.string ⟨(joinL (ts.take k)).toArray⟩) = _
      rw [hke.out, List.take_length]

/-- Do tokens begin others? -/
def beginsL (ts us : List (List UInt8)) : Bool := decide (ts.length ≤ us.length) && decide (ts = us.take ts.length)
theorem Strs.take {w : World} {A : Option Addr} {ts : List (List UInt8)} (h : Strs w A ts) (n : Nat) (hn : n ≤ ts.length) : Strs w A (ts.take n) := by
  have hl : (ts.take n).length = n := by rw [List.length_take]; omega
  unfold Strs at *
  rw [hl]
  refine ⟨by simp; omega, fun h0 => ?_⟩
  obtain ⟨a, e1, e2, e3⟩ := h.2 (by omega)
  refine ⟨a, e1, e2, fun j u hu => e3 j u ?_⟩
  rw [List.map_take, List.getElem?_take] at hu
  split at hu
  · exact hu
  · cases hu

set_option maxRecDepth 100000 in
set_option maxHeartbeats 1000000 in
theorem equal_any (A B : Option Addr) (c d : Nat) (ts us : List (List UInt8)) (w : World) (h1 : Strs w A ts) (h2 : Strs w B us) (hn : ts.length ≤ 9223372036854775807) :
    Calls Tryd.prog 34 #[.slice A ts.length c, .slice B us.length d] w fun e w' => e = .returned (.bool (decide (ts = us))) ∧ Below w.heap.size w w' := by
  have H1 := Lib.hid h1
  have H2 := Lib.hid h2
  clear h1 h2
  by_cases hl : (ts.length : Int) = us.length
  · obtain ⟨R, hR⟩ : ∃ R, R = decide (ts = us) := ⟨_, rfl⟩
    have HR := Lib.hid hR
    rw [← hR]
    clear hR
    go_enter Tryd.func34, Tryd.ntmps34
    go_wp2
    go_loopw [13] (fun i wr => ∃ k : Nat, k ≤ ts.length ∧ i = .int .i64 k ∧ Hid (ts.take k = us.take k) ∧ Hid (Below w.heap.size w wr)) (fun i _ => (ts.length - intOf i).toNat)
    case atStart => exact ⟨0, Nat.zero_le _, rfl, rfl, Below.refl _ _⟩
    case round =>
      obtain ⟨k, hk, rfl, hp, hB⟩ := hrel
      by_cases hlt : k < ts.length
      · have hlu : k < us.length := by omega
        obtain ⟨ad, rfl, hc⟩ := (H1.out.below hB.out).at_ hlt
        obtain ⟨bd, rfl, hd⟩ := (H2.out.below hB.out).at_ hlu
        have hlu' : (k : Int) < us.length := by omega
        go_wp2
        go_quiet (fail)
        have hBn : Hid (Below w.heap.size w (wr.drewN nq)) := Lib.hid (hB.out.trans ⟨rfl, rfl, rfl, Nat.le_refl _, fun _ _ => rfl⟩)
        go_wp2
        · rename_i h
          have he : ¬ ts[k] = us[k] := by simpa using h
          have hX : Hid (R = false) := Lib.hid (by
            rw [HR.out]
            simp
            rintro rfl
            exact he rfl)
          go_ret
          exact ⟨by rw [hX.out]; rfl, hBn.out⟩
        · rename_i h
          have he : ts[k] = us[k] := by simpa using h
          refine ⟨⟨k + 1, by omega, by simp, ?_, hBn⟩, by simp [intOf]; omega⟩
          show ts.take (k + 1) = us.take (k + 1)
          rw [List.take_add_one, List.take_add_one, hp.out, List.getElem?_eq_getElem hlt, List.getElem?_eq_getElem hlu, he]
      · have hke : Hid (k = ts.length) := Lib.hid (by omega)
        go_wp2
        go_ret
        refine ⟨?_, hB.out⟩
        have h1 := hp.out
        rw [hke.out, List.take_length, show ts.length = us.length by omega, List.take_length] at h1
        rw [HR.out, h1]
        simp
  · have hX : decide (ts = us) = false := by
      simp
      intro e
      exact hl (by rw [e])
    rw [hX]
    clear hX
    go_enter Tryd.func34, Tryd.ntmps34
    go_wp2
    go_ret
    exact ⟨rfl, Below.refl _ _⟩

set_option maxRecDepth 100000 in
set_option maxHeartbeats 1000000 in
theorem begins_any (A B : Option Addr) (c d : Nat) (ts us : List (List UInt8)) (w : World) (h1 : Strs w A ts) (h2 : Strs w B us) (hn : ts.length ≤ 9223372036854775807) (hd : us.length ≤ d) :
    Calls Tryd.prog 21 #[.slice A ts.length c, .slice B us.length d] w fun e w' => e = .returned (.bool (beginsL ts us)) ∧ Below w.heap.size w w' := by
  by_cases hl : (ts.length : Int) ≤ us.length
  · have hln : ts.length ≤ us.length := by omega
    have hd' : ts.length ≤ d := by omega
    have hlt : Hid ((us.take ts.length).length = ts.length) := Lib.hid (by rw [List.length_take]; omega)
    have HE := Lib.hid (equal_any A B c d ts (us.take ts.length) w h1 (h2.take _ hln) hn)
    rw [hlt.out] at HE
    have hb : beginsL ts us = decide (ts = us.take ts.length) := by unfold beginsL; rw [decide_eq_true hln]; rfl
    rw [hb]
    clear h1 h2 hb
    generalize decide (ts = us.take ts.length) = R at *
    go_enter Tryd.func21, Tryd.ntmps21
    go_wp2_with fail
    refine HE.out.mono ?_
    rintro e w1 ⟨rfl, hb1⟩
    go_wp2
    go_ret
    exact ⟨rfl, hb1⟩
  · have hX : beginsL ts us = false := by
      unfold beginsL
      rw [decide_eq_false (by omega)]
      rfl
    rw [hX]
    clear hX
    go_enter Tryd.func21, Tryd.ntmps21
    go_wp2
    go_ret
    exact ⟨rfl, Below.refl _ _⟩

set_option maxRecDepth 100000 in
set_option maxHeartbeats 1000000 in
theorem refBegins_any (A B : Option Addr) (c d : Nat) (ts us : List (List UInt8)) (w : World) (h1 : Strs w A ts) (h2 : Strs w B us) (hn : ts.length ≤ 9223372036854775807) :
    Calls Tryd.prog 22 #[.slice A ts.length c, .slice B us.length d] w fun e w' => e = .returned (.bool (beginsL ts us)) ∧ Below w.heap.size w w' := by
  have H1 := Lib.hid h1
  have H2 := Lib.hid h2
  clear h1 h2
  by_cases hl : (us.length : Int) < ts.length
  · have hX : beginsL ts us = false := by
      unfold beginsL
      rw [decide_eq_false (by omega)]
      rfl
    rw [hX]
    clear hX
    go_enter Tryd.func22, Tryd.ntmps22
    go_wp2
    go_ret
    exact ⟨rfl, Below.refl _ _⟩
  · have hln : ts.length ≤ us.length := by omega
    have hb : beginsL ts us = decide (ts = us.take ts.length) := by unfold beginsL; rw [decide_eq_true hln]; rfl
    rw [hb]
    clear hb
    obtain ⟨R, hR⟩ : ∃ R, R = decide (ts = us.take ts.length) := ⟨_, rfl⟩
    have HR := Lib.hid hR
    rw [← hR]
    clear hR
    go_enter Tryd.func22, Tryd.ntmps22
    go_wp2
    go_loopw [13] (fun i wr => ∃ k : Nat, k ≤ ts.length ∧ i = .int .i64 k ∧ Hid (ts.take k = us.take k) ∧ Hid (Below w.heap.size w wr)) (fun i _ => (ts.length - intOf i).toNat)
    case atStart => exact ⟨0, Nat.zero_le _, rfl, rfl, Below.refl _ _⟩
    case round =>
      obtain ⟨k, hk, rfl, hp, hB⟩ := hrel
      by_cases hlt : k < ts.length
      · have hlu : k < us.length := by omega
        obtain ⟨ad, rfl, hc⟩ := (H1.out.below hB.out).at_ hlt
        obtain ⟨bd, rfl, hd⟩ := (H2.out.below hB.out).at_ hlu
        have hlu' : (k : Int) < us.length := by omega
        go_wp2
        go_quiet (fail)
        have hBn : Hid (Below w.heap.size w (wr.drewN nq)) := Lib.hid (hB.out.trans ⟨rfl, rfl, rfl, Nat.le_refl _, fun _ _ => rfl⟩)
        go_wp2
        · rename_i h
          have he : ¬ ts[k] = us[k] := by simpa using h
          have hX : Hid (R = false) := Lib.hid (by
            rw [HR.out]
            simp
            intro e
            apply he
            have := congrArg (·[k]?) e
            simp only [List.getElem?_take, if_pos hlt, List.getElem?_eq_getElem hlt, List.getElem?_eq_getElem hlu, Option.some.injEq] at this
            exact this)
          go_ret
          exact ⟨by rw [hX.out]; rfl, hBn.out⟩
        · rename_i h
          have he : ts[k] = us[k] := by simpa using h
          refine ⟨⟨k + 1, by omega, by simp, ?_, hBn⟩, by simp [intOf]; omega⟩
          show ts.take (k + 1) = us.take (k + 1)
          rw [List.take_add_one, List.take_add_one, hp.out, List.getElem?_eq_getElem hlt, List.getElem?_eq_getElem hlu, he]
      · have hke : Hid (k = ts.length) := Lib.hid (by omega)
        go_wp2
        go_ret
        refine ⟨?_, hB.out⟩
        have h1 := hp.out
        rw [hke.out, List.take_length] at h1
        rw [HR.out, ← h1]
        simp
end Go.Proofs.YtlhekohecbiljaaDoor
