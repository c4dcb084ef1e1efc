/-
  Split, of the program.
-/
import Derived.Test.YtlhekohecbiljaaDoorPtToks
import Derived.Test.YtlhekohecbiljaaDoorLaws2
import Derived.Lib.IndexLaws
import Derived.WalkMore
namespace Go.Proofs.YtlhekohecbiljaaDoor
open Go.RowKit Go.BigFrame Go.Shelf

theorem un_le : ∀ (n : Nat) (l : List UInt8) (i p : Nat), l.length ≤ n → unL l i = .inr p → p ≤ i + l.length
  | _, [], i, p, _, h => by simp [unL] at h
  | 0, b :: t, _, _, hn, _ => by simp at hn
  | n + 1, b :: t, i, p, hn, h => by
    simp at hn
    by_cases hb : b = 126
    · subst hb
      by_cases h0 : t.head? = some 48
      · cases t with
        | nil => cases h0
        | cons c r =>
          simp at h0
          subst h0
          rw [un_zero] at h
          cases hr : unL r (i + 2) with
          | inl x => rw [hr] at h; cases h
          | inr q =>
            rw [hr] at h
            have := un_le n r (i + 2) q (by simp at hn; omega) hr
            simp at h
            simp
            omega
      · by_cases h1 : t.head? = some 49
        · cases t with
          | nil => cases h1
          | cons c r =>
            simp at h1
            subst h1
            rw [un_one] at h
            cases hr : unL r (i + 2) with
            | inl x => rw [hr] at h; cases h
            | inr q =>
              rw [hr] at h
              have := un_le n r (i + 2) q (by simp at hn; omega) hr
              simp at h
              simp
              omega
        · rw [un_bad t i h0 h1] at h
          simp at h
          simp
          omega
    · rw [un_plain b t i hb] at h
      cases hr : unL t (i + 1) with
      | inl x => rw [hr] at h; cases h
      | inr q =>
        rw [hr] at h
        have := un_le n t (i + 1) q hn hr
        simp at h
        simp
        omega
/-- The pieces between the slashes. -/
def spl : List UInt8 → List (List UInt8)
  | [] => [[]]
  | b :: t => if b = 47 then [] :: spl t else match spl t with | h :: r => (b :: h) :: r | [] => [[b]]
theorem spl_none : ∀ l : List UInt8, Lib.indexByte l 47 = -1 → spl l = [l]
  | [], _ => rfl
  | b :: t, h => by
    rw [Lib.indexByte] at h
    by_cases hb : b = 47
    · simp [hb] at h
    · rw [if_neg (by simpa using hb)] at h
      have ht : Lib.indexByte t 47 = -1 := by
        by_cases h1 : Lib.indexByte t 47 = -1
        · exact h1
        · rw [if_neg (by simpa using h1)] at h
          have := Lib.indexByte_ge t 47
          omega
      rw [spl, if_neg hb, spl_none t ht]
theorem spl_some : ∀ (l : List UInt8) (e : Nat), Lib.indexByte l 47 = (e : Int) → spl l = l.take e :: spl (l.drop (e + 1)) ∧ e < l.length
  | [], e, h => by rw [Lib.indexByte] at h; omega
  | b :: t, e, h => by
    rw [Lib.indexByte] at h
    by_cases hb : b = 47
    · subst hb
      simp at h
      obtain rfl : e = 0 := by omega
      simp [spl]
    · rw [if_neg (by simpa using hb)] at h
      by_cases h1 : Lib.indexByte t 47 = -1
      · rw [if_pos (by simpa using h1)] at h
        omega
      · rw [if_neg (by simpa using h1)] at h
        have := Lib.indexByte_ge t 47
        obtain ⟨k, rfl⟩ : ∃ k, e = k + 1 := ⟨e - 1, by omega⟩
        obtain ⟨h2, h3⟩ := spl_some t k (by omega)
        rw [spl, if_neg hb, h2]
        simp
        exact h3
/-- The tokens of pieces, the first at a place; or where one breaks. -/
def tokL : List (List UInt8) → Nat → List (List UInt8) ⊕ Nat
  | [], _ => .inl []
  | q :: r, i => match unL q 0 with
    | .inr n => .inr (i + n)
    | .inl t => match tokL r (i + q.length + 1) with | .inl ts => .inl (t :: ts) | .inr n => .inr n
def withT (acc : List (List UInt8)) : List (List UInt8) ⊕ Nat → List (List UInt8) ⊕ Nat
  | .inl r => .inl (acc ++ r)
  | .inr p => .inr p
theorem withT_bad (acc : List (List UInt8)) (q : List UInt8) (r : List (List UInt8)) (i n : Nat) (h : unL q 0 = .inr n) : withT acc (tokL (q :: r) i) = .inr (i + n) := by rw [tokL, h]; rfl
theorem withT_ok (acc : List (List UInt8)) (q t : List UInt8) (r : List (List UInt8)) (i : Nat) (h : unL q 0 = .inl t) : withT acc (tokL (q :: r) i) = withT (acc ++ [t]) (tokL r (i + q.length + 1)) := by
  rw [tokL, h]
  cases tokL r (i + q.length + 1) <;> simp [withT]
/-- A pointer's tokens; or where it breaks. -/
def splitL : List UInt8 → List (List UInt8) ⊕ Nat
  | [] => .inl []
  | b :: t => if b = 47 then tokL (spl t) 1 else .inr 0
/-- What Split hands back. -/
def SplitOut (R : List (List UInt8) ⊕ Nat) (w : World) (e : Ending) (w' : World) : Prop := Below w.heap.size w w' ∧ match R with
  | .inl ts => ∃ A c, e = .returned (.tuple #[.slice A ts.length c, .nilIface]) ∧ Strs w' A ts
  | .inr p => ∃ v, e = .returned (.tuple #[.slice none 0 0, v]) ∧ ErrAt w' v p 2
theorem indexByte_any (t : ByteArray) (w : World) : Calls Tryd.prog 33 #[.string t, .int .u8 47] w fun e w' => e = .returned (.int .i64 (Lib.indexByte (bytes t) 47)) ∧ w' = w := Any.strings_IndexByte Tryd.lays137 t 47 w
theorem info_str : (Tryd.prog.info? 9).map (fun i => (i.zero, i.size, i.bytes)) = some (some (.string ⟨#[]⟩), 1, 16) := by kernel_rfl

set_option maxRecDepth 100000 in
set_option maxHeartbeats 2000000 in
theorem split_any (s : ByteArray) (w : World) (hs : s.size ≤ 16777216) (hE : ErrT w) (hg : 0 < w.heap.size) :
    Calls Tryd.prog 16 #[.string s] w (SplitOut (splitL (bytes s)) w) := by
  obtain ⟨R, hR⟩ : ∃ R, R = splitL (bytes s) := ⟨_, rfl⟩
  have HR := Lib.hid hR
  rw [← hR]
  obtain ⟨i0, hi, hz0, hz1, hz2⟩ := info_parts info_str
  have HI := Lib.hid hi
  have HZ0 := Lib.hid hz0
  have HZ1 := Lib.hid hz1
  have HZ2 := Lib.hid hz2
  have HE := Lib.hid hE
  clear hi hz0 hz1 hz2 hE hR
  by_cases h0 : s.toList = []
  · go_enter Tryd.func16, Tryd.ntmps16
    go_wp2_with fail
    go_step3
    go_wp2_with fail
    rw [Exit.noGoto_ret]
    go_ret2
    rw [Lib.toList_data] at h0
    refine ⟨Below.refl _ _, ?_⟩
    rw [HR.out, show bytes s = [] from h0]
    exact ⟨none, 0, rfl, Reads.none_⟩
  · have hp : 0 < s.size := by
      rw [Lib.toList_data] at h0
      have := bytes_len s
      have : (bytes s).length ≠ 0 := fun e => h0 (List.length_eq_zero_iff.1 e)
      omega
    have h0e : s.toList.isEmpty = false := by
      rw [Lib.toList_data] at h0 ⊢
      cases hc : s.data.toList with
      | nil => exact absurd hc h0
      | cons a t => rfl
    have hd := bytes_drop s 0 hp
    rw [List.drop_zero] at hd
    by_cases h47 : (s[0].toNat : Int) = 47
    · have hE47 : s[0] = 47 := u8_of s[0] 47 (by decide) h47
      have HR' : Hid (R = tokL (spl ((bytes s).drop 1)) 1) := Lib.hid (by rw [HR.out, hd, hE47]; rfl)
      clear hd h0 HR hE47
      go_enter Tryd.func16, Tryd.ntmps16
      go_wp2_with fail
      go_step3
      go_wp2_with fail
      go_step3
      go_wp2_with fail
      go_loopw [4, 5] (fun v i wr => ∃ (k : Nat) (acc : List (List UInt8)), k ≤ s.size ∧ i = .int .i64 k ∧ acc.length ≤ k ∧ Hid (wr.ownsRow w.heap.size 9 1 v acc.length (acc.map sv)) ∧ Hid (Below w.heap.size w wr) ∧ Hid (withT acc (tokL (spl ((bytes s).drop k)) k) = R)) (fun _ i _ => (s.size - intOf i).toNat)
      case atStart => exact ⟨1, [], hp, rfl, by simp, World.ownsRow_nil _ _ _ _, Below.refl _ _, by show withT [] _ = R; rw [HR'.out]; cases tokL (spl ((bytes s).drop 1)) 1 <;> simp [withT]⟩
      case round =>
        obtain ⟨k, acc, hk, rfl, hal, hO, hB, hU⟩ := hrel
        obtain ⟨A, c, rfl, hcap⟩ := own_shape hO.out
        have hz0 := hB.out.size
        have hxd : Hid (bytes (s.extract k s.size) = (bytes s).drop k) := Lib.hid (by rw [bytes, Lib.extract_data, ← bytes_len, List.take_of_length_le (by simp)])
        go_wp2_with fail
        refine (indexByte_any _ wr).mono ?_
        rintro e wi ⟨rfl, hwi⟩
        have hwi' := hwi.symm
        subst hwi'
        rw [hxd.out]
        rcases Int.lt_or_le (Lib.indexByte ((bytes s).drop k) 47) 0 with hneg | hpos
        · have hge := Lib.indexByte_ge ((bytes s).drop k) 47
          have hm1 : Lib.indexByte ((bytes s).drop k) 47 = -1 := by omega
          have hsp := Lib.hid (spl_none _ hm1)
          rw [hm1]
          clear hm1 hge hneg
          have hq := hxd
          go_wp2_with fail
          refine (unescape_any _ wr (by rw [← bytes_len, hxd.out, List.length_drop, bytes_len]; omega)).mono ?_
          rintro e0 wx ⟨hbx, hUn⟩
          rw [hq.out] at hUn
          have HBx := Lib.hid (hB.out.trans (hbx.mono hz0))
          have hzx := HBx.out.size
          have HOx : Hid (wx.ownsRow w.heap.size 9 1 (.slice A acc.length c) acc.length (acc.map sv)) := Lib.hid (ownsRow_below hO.out hbx)
          have HEx := Lib.hid (HE.out.below HBx.out hg)
          cases hr : unL ((bytes s).drop k) 0 with
          | inr n =>
            rw [hr] at hUn
            obtain ⟨v, rfl, hv⟩ := hUn
            have HV := Lib.hid hv
            obtain ⟨-, b, rfl, -⟩ := hv
            have hX : Hid (R = .inr (k + n)) := Lib.hid (by rw [← hU.out, hsp.out, withT_bad _ _ _ _ _ hr])
            have hnl := un_le _ _ _ _ (Nat.le_refl _) hr
            have hnl' : n ≤ s.size := by simp at hnl; omega
            clear hbx hr hnl
            go_wp2_with fail
            refine (last_err _ n 2 wx HV.out HEx.out (by omega)).mono ?_
            rintro e1 wy ⟨rfl, hby⟩
            have HVy := Lib.hid (HV.out.below hby)
            have HBy := Lib.hid (HBx.out.trans (hby.mono hzx))
            have hzy := HBy.out.size
            have HEy := Lib.hid (HE.out.below HBy.out hg)
            clear hby
            go_wp2_with fail
            refine (code_err _ n 2 wy HVy.out HEy.out (by omega)).mono ?_
            rintro e1 wz ⟨rfl, hbz⟩
            have HBz := Lib.hid (HBy.out.trans (hbz.mono hzy))
            have hzz := HBz.out.size
            clear hbz
            go_wp2_with fail
            refine (new_err 2 _ wz (by decide)).mono ?_
            rintro e1 w9 ⟨v, rfl, hv9, hb9⟩
            have HV9 := Lib.hid hv9
            have HB9 := Lib.hid (HBz.out.trans (hb9.mono hzz))
            clear hv9 hb9
            go_wp2
            rw [Exit.noGoto_ret]
            go_ret2
            refine ⟨HB9.out, ?_⟩
            rw [hX.out]
            exact ⟨v, rfl, by simpa using HV9.out⟩
          | inl t =>
            rw [hr] at hUn
            subst hUn
            have hX : Hid (R = .inl (acc ++ [t])) := Lib.hid (by rw [← hU.out, hsp.out, withT_ok _ _ _ _ _ hr]; simp [tokL, withT])
            clear hbx hr
            go_wp2_with (at_builtin; refine wpList_append_any _ rfl (.tmp 52) (.tmp 54) 35 rfl w.heap.size 9 i0 (.string ⟨#[]⟩) 1 16 Tryd.underlying35 HI.out HZ0.out HZ1.out HZ2.out rfl (by omega) _ acc.length _ rfl (World.ownsRow.alloc HOx.out _) (fun j => j = wx.heap.size) (some ⟨wx.heap.size, 0, none⟩) 1 1 [.string ⟨t.toArray⟩] rfl (reads_new wx 9 [.string ⟨t.toArray⟩]) (by simp [Value.oneCell']) (by simp only [maxLen]; omega) (by omega) (by simp; omega) ?_; intro v9 w9 hown9 hg9 hat9; obtain ⟨g9, cap9, rfl⟩ := ownsRow_succ hown9; have HO9 := Lib.hid hown9; have HB9 := Lib.hid (HBx.out.trans (((Below.refl w.heap.size wx).alloc (by omega) _).grown hg9 (by simp; omega) (fun j e => own_base HOx.out e))); clear hown9 hg9 hat9)
            rw [Exit.noGoto_ret]
            go_ret2
            refine ⟨HB9.out, ?_⟩
            rw [hX.out]
            have hlen : (acc ++ [t]).length = acc.length + 1 := by simp
            refine ⟨some ⟨g9, 0, none⟩, cap9, by rw [hlen]; rfl, ?_⟩
            have h1 := (Reads.of_own HO9.out).more (S' := fun k => k < w9.heap.size) (fun k hk => hk.2)
            unfold Strs
            rw [hlen]
            simpa [sv] using h1
        · obtain ⟨e, he⟩ := Int.eq_ofNat_of_zero_le hpos
          have hsp := Lib.hid (spl_some _ e he)
          rw [he]
          clear he hpos
          have hke : k + e < s.size := by have := hsp.out.2; rw [List.length_drop, bytes_len] at this; omega
          have hq : Hid (bytes (s.extract k (k + e)) = ((bytes s).drop k).take e) := Lib.hid (by rw [bytes, Lib.extract_data, show k + e - k = e by omega])
          go_wp2_with fail
          refine (unescape_any _ wr (by rw [← bytes_len, hq.out, List.length_take]; omega)).mono ?_
          rintro e0 wx ⟨hbx, hUn⟩
          rw [hq.out] at hUn
          have HBx := Lib.hid (hB.out.trans (hbx.mono hz0))
          have hzx := HBx.out.size
          have HOx : Hid (wx.ownsRow w.heap.size 9 1 (.slice A acc.length c) acc.length (acc.map sv)) := Lib.hid (ownsRow_below hO.out hbx)
          have HEx := Lib.hid (HE.out.below HBx.out hg)
          cases hr : unL (((bytes s).drop k).take e) 0 with
          | inr n =>
            rw [hr] at hUn
            obtain ⟨v, rfl, hv⟩ := hUn
            have HV := Lib.hid hv
            obtain ⟨-, b, rfl, -⟩ := hv
            have hX : Hid (R = .inr (k + n)) := Lib.hid (by rw [← hU.out, hsp.out.1, withT_bad _ _ _ _ _ hr])
            have hnl := un_le _ _ _ _ (Nat.le_refl _) hr
            have hnl' : n ≤ s.size := by simp at hnl; omega
            clear hbx hr hnl
            go_wp2_with fail
            refine (last_err _ n 2 wx HV.out HEx.out (by omega)).mono ?_
            rintro e1 wy ⟨rfl, hby⟩
            have HVy := Lib.hid (HV.out.below hby)
            have HBy := Lib.hid (HBx.out.trans (hby.mono hzx))
            have hzy := HBy.out.size
            have HEy := Lib.hid (HE.out.below HBy.out hg)
            clear hby
            go_wp2_with fail
            refine (code_err _ n 2 wy HVy.out HEy.out (by omega)).mono ?_
            rintro e1 wz ⟨rfl, hbz⟩
            have HBz := Lib.hid (HBy.out.trans (hbz.mono hzy))
            have hzz := HBz.out.size
            clear hbz
            go_wp2_with fail
            refine (new_err 2 _ wz (by decide)).mono ?_
            rintro e1 w9 ⟨v, rfl, hv9, hb9⟩
            have HV9 := Lib.hid hv9
            have HB9 := Lib.hid (HBz.out.trans (hb9.mono hzz))
            clear hv9 hb9
            go_wp2
            rw [Exit.noGoto_ret]
            go_ret2
            refine ⟨HB9.out, ?_⟩
            rw [hX.out]
            exact ⟨v, rfl, by simpa using HV9.out⟩
          | inl t =>
            rw [hr] at hUn
            subst hUn
            have hN : Hid (withT (acc ++ [t]) (tokL (spl ((bytes s).drop (k + (e + 1)))) (k + (e + 1))) = R) := Lib.hid (by
              rw [← hU.out, hsp.out.1, withT_ok _ _ _ _ _ hr, List.drop_drop, List.length_take, List.length_drop, bytes_len, Nat.min_eq_left (by omega), show k + e + 1 = k + (e + 1) by omega])
            clear hbx hr
            go_wp2_with (at_builtin; refine wpList_append_any _ rfl (.tmp 52) (.tmp 54) 35 rfl w.heap.size 9 i0 (.string ⟨#[]⟩) 1 16 Tryd.underlying35 HI.out HZ0.out HZ1.out HZ2.out rfl (by omega) _ acc.length _ rfl (World.ownsRow.alloc HOx.out _) (fun j => j = wx.heap.size) (some ⟨wx.heap.size, 0, none⟩) 1 1 [.string ⟨t.toArray⟩] rfl (reads_new wx 9 [.string ⟨t.toArray⟩]) (by simp [Value.oneCell']) (by simp only [maxLen]; omega) (by omega) (by simp; omega) ?_; intro v9 w9 hown9 hg9 hat9; obtain ⟨g9, cap9, rfl⟩ := ownsRow_succ hown9; have HO9 := Lib.hid hown9; have HB9 := Lib.hid (HBx.out.trans (((Below.refl w.heap.size wx).alloc (by omega) _).grown hg9 (by simp; omega) (fun j e => own_base HOx.out e))); clear hown9 hg9 hat9)
            exact ⟨⟨k + (e + 1), acc ++ [t], by omega, by simp, by simp; omega, by simpa [sv] using HO9, HB9, hN⟩, by simp [intOf]; omega⟩
    · have hX : Hid (R = .inr 0) := Lib.hid (by
        rw [HR.out, hd, splitL, if_neg (fun e => h47 (by rw [e]; rfl))])
      clear hd h0
      go_enter Tryd.func16, Tryd.ntmps16
      go_wp2_with fail
      go_step3
      go_wp2_with fail
      refine (new_err 2 0 w (by decide)).mono ?_
      rintro e w9 ⟨v, rfl, hv, hb⟩
      have HV := Lib.hid hv
      clear hv
      go_wp2
      rw [Exit.noGoto_ret]
      go_ret2
      refine ⟨hb, ?_⟩
      rw [hX.out]
      exact ⟨v, rfl, HV.out⟩
end Go.Proofs.YtlhekohecbiljaaDoor
