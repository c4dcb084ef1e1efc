/-
  Unescape, of the program and of the document.
-/
import Derived.Test.YtlhekohecbiljaaDoorPtEsc
namespace Go.Proofs.YtlhekohecbiljaaDoor
open Go.RowKit Go.BigFrame

/-- What is unescaped; or the place where that breaks. -/
def unL : List UInt8 → Nat → List UInt8 ⊕ Nat
  | [], _ => .inl []
  | 126 :: 48 :: t, i => match unL t (i + 2) with | .inl r => .inl (126 :: r) | .inr p => .inr p
  | 126 :: 49 :: t, i => match unL t (i + 2) with | .inl r => .inl (47 :: r) | .inr p => .inr p
  | 126 :: _, i => .inr (i + 1)
  | b :: t, i => match unL t (i + 1) with | .inl r => .inl (b :: r) | .inr p => .inr p
/-- With what has come ahead of it. -/
def withL (acc : List UInt8) : List UInt8 ⊕ Nat → List UInt8 ⊕ Nat
  | .inl r => .inl (acc ++ r)
  | .inr p => .inr p
theorem un_plain (b : UInt8) (t : List UInt8) (i : Nat) (hb : b ≠ 126) : unL (b :: t) i = match unL t (i + 1) with | .inl r => .inl (b :: r) | .inr p => .inr p := by
  rw [unL]
  · intro t' h; exact absurd h hb
  · intro t' h; exact absurd h hb
  · intro h; exact absurd h hb
theorem un_zero (t : List UInt8) (i : Nat) : unL (126 :: 48 :: t) i = match unL t (i + 2) with | .inl r => .inl (126 :: r) | .inr p => .inr p := by rw [unL]
theorem un_one (t : List UInt8) (i : Nat) : unL (126 :: 49 :: t) i = match unL t (i + 2) with | .inl r => .inl (47 :: r) | .inr p => .inr p := by rw [unL]
theorem un_bad (t : List UInt8) (i : Nat) (h0 : t.head? ≠ some 48) (h1 : t.head? ≠ some 49) : unL (126 :: t) i = .inr (i + 1) := by
  cases t with
  | nil =>
    rw [unL]
    · intro t' h; cases h
    · intro t' h; cases h
  | cons b t =>
    rw [unL]
    · intro t' h; simp at h; exact absurd (by simp [h]) h0
    · intro t' h; simp at h; exact absurd (by simp [h]) h1
theorem with_snoc (acc : List UInt8) (b : UInt8) (r : List UInt8 ⊕ Nat) : withL acc (match r with | .inl r => .inl (b :: r) | .inr p => .inr p) = withL (acc ++ [b]) r := by
  cases r <;> simp [withL]

/-- What Unescape hands back. -/
def UnOut (l : List UInt8) (w : World) (e : Ending) (w' : World) : Prop := Below w.heap.size w w' ∧ match unL l 0 with
  | .inl r => e = .returned (.tuple #[.string ⟨r.toArray⟩, .nilIface])
  | .inr p => ∃ v, e = .returned (.tuple #[.string ⟨#[]⟩, v]) ∧ ErrAt w' v p 2

set_option maxRecDepth 100000 in
set_option maxHeartbeats 2000000 in
theorem unescape_any (s : ByteArray) (w : World) (hs : s.size ≤ 16777216) :
    Calls Tryd.prog 8 #[.string s] w (UnOut (bytes s) w) := by
  obtain ⟨i0, hi, hz0, hz1, hz2⟩ := info_parts info_u8
  have HI := Lib.hid hi
  have HZ0 := Lib.hid hz0
  have HZ1 := Lib.hid hz1
  have HZ2 := Lib.hid hz2
  clear hi hz0 hz1 hz2
  go_enter Tryd.func8, Tryd.ntmps8
  go_wp2_with (at_make; refine wpList_make_own _ rfl _ _ 49 rfl w.heap.size 5 i0 (.int .u8 0) 1 Tryd.underlying49 HI.out HZ0.out HZ1.out .i64 .i64 _ s.size rfl rfl rfl (by rw [HZ2.out]; omega) (by simp only [maxLen]; omega) (Nat.le_refl _) ?_; intro w1 hown1 hg1; have HO1 := Lib.hid hown1; have HB1 := Lib.hid ((Below.refl w.heap.size w).grown hg1 (Nat.le_refl _) (by simp)); clear hown1 hg1)
  go_loopw [4, 5] (fun v i wr => ∃ (k : Nat) (acc : List UInt8), k ≤ s.size ∧ i = .int .i64 k ∧ acc.length ≤ k ∧ Hid (wr.ownsRow w.heap.size 5 1 v acc.length (acc.map bv)) ∧ Hid (Below w.heap.size w wr) ∧ Hid (withL acc (unL ((bytes s).drop k) k) = unL (bytes s) 0)) (fun _ i _ => (s.size - intOf i).toNat)
  case atStart => exact ⟨0, [], Nat.zero_le _, rfl, Nat.le_refl _, HO1, HB1, by show withL [] (unL (bytes s) 0) = _; cases unL (bytes s) 0 <;> simp [withL]⟩
  case round =>
    obtain ⟨k, acc, hk, rfl, hal, hO, hB, hU⟩ := hrel
    by_cases hlt : k < s.size
    · obtain ⟨A, c, rfl, hcap⟩ := own_shape hO.out
      have hz0 := hB.out.size
      have hd := Lib.hid (bytes_drop s k hlt)
      by_cases h126 : (s[k].toNat : Int) = 126
      · have hE : Hid (s[k] = 126) := Lib.hid (u8_of s[k] 126 (by decide) h126)
        by_cases h1 : k + 1 < s.size
        · have hd1 := Lib.hid (bytes_drop s (k + 1) h1)
          have h1i : ((k : Int) + 1) < s.size := by omega
          have hg1 : s[k + 1] = s[k + 1] := rfl
          by_cases h48 : (s[k + 1].toNat : Int) = 48
          · have hE1 : Hid (s[k + 1] = 48) := Lib.hid (u8_of s[k + 1] 48 (by decide) h48)
            have hN : Hid (withL (acc ++ [126]) (unL ((bytes s).drop (k + 2)) (k + 2)) = unL (bytes s) 0) := Lib.hid (by rw [← hU.out, hd.out, hE.out, hd1.out, hE1.out, un_zero, with_snoc])
            clear hd hd1 hg1
            go_wp2_with (at_builtin; refine wpList_append_any _ rfl (.tmp 47) (.tmp 49) 49 rfl w.heap.size 5 i0 (.int .u8 0) 1 1 Tryd.underlying49 HI.out HZ0.out HZ1.out HZ2.out rfl (by omega) _ acc.length _ rfl (World.ownsRow.alloc hO.out _) (fun j => j = wr.heap.size) (some ⟨wr.heap.size, 0, none⟩) 1 1 [.int .u8 126] rfl (reads_new wr 5 [.int .u8 126]) (by simp [Value.oneCell']) (by simp only [maxLen]; omega) (by omega) (by simp; omega) ?_; intro v9 w9 hown9 hg9 hat9; have HO9 := Lib.hid hown9; have HB9 := Lib.hid (hB.out.trans (((Below.refl w.heap.size wr).alloc hz0 _).grown hg9 (by simp; omega) (fun j e => own_base hO.out e))); clear hown9 hg9 hat9)
            exact ⟨⟨k + 2, acc ++ [126], by omega, by simp; omega, by simp; omega, by simpa [bv] using HO9, HB9, hN⟩, by simp [intOf]; omega⟩
          · by_cases h49 : (s[k + 1].toNat : Int) = 49
            · have hE1 : Hid (s[k + 1] = 49) := Lib.hid (u8_of s[k + 1] 49 (by decide) h49)
              have hN : Hid (withL (acc ++ [47]) (unL ((bytes s).drop (k + 2)) (k + 2)) = unL (bytes s) 0) := Lib.hid (by rw [← hU.out, hd.out, hE.out, hd1.out, hE1.out, un_one, with_snoc])
              clear hd hd1 hg1
              go_wp2_with (at_builtin; refine wpList_append_any _ rfl (.tmp 47) (.tmp 49) 49 rfl w.heap.size 5 i0 (.int .u8 0) 1 1 Tryd.underlying49 HI.out HZ0.out HZ1.out HZ2.out rfl (by omega) _ acc.length _ rfl (World.ownsRow.alloc hO.out _) (fun j => j = wr.heap.size) (some ⟨wr.heap.size, 0, none⟩) 1 1 [.int .u8 47] rfl (reads_new wr 5 [.int .u8 47]) (by simp [Value.oneCell']) (by simp only [maxLen]; omega) (by omega) (by simp; omega) ?_; intro v9 w9 hown9 hg9 hat9; have HO9 := Lib.hid hown9; have HB9 := Lib.hid (hB.out.trans (((Below.refl w.heap.size wr).alloc hz0 _).grown hg9 (by simp; omega) (fun j e => own_base hO.out e))); clear hown9 hg9 hat9)
              exact ⟨⟨k + 2, acc ++ [47], by omega, by simp; omega, by simp; omega, by simpa [bv] using HO9, HB9, hN⟩, by simp [intOf]; omega⟩
            · have hR : Hid (unL (bytes s) 0 = .inr (k + 1)) := Lib.hid (by
                rw [← hU.out, hd.out, hE.out, hd1.out, un_bad _ _ (by simp; intro e; exact h48 (by rw [e]; rfl)) (by simp; intro e; exact h49 (by rw [e]; rfl))]
                rfl)
              clear hd hd1 hg1
              go_wp2_with fail
              refine (new_err 2 _ wr (by decide)).mono ?_
              rintro e w9 ⟨v, rfl, hv, hb⟩
              have HV := Lib.hid hv
              have HB9 := Lib.hid (hB.out.trans (hb.mono hz0))
              clear hv hb
              go_wp2
              go_ret2
              refine ⟨HB9.out, ?_⟩
              rw [hR.out]
              exact ⟨v, rfl, by simpa using HV.out⟩
        · have hR : Hid (unL (bytes s) 0 = .inr (k + 1)) := Lib.hid (by
            have hnil : (bytes s).drop (k + 1) = [] := List.drop_of_length_le (by rw [bytes_len]; omega)
            rw [← hU.out, hd.out, hE.out, hnil, un_bad _ _ (by simp) (by simp)]
            rfl)
          have h1i : ¬ ((k : Int) + 1) < s.size := by omega
          clear hd
          go_wp2_with fail
          refine (new_err 2 _ wr (by decide)).mono ?_
          rintro e w9 ⟨v, rfl, hv, hb⟩
          have HV := Lib.hid hv
          have HB9 := Lib.hid (hB.out.trans (hb.mono hz0))
          clear hv hb
          go_wp2
          go_ret2
          refine ⟨HB9.out, ?_⟩
          rw [hR.out]
          exact ⟨v, rfl, by simpa using HV.out⟩
      · have hN : Hid (withL (acc ++ [s[k]]) (unL ((bytes s).drop (k + 1)) (k + 1)) = unL (bytes s) 0) := Lib.hid (by rw [← hU.out, hd.out, un_plain _ _ _ (fun e => h126 (by rw [e]; rfl)), with_snoc])
        clear hd
        go_wp2_with (at_builtin; refine wpList_append_any _ rfl (.tmp 47) (.tmp 49) 49 rfl w.heap.size 5 i0 (.int .u8 0) 1 1 Tryd.underlying49 HI.out HZ0.out HZ1.out HZ2.out rfl (by omega) _ acc.length _ rfl (World.ownsRow.alloc hO.out _) (fun j => j = wr.heap.size) (some ⟨wr.heap.size, 0, none⟩) 1 1 [.int .u8 s[k].toNat] rfl (reads_new wr 5 [.int .u8 s[k].toNat]) (by simp [Value.oneCell']) (by simp only [maxLen]; omega) (by omega) (by simp; omega) ?_; intro v9 w9 hown9 hg9 hat9; have HO9 := Lib.hid hown9; have HB9 := Lib.hid (hB.out.trans (((Below.refl w.heap.size wr).alloc hz0 _).grown hg9 (by simp; omega) (fun j e => own_base hO.out e))); clear hown9 hg9 hat9)
        exact ⟨⟨k + 1, acc ++ [s[k]], by omega, by simp, by simp; omega, by simpa [bv] using HO9, HB9, hN⟩, by simp [intOf]; omega⟩
    · have hR : Hid (unL (bytes s) 0 = .inl acc) := Lib.hid (by
        have hnil : (bytes s).drop k = [] := List.drop_of_length_le (by rw [bytes_len]; omega)
        rw [← hU.out, hnil]
        simp [unL, withL])
      obtain ⟨A, c, rfl, hcap⟩ := own_shape hO.out
      have hl : Hid ((acc.map bv).length = acc.length) := Lib.hid (by simp)
      have hcv := run_string_own hO.out
      go_wp2
      go_ret2
      refine ⟨hB.out, ?_⟩
      rw [hR.out]
      rfl

/-- What the document's hands back. -/
def unR : List UInt8 ⊕ Nat → Value
  | .inl r => .tuple #[.string ⟨r.toArray⟩, .int .i64 0, .int .i64 0]
  | .inr p => .tuple #[.string ⟨#[]⟩, .int .i64 p, .int .i64 2]

set_option maxRecDepth 100000 in
set_option maxHeartbeats 2000000 in
theorem refUnescape_any (s : ByteArray) (w : World) (hs : s.size ≤ 16777216) :
    Calls Tryd.prog 9 #[.string s] w fun e w' => e = .returned (unR (unL (bytes s) 0)) ∧ w' = w := by
  obtain ⟨R, hR⟩ : ∃ R, R = unL (bytes s) 0 := ⟨_, rfl⟩
  have HR := Lib.hid hR
  rw [← hR]
  clear hR
  go_enter Tryd.func9, Tryd.ntmps9
  go_wp2
  go_loop [5, 6] (fun v i => ∃ (k : Nat) (acc : List UInt8), k ≤ s.size ∧ i = .int .i64 k ∧ acc.length ≤ k ∧ v = .string ⟨acc.toArray⟩ ∧ Hid (withL acc (unL ((bytes s).drop k) k) = R)) (fun _ i => match i with | .int _ m => s.size - m.toNat | _ => 0)
  case atStart => exact ⟨0, [], Nat.zero_le _, rfl, Nat.le_refl _, rfl, by show withL [] (unL (bytes s) 0) = _; rw [← HR.out]; cases R <;> simp [withL]⟩
  case round =>
    obtain ⟨k, acc, hk, rfl, hal, rfl, hU⟩ := hrel
    by_cases hlt : k < s.size
    · have hd := Lib.hid (bytes_drop s k hlt)
      by_cases h126 : (s[k].toNat : Int) = 126
      · have hE : Hid (s[k] = 126) := Lib.hid (u8_of s[k] 126 (by decide) h126)
        by_cases h1 : k + 1 < s.size
        · have hd1 := Lib.hid (bytes_drop s (k + 1) h1)
          have h1i : ((k : Int) + 1) < s.size := by omega
          by_cases h48 : (s[k + 1].toNat : Int) = 48
          · have hE1 : Hid (s[k + 1] = 48) := Lib.hid (u8_of s[k + 1] 48 (by decide) h48)
            have hN : Hid (withL (acc ++ [126]) (unL ((bytes s).drop (k + 2)) (k + 2)) = R) := Lib.hid (by rw [← hU.out, hd.out, hE.out, hd1.out, hE1.out, un_zero, with_snoc])
            have hadd := add_bytes acc [126] w (by omega) (by simp)
            clear hd hd1
            go_wp2
            exact ⟨⟨k + 2, acc ++ [126], by omega, by simp; omega, by simp; omega, rfl, hN⟩, by simp; omega⟩
          · by_cases h49 : (s[k + 1].toNat : Int) = 49
            · have hE1 : Hid (s[k + 1] = 49) := Lib.hid (u8_of s[k + 1] 49 (by decide) h49)
              have hN : Hid (withL (acc ++ [47]) (unL ((bytes s).drop (k + 2)) (k + 2)) = R) := Lib.hid (by rw [← hU.out, hd.out, hE.out, hd1.out, hE1.out, un_one, with_snoc])
              have hadd := add_bytes acc [47] w (by omega) (by simp)
              clear hd hd1
              go_wp2
              exact ⟨⟨k + 2, acc ++ [47], by omega, by simp; omega, by simp; omega, rfl, hN⟩, by simp; omega⟩
            · have hX : Hid (R = .inr (k + 1)) := Lib.hid (by
                rw [← hU.out, hd.out, hE.out, hd1.out, un_bad _ _ (by simp; intro e; exact h48 (by rw [e]; rfl)) (by simp; intro e; exact h49 (by rw [e]; rfl))]
                rfl)
              clear hd hd1
              go_wp2
              go_ret3
              rw [hX.out]
              exact ⟨by simp [unR], rfl⟩
        · have hX : Hid (R = .inr (k + 1)) := Lib.hid (by
            have hnil : (bytes s).drop (k + 1) = [] := List.drop_of_length_le (by rw [bytes_len]; omega)
            rw [← hU.out, hd.out, hE.out, hnil, un_bad _ _ (by simp) (by simp)]
            rfl)
          have h1i : ¬ ((k : Int) + 1) < s.size := by omega
          clear hd
          go_wp2
          go_ret3
          rw [hX.out]
          exact ⟨by simp [unR], rfl⟩
      · have hN : Hid (withL (acc ++ [s[k]]) (unL ((bytes s).drop (k + 1)) (k + 1)) = R) := Lib.hid (by rw [← hU.out, hd.out, un_plain _ _ _ (fun e => h126 (by rw [e]; rfl)), with_snoc])
        have hadd := add_bytes acc [s[k]] w (by omega) (by simp)
        have hx := extract_one s k hlt
        clear hd
        go_wp2
        exact ⟨⟨k + 1, acc ++ [s[k]], by omega, by simp, by simp; omega, rfl, hN⟩, by simp; omega⟩
    · have hX : Hid (R = .inl acc) := Lib.hid (by
        have hnil : (bytes s).drop k = [] := List.drop_of_length_le (by rw [bytes_len]; omega)
        rw [← hU.out, hnil]
        simp [unL, withL])
      go_wp2
      go_ret3
      rw [hX.out]
      exact ⟨rfl, rfl⟩
end Go.Proofs.YtlhekohecbiljaaDoor
