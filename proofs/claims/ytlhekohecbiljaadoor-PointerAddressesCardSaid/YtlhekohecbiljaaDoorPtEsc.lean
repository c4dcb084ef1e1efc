/-
  Escape, of the program and of the document.
-/
import Derived.Test.YtlhekohecbiljaaDoorPtIdx
namespace Go.Proofs.YtlhekohecbiljaaDoor
open Go.RowKit Go.BigFrame

/-- A byte as it stands in a pointer. -/
def esc1 (b : UInt8) : List UInt8 := if b = 126 then [126, 48] else if b = 47 then [126, 49] else [b]
/-- A token as it stands in a pointer. -/
def escL (l : List UInt8) : List UInt8 := l.flatMap esc1
theorem escL_snoc (l : List UInt8) (b : UInt8) : escL (l ++ [b]) = escL l ++ esc1 b := by simp [escL]
theorem esc1_len (b : UInt8) : (esc1 b).length ≤ 2 := by unfold esc1; split <;> (try split) <;> simp
theorem escL_len (l : List UInt8) : (escL l).length ≤ 2 * l.length := by
  induction l with
  | nil => simp [escL]
  | cons b t ih =>
    have := esc1_len b
    rw [show escL (b :: t) = esc1 b ++ escL t from rfl, List.length_append, List.length_cons]
    omega
/-- A byte's value. -/
def bv (b : UInt8) : Value := .int .u8 b.toNat
theorem bv_one (b : UInt8) : (bv b).oneCell' = true := rfl
theorem info_u8 : (Tryd.prog.info? 5).map (fun i => (i.zero, i.size, i.bytes)) = some (some (.int .u8 0), 1, 1) := by kernel_rfl
/-- Some new cells, as a slice. -/
theorem reads_new (w : World) (t : TypeId) (us : List Value) : Reads (w.alloc (.cells us.toArray t)) (fun j => j = w.heap.size) 1 (some ⟨w.heap.size, 0, none⟩) us.length us := ⟨by simp, fun _ => ⟨_, rfl, rfl, fun j x hj => by
  have := (Blk.new w t us.toArray).cell j
  simp only [List.getElem?_toArray] at this
  rw [← hj, ← this]
  cases j with
  | zero => rfl
  | succ j => simp [Addr.add]⟩⟩
theorem own_shape {W : World} {base e size k : Nat} {v : Value} {xs : List Value} (hr : W.ownsRow base e size v k xs) : ∃ A c, v = .slice A k c ∧ k ≤ c := by
  rcases hr.2 with ⟨rfl, h⟩ | ⟨g, cap, cur, rfl, _, hgb, h⟩
  · exact ⟨none, 0, by rw [h], by omega⟩
  · exact ⟨_, cap, rfl, h.1⟩
theorem own_base {W : World} {base e size k : Nat} {v : Value} {xs : List Value} (hr : W.ownsRow base e size v k xs) {j : Nat} (h : v.ownBlock = some j) : base ≤ j := by
  rcases hr.2 with ⟨rfl, _⟩ | ⟨g, cap, cur, rfl, hb, _⟩
  · simp [Value.ownBlock] at h
  · simp [Value.ownBlock] at h
    omega
theorem u8_of (b : UInt8) (n : Nat) (hn : n < 256) (h : (b.toNat : Int) = (n : Int)) : b = UInt8.ofNat n := by
  have := u8_eq b n hn
  rw [show ((b.toNat : Int) == (n : Int)) = true by simpa using h] at this
  simpa using this.symm
/-- string(b) of bytes of the call's own. -/
theorem run_string_own {w : World} {base : Nat} {A : Option Addr} {c : Nat} {l : List UInt8} (h : w.ownsRow base 5 1 (.slice A l.length c) l.length (l.map bv)) :
    (convert 49 9 (.slice A l.length c)).run Tryd.prog w = .ok (.string ⟨l.toArray⟩) w := by
  rcases h.2 with ⟨e, h0⟩ | ⟨g, cap, cur, e, _, _, _⟩
  · have hl : l = [] := List.length_eq_zero_iff.1 h0
    subst hl
    simp only [Value.slice.injEq] at e
    obtain ⟨rfl, -, rfl⟩ := e
    exact (run_convert_bytes_string w _ _ _ none _ 0 Tryd.underlying49 Tryd.underlying5 Tryd.underlying9).trans rfl
  · simp only [Value.slice.injEq] at e
    obtain ⟨rfl, -, -⟩ := e
    refine run_convert_bytes_back w _ _ _ _ _ l Tryd.underlying49 Tryd.underlying5 Tryd.underlying9 (fun j hj => ?_)
    obtain ⟨ad, u, e1, -, hu, hc⟩ := (Reads.of_own h).at_ hj
    simp at e1
    subst e1
    rw [List.getElem?_map, List.getElem?_eq_getElem hj] at hu
    simp at hu
    rw [hc, ← hu]
    rfl

set_option maxRecDepth 100000 in
set_option maxHeartbeats 2000000 in
theorem escape_any (s : ByteArray) (w : World) (hs : s.size ≤ 16777216) :
    Calls Tryd.prog 12 #[.string s] w fun e w' => e = .returned (.string ⟨(escL (bytes s)).toArray⟩) ∧ Below w.heap.size w w' := by
  obtain ⟨i0, hi, hz0, hz1, hz2⟩ := info_parts info_u8
  have HI := Lib.hid hi
  have HZ0 := Lib.hid hz0
  have HZ1 := Lib.hid hz1
  have HZ2 := Lib.hid hz2
  clear hi hz0 hz1 hz2
  go_enter Tryd.func12, Tryd.ntmps12
  go_wp2_with (at_make; refine wpList_make_own _ rfl _ _ 49 rfl w.heap.size 5 i0 (.int .u8 0) 1 Tryd.underlying49 HI.out HZ0.out HZ1.out .i64 .i64 _ s.size rfl rfl rfl (by rw [HZ2.out]; omega) (by simp only [maxLen]; omega) (Nat.le_refl _) ?_; intro w1 hown1 hg1; have HO1 := Lib.hid hown1; have HB1 := Lib.hid ((Below.refl w.heap.size w).grown hg1 (Nat.le_refl _) (by simp)); clear hown1 hg1)
  go_loopw [3, 11] (fun v i wr => ∃ k : Nat, k ≤ s.size ∧ i = .int .i64 k ∧ Hid (wr.ownsRow w.heap.size 5 1 v (escL ((bytes s).take k)).length ((escL ((bytes s).take k)).map bv)) ∧ Hid (Below w.heap.size w wr)) (fun _ i _ => (s.size - intOf i).toNat)
  case atStart => exact ⟨0, Nat.zero_le _, rfl, HO1, HB1⟩
  case round =>
    obtain ⟨k, hk, rfl, hO, hB⟩ := hrel
    by_cases hlt : k < s.size
    · obtain ⟨A, c, rfl, hcap⟩ := own_shape hO.out
      have hl := escL_len ((bytes s).take k)
      have hl2 : ((bytes s).take k).length ≤ s.size := by rw [List.length_take, bytes_len]; omega
      have hz0 := hB.out.size
      have hs1 : Hid (escL ((bytes s).take (k + 1)) = escL ((bytes s).take k) ++ esc1 s[k]) := Lib.hid (by rw [bytes_take s k hlt, escL_snoc])
      by_cases h47 : (s[k].toNat : Int) = 47
      · have hE : Hid (esc1 s[k] = [126, 49]) := Lib.hid (by
          have := u8_of s[k] 47 (by decide) h47
          rw [this]; decide)
        go_wp2_with (at_builtin; refine wpList_append_any _ rfl (.tmp 23) (.tmp 25) 49 rfl w.heap.size 5 i0 (.int .u8 0) 1 1 Tryd.underlying49 HI.out HZ0.out HZ1.out HZ2.out rfl (by omega) _ (escL ((bytes s).take k)).length _ rfl (World.ownsRow.alloc hO.out _) (fun j => j = wr.heap.size) (some ⟨wr.heap.size, 0, none⟩) 2 2 [.int .u8 126, .int .u8 49] rfl (reads_new wr 5 [.int .u8 126, .int .u8 49]) (by simp [Value.oneCell']) (by simp only [maxLen]; omega) (by omega) (by simp; omega) ?_; intro v9 w9 hown9 hg9 hat9; have HO9 := Lib.hid hown9; have HB9 := Lib.hid (hB.out.trans (((Below.refl w.heap.size wr).alloc hz0 _).grown hg9 (by simp; omega) (fun j e => own_base hO.out e))); clear hown9 hg9 hat9)
        go_roundw
        case rel => exact ⟨k + 1, by omega, by go_num, by rw [hs1.out, hE.out]; simpa [bv] using HO9, HB9⟩
        case measure => simp [intOf]; omega
      · by_cases h126 : (s[k].toNat : Int) = 126
        · have hE : Hid (esc1 s[k] = [126, 48]) := Lib.hid (by
            have := u8_of s[k] 126 (by decide) h126
            rw [this]; decide)
          go_wp2_with (at_builtin; refine wpList_append_any _ rfl (.tmp 23) (.tmp 25) 49 rfl w.heap.size 5 i0 (.int .u8 0) 1 1 Tryd.underlying49 HI.out HZ0.out HZ1.out HZ2.out rfl (by omega) _ (escL ((bytes s).take k)).length _ rfl (World.ownsRow.alloc hO.out _) (fun j => j = wr.heap.size) (some ⟨wr.heap.size, 0, none⟩) 2 2 [.int .u8 126, .int .u8 48] rfl (reads_new wr 5 [.int .u8 126, .int .u8 48]) (by simp [Value.oneCell']) (by simp only [maxLen]; omega) (by omega) (by simp; omega) ?_; intro v9 w9 hown9 hg9 hat9; have HO9 := Lib.hid hown9; have HB9 := Lib.hid (hB.out.trans (((Below.refl w.heap.size wr).alloc hz0 _).grown hg9 (by simp; omega) (fun j e => own_base hO.out e))); clear hown9 hg9 hat9)
          go_roundw
          case rel => exact ⟨k + 1, by omega, by go_num, by rw [hs1.out, hE.out]; simpa [bv] using HO9, HB9⟩
          case measure => simp [intOf]; omega
        · have hE : Hid (esc1 s[k] = [s[k]]) := Lib.hid (by
            unfold esc1
            rw [if_neg (fun e => h126 (by rw [e]; rfl)), if_neg (fun e => h47 (by rw [e]; rfl))])
          go_wp2_with (at_builtin; refine wpList_append_any _ rfl (.tmp 27) (.tmp 31) 49 rfl w.heap.size 5 i0 (.int .u8 0) 1 1 Tryd.underlying49 HI.out HZ0.out HZ1.out HZ2.out rfl (by omega) _ (escL ((bytes s).take k)).length _ rfl (World.ownsRow.alloc hO.out _) (fun j => j = wr.heap.size) (some ⟨wr.heap.size, 0, none⟩) 1 1 [.int .u8 s[k].toNat] rfl (reads_new wr 5 [.int .u8 s[k].toNat]) (by simp [Value.oneCell']) (by simp only [maxLen]; omega) (by omega) (by simp; omega) ?_; intro v9 w9 hown9 hg9 hat9; have HO9 := Lib.hid hown9; have HB9 := Lib.hid (hB.out.trans (((Below.refl w.heap.size wr).alloc hz0 _).grown hg9 (by simp; omega) (fun j e => own_base hO.out e))); clear hown9 hg9 hat9)
          go_roundw
          case rel => exact ⟨k + 1, by omega, by go_num, by rw [hs1.out, hE.out]; simpa [bv] using HO9, HB9⟩
          case measure => simp [intOf]; omega
    · have hke : Hid (k = s.size) := Lib.hid (by omega)
      obtain ⟨A, c, rfl, hcap⟩ := own_shape hO.out
      have hcv := Lib.hid (run_string_own hO.out)
      have hcv' := hcv.out
      go_wp2_with fail
      go_ret
      refine ⟨?_, hB.out⟩
      show Ending.returned (.string ⟨(escL ((bytes s).take k)).toArray⟩) = _
      rw [hke.out, bytes_full]

theorem extract_one (s : ByteArray) (k : Nat) (h : k < s.size) : s.extract k (k + 1) = ⟨[s[k]].toArray⟩ := by
  rw [Lib.extract_eq]
  congr 2
  rw [show k + 1 - k = 1 by omega, show s.data.toList = bytes s from rfl, bytes_drop s k h]
  rfl
theorem add_bytes (x y : List UInt8) (w : World) (hx : x.length ≤ 67108864) (hy : y.length ≤ 67108864) : (Op.stringOp .add ⟨x.toArray⟩ ⟨y.toArray⟩).run Tryd.prog w = .ok (.string ⟨(x ++ y).toArray⟩) w := by
  rw [run_string_add_sum w _ _ (by simp [ByteArray.size]; omega), ByteArray.mk_append_mk]

set_option maxRecDepth 100000 in
set_option maxHeartbeats 2000000 in
theorem refEscape_any (s : ByteArray) (w : World) (hs : s.size ≤ 16777216) :
    Calls Tryd.prog 13 #[.string s] w fun e w' => e = .returned (.string ⟨(escL (bytes s)).toArray⟩) ∧ w' = w := by
  go_enter Tryd.func13, Tryd.ntmps13
  go_wp2
  go_loop [3, 7] (fun v i => ∃ k : Nat, k ≤ s.size ∧ i = .int .i64 k ∧ v = .string ⟨(escL ((bytes s).take k)).toArray⟩) (fun _ i => match i with | .int _ m => s.size - m.toNat | _ => 0)
  case atStart => exact ⟨0, Nat.zero_le _, rfl, rfl⟩
  case round =>
    obtain ⟨k, hk, rfl, rfl⟩ := hrel
    have hl := escL_len ((bytes s).take k)
    have hl2 : ((bytes s).take k).length ≤ s.size := by rw [List.length_take, bytes_len]; omega
    by_cases hlt : k < s.size
    · have hs1 : Hid (escL ((bytes s).take (k + 1)) = escL ((bytes s).take k) ++ esc1 s[k]) := Lib.hid (by rw [bytes_take s k hlt, escL_snoc])
      by_cases h47 : (s[k].toNat : Int) = 47
      · have hE : Hid (esc1 s[k] = [126, 49]) := Lib.hid (by
          have := u8_of s[k] 47 (by decide) h47
          rw [this]; decide)
        have hadd := add_bytes (escL ((bytes s).take k)) [126, 49] w (by omega) (by simp)
        go_wp2
        exact ⟨⟨k + 1, by omega, by simp, by rw [hs1.out, hE.out]⟩, by simp; omega⟩
      · by_cases h126 : (s[k].toNat : Int) = 126
        · have hE : Hid (esc1 s[k] = [126, 48]) := Lib.hid (by
            have := u8_of s[k] 126 (by decide) h126
            rw [this]; decide)
          have hadd := add_bytes (escL ((bytes s).take k)) [126, 48] w (by omega) (by simp)
          go_wp2
          exact ⟨⟨k + 1, by omega, by simp, by rw [hs1.out, hE.out]⟩, by simp; omega⟩
        · have hE : Hid (esc1 s[k] = [s[k]]) := Lib.hid (by
            unfold esc1
            rw [if_neg (fun e => h126 (by rw [e]; rfl)), if_neg (fun e => h47 (by rw [e]; rfl))])
          have hadd := add_bytes (escL ((bytes s).take k)) [s[k]] w (by omega) (by simp)
          have hx := extract_one s k hlt
          go_wp2
          exact ⟨⟨k + 1, by omega, by simp, by rw [hs1.out, hE.out]⟩, by simp; omega⟩
    · have hke : Hid (k = s.size) := Lib.hid (by omega)
      go_wp2
      go_ret
      refine ⟨?_, rfl⟩
      show Ending.returned (.string ⟨(escL ((bytes s).take k)).toArray⟩) = _
      rw [hke.out, bytes_full]
end Go.Proofs.YtlhekohecbiljaaDoor
