/-
  THE WALKS of sparse's Cut, First and Of.
-/
import Derived.Test.YtbgmlcakdkkfdaaDoorSpB
import Derived.Lib.TrailingZeros
namespace Go.Proofs.YtbgmlcakdkkfdaaDoor
open Go.RowKit Go.BigFrame

theorem set_out (m : List (Option Int)) (i x : Int) (A : Option Addr) (c : Nat) (w : World) (hm : m.length = 32) (hi : i < 0 ∨ 31 < i)
    (hc : (Sp.vals m).length ≤ c) (S : Nat → Prop) (hS : ∀ k, S k → k < w.heap.size) (hr : Reads w S 1 A (Sp.vals m).length ((Sp.vals m).map (Value.int .i64))) :
    Calls Tryd.prog 25 #[.agg #[.int .u32 (Sp.bitsL m), .slice A (Sp.vals m).length c], .int .i64 i, .int .i64 x] w (RowOut w S m) := by
  have HM := Lib.hid hm
  clear hm
  have fin : ∀ W, W = (((w.alloc (.cells #[.int .u32 (Sp.bitsL m), .slice A (Sp.vals m).length c] 26)).alloc (.cells #[.int .u32 (Sp.bitsL m), .slice A (Sp.vals m).length c] 26))) →
      RowOut w S m (.returned (.agg #[.int .u32 (Sp.bitsL m), .slice A (Sp.vals m).length c])) W := by
    rintro W rfl
    have hB : Below w.heap.size w ((w.alloc (.cells #[.int .u32 (Sp.bitsL m), .slice A (Sp.vals m).length c] 26)).alloc (.cells #[.int .u32 (Sp.bitsL m), .slice A (Sp.vals m).length c] 26)) := ((Below.refl _ _).alloc (Nat.le_refl _) _).alloc (by simp) _
    exact ⟨_, rfl, ⟨HM.out, fun k hk => by rcases hk with h | h; exact Nat.lt_of_lt_of_le (hS k h) hB.size; exact h.2, A, c, rfl, hc, (hr.below hB hS).more fun _ h => .inl h⟩, hB⟩
  have FIN := Lib.hid fin
  clear fin
  by_cases h0 : i < 0
  · clear hi
    go_enter Tryd.func25, Tryd.ntmps25
    go_wp2
    refine bodyPost_ret (v := .agg #[.int .u32 (Sp.bitsL m), .slice A (Sp.vals m).length c]) (by simp [results, Tryd.results25, go_sem]) rfl (FIN.out _ rfl)
  · have h1 : 31 < i := by omega
    clear hi
    go_enter Tryd.func25, Tryd.ntmps25
    go_wp2
    refine bodyPost_ret (v := .agg #[.int .u32 (Sp.bitsL m), .slice A (Sp.vals m).length c]) (by simp [results, Tryd.results25, go_sem]) rfl (FIN.out _ rfl)

/-- Set, at any number. -/
theorem set_any (m : List (Option Int)) (i x : Int) (v : Value) (w : World) (S : Nat → Prop) (hv : RowIn w S m v) :
    Calls Tryd.prog 25 #[v, .int .i64 i, .int .i64 x] w (RowOut w S (Sp.setM m i x)) := by
  obtain ⟨hm, hS, A, c, rfl, hc, hr⟩ := hv
  by_cases hi : 0 ≤ i ∧ i < 32
  · rw [Sp.setM, if_pos hi]
    obtain ⟨n, rfl⟩ := Int.eq_ofNat_of_zero_le hi.1
    rw [Int.toNat_natCast]
    cases hx : Sp.at_ m n with
    | none => exact set_no m n x A c w hm (by omega) hx hc S hS hr
    | some y => exact set_yes m n x y A c w hm (by omega) hx hc S hS hr
  · rw [Sp.setM, if_neg hi]
    exact set_out m i x A c w hm (by omega) hc S hS hr

theorem get_any (m : List (Option Int)) (i : Int) (v : Value) (w : World) (S : Nat → Prop) (hv : RowIn w S m v) :
    Calls Tryd.prog 15 #[v, .int .i64 i] w fun e w' => e = .returned (.tuple #[.int .i64 ((Sp.getM m i).getD 0), .bool (Sp.getM m i).isSome]) ∧ Below w.heap.size w w' := by
  obtain ⟨hm, hS, A, c, rfl, hc, hr⟩ := hv
  have hb := Sp.bitsL_lt m
  rw [hm] at hb
  by_cases hi : 0 ≤ i ∧ i < 32
  · rw [Sp.getM, if_pos hi]
    obtain ⟨n, rfl⟩ := Int.eq_ofNat_of_zero_le hi.1
    rw [Int.toNat_natCast]
    cases hx : Sp.at_ m n with
    | none => exact get_no _ _ _ w hb (.inr (.inr (by rw [Int.toNat_natCast, Sp.testBit_bitsL, hx]; rfl)))
    | some y => exact get_yes m n y A c w S hS hm (by omega) hx hr
  · rw [Sp.getM, if_neg hi]
    exact get_no _ _ _ w hb (by omega)

/-- The table of TrailingZeros32. -/
def TabAt (w : World) : Prop := ∀ j, j < Lib.deBruijn32tab.length → w.cell? ⟨0, j, none⟩ = some (.int .u8 (Lib.deBruijn32tab.getD j 0)) 
theorem TabAt.below {B : Nat} {w w' : World} (h : TabAt w) (hb : Below B w w') (hB : 0 < B) : TabAt w' := fun j hj => (hb.cell (p := ⟨0, j, none⟩) hB).trans (h j hj)

theorem tz_core (x k idx : Nat) (w : World) (hx0 : ((x : Int) == 0) = false)
    (key : bits BinOp.and IntKind.u32 (x : Int) (-(x : Int) % 4294967296) * 125613361 % 4294967296 / 134217728 = (idx : Int))
    (hi : idx < 32) (hcell : w.cell? ⟨0, idx, none⟩ = some (.int .u8 k)) (hk : k < 32) :
    Calls Tryd.prog 36 #[.int .u32 x] w fun e w' => e = .returned (.int .i64 k) ∧ w' = w := by
  go_enter Tryd.func36, Tryd.ntmps36
  go_wp2_with (simp only [key])
  go_ret
  exact ⟨rfl, rfl⟩
theorem tz_key (x a : Nat) (hx : x < 4294967296) (hx0 : x ≠ 0) (hlow : x &&& (4294967296 - x) = a) :
    bits BinOp.and IntKind.u32 (x : Int) (-(x : Int) % 4294967296) * 125613361 % 4294967296 / 134217728 = ((a * 125613361 % 4294967296 / 134217728 : Nat) : Int) := by
  have e1 : -(x : Int) % 4294967296 = ((4294967296 - x : Nat) : Int) := by omega
  rw [e1, bits_and_nat x _ hx (by omega), hlow]
  omega
theorem tz_any (x : Nat) (hx : x < 4294967296) (hx0 : x ≠ 0) (w : World) (hT : TabAt w) :
    Calls Tryd.prog 36 #[.int .u32 x] w fun e w' => e = .returned (.int .i64 (Lib.ctz 32 x)) ∧ w' = w := by
  obtain ⟨hlow, hk⟩ := Lib.lowest_bit 32 x hx0 hx
  obtain ⟨hi, htab⟩ := Lib.deBruijn32_at _ hk
  have hcell := hT _ hi
  rw [htab] at hcell
  exact tz_core x _ _ w (by simp; omega) (tz_key x _ hx hx0 hlow) hi hcell hk

theorem first_no (m : List (Option Int)) (v : Value) (w : World) (S : Nat → Prop) (hv : RowIn w S m v) (h : Sp.firstM m = none) :
    Calls Tryd.prog 26 #[v] w fun e w' => e = .returned (.tuple #[.int .i64 0, .int .i64 0, .bool false]) ∧ Below w.heap.size w w' := by
  obtain ⟨hm, hS, A, c, rfl, hc, hr⟩ := hv
  rw [Sp.firstM_none m h]
  clear h
  go_enter Tryd.func26, Tryd.ntmps26
  go_wp2
  go_ret3
  exact ⟨rfl, (Below.refl _ _).alloc (Nat.le_refl _) _⟩

theorem first_yes (m : List (Option Int)) (i : Nat) (x : Int) (v : Value) (w : World) (S : Nat → Prop) (hv : RowIn w S m v) (h : Sp.firstM m = some (i, x)) (hT : TabAt w) (hg : 0 < w.heap.size) :
    Calls Tryd.prog 26 #[v] w fun e w' => e = .returned (.tuple #[.int .i64 i, .int .i64 x, .bool true]) ∧ Below w.heap.size w w' := by
  obtain ⟨hm, hS, A, c, rfl, hc, hr⟩ := hv
  obtain ⟨h1, h2, h3, h4, h5⟩ := Sp.firstM_some m i x h
  clear h
  have hb := Sp.bitsL_lt m
  rw [hm] at hb
  have hl : 0 < (Sp.vals m).length := by
    rcases Nat.eq_zero_or_pos (Sp.vals m).length with h | h
    · rw [List.eq_nil_of_length_eq_zero h] at h3; simp at h3
    · exact h
  obtain ⟨ad, u, rfl, hads, hu, hcell⟩ := hr.at_ hl
  have had := hS _ hads
  clear hads
  rw [List.getElem?_map, h3] at hu
  obtain rfl : Value.int .i64 x = u := by simpa using hu
  have hctz : Lib.ctz 32 (Sp.bitsL m) = i := by rw [Lib.ctz, if_neg h5, Sp.ctz_first 32 m i x h1 h2 (by omega)]
  have hcell' : (w.alloc (.cells #[.int .u32 (Sp.bitsL m), .slice (some ad) (Sp.vals m).length c] 26)).cell? ad = some (.int .i64 x) := by
    rw [World.cell?_alloc_lt _ _ _ had]; exact hcell
  have hz : ((Sp.bitsL m : Int) == 0) = false := by simp; omega
  have HB := Lib.hid hb
  have HC := Lib.hid hctz
  have H5 := Lib.hid h5
  have HT := Lib.hid (hT.below ((Below.refl w.heap.size w).alloc (Nat.le_refl _) (.cells #[.int .u32 (Sp.bitsL m), .slice (some ad) (Sp.vals m).length c] 26)) hg)
  clear hu h1 h2 h3 h4 h5 hctz hb hT hcell hr hm hc hg had hS
  go_enter Tryd.func26, Tryd.ntmps26
  go_wp2_with fail
  go_quiet ((go_at_call 36; exact Calls.quiet_of_same (tz_any _ HB.out H5.out _ (fun j hj => HT.out j hj))))
  go_wp2
  go_ret3
  exact ⟨by rw [← HC.out]; rfl, below_drewN ((Below.refl _ _).alloc (Nat.le_refl _) _) _⟩
end Go.Proofs.YtbgmlcakdkkfdaaDoor
