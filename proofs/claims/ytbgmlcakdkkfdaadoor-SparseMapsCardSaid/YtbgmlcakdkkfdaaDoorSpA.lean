/-
  THE WALKS of package sparse's small questions: how many bits are set; whether a place has something; where its thing stands.
-/
import Derived.Test.YtbgmlcakdkkfdaaDoorRows
import Derived.Test.YtbgmlcakdkkfdaaDoorSpMath
import Derived.Test.YtbgmlcakdkkfdaaDoorWords
import Derived.WalkKit
import Derived.WalkSpells
import Derived.WalkLawsBesides
import Derived.Deep.QuietTactic
import Derived.BigQuiet
import Derived.Deep.RegionHeld3
import Derived.Lib.Tables
import Derived.Laws.BitsLemmas
import Derived.KernelRfl
import Derived.Lib.Hide
namespace Go.Proofs.YtbgmlcakdkkfdaaDoor
open Go.RowKit Go.BigFrame

theorem bcell {W w1 : World} (hb : Below W.heap.size W w1) : (∀ b o, b < W.heap.size → w1.cell? ⟨b, o, none⟩ = W.cell? ⟨b, o, none⟩) ∧ (∀ b o, b < W.heap.size → w1.frozen? ⟨b, o, none⟩ = W.frozen? ⟨b, o, none⟩) :=
  ⟨fun b o h => hb.cell (p := ⟨b, o, none⟩) h, fun b o h => hb.frozen (p := ⟨b, o, none⟩) h⟩

theorem bits_and_nat (a b : Nat) (ha : a < 4294967296) (hb : b < 4294967296) : bits .and .u32 (a : Int) (b : Int) = ((a &&& b : Nat) : Int) :=
  (bits_nat .u32 32 (by decide) (fun n h0 h1 => by rw [IntKind.wrap_u32]; omega) a b (by omega) (by omega)).1

theorem below_drewl {B : Nat} {w w' : World} (h : Below B w.drew w') : Below B w w' := ⟨h.os, h.tape, h.output, h.size, h.block⟩
theorem bits_or_nat (a b : Nat) (ha : a < 4294967296) (hb : b < 4294967296) : bits .or .u32 (a : Int) (b : Int) = ((a ||| b : Nat) : Int) :=
  (bits_nat .u32 32 (by decide) (fun n h0 h1 => by rw [IntKind.wrap_u32]; omega) a b (by omega) (by omega)).2
theorem ret_int {k : IntKind} {a b : Int} (h : a = b) : Ending.returned (.int k a) = .returned (.int k b) := by rw [h]

theorem fold_pop8 : (⟨(([0, 1, 1, 2, 1, 2, 2, 3, 1, 2, 2, 3, 2, 3, 3, 4, 1, 2, 2, 3, 2, 3, 3, 4, 2, 3, 3, 4, 3, 4, 4, 5, 1, 2, 2, 3, 2, 3, 3, 4, 2, 3, 3, 4, 3, 4, 4, 5, 2, 3, 3, 4, 3, 4, 4, 5, 3, 4, 4, 5, 4, 5, 5, 6].append [1, 2, 2, 3, 2, 3, 3, 4, 2, 3, 3, 4, 3, 4, 4, 5, 2, 3, 3, 4, 3, 4, 4, 5, 3, 4, 4, 5, 4, 5, 5, 6, 2, 3, 3, 4, 3, 4, 4, 5, 3, 4, 4, 5, 4, 5, 5, 6, 3, 4, 4, 5, 4, 5, 5, 6, 4, 5, 5, 6, 5, 6, 6, 7]).append ([1, 2, 2, 3, 2, 3, 3, 4, 2, 3, 3, 4, 3, 4, 4, 5, 2, 3, 3, 4, 3, 4, 4, 5, 3, 4, 4, 5, 4, 5, 5, 6, 2, 3, 3, 4, 3, 4, 4, 5, 3, 4, 4, 5, 4, 5, 5, 6, 3, 4, 4, 5, 4, 5, 5, 6, 4, 5, 5, 6, 5, 6, 6, 7].append [2, 3, 3, 4, 3, 4, 4, 5, 3, 4, 4, 5, 4, 5, 5, 6, 3, 4, 4, 5, 4, 5, 5, 6, 4, 5, 5, 6, 5, 6, 6, 7, 3, 4, 4, 5, 4, 5, 5, 6, 4, 5, 5, 6, 5, 6, 6, 7, 4, 5, 5, 6, 5, 6, 6, 7, 5, 6, 6, 7, 6, 7, 7, 8])).toArray⟩ : ByteArray) = Lib.pop8tab := by kernel_rfl
attribute [local go_sem high] fold_pop8

set_option maxHeartbeats 400000 in
theorem ones_any (n : Nat) (w : World) (h1 : n < 4294967296) : Calls Tryd.prog 28 #[.int .u32 n] w fun e w' => e = .returned (.int .i64 (Lib.onesCount n)) ∧ ∃ k, w' = w.drewN k := by
  have p1 : (0 : Int) ≤ (n : Int) / 16777216 := by omega
  have p2 : (n : Int) / 16777216 ≤ 255 := by omega
  have e2 : bits .and .u32 ((n : Int) / 65536) 255 = ((n / 65536 % 256 : Nat) : Int) := by
    rw [show ((n : Int) / 65536) = ((n / 65536 : Nat) : Int) by omega, show (255 : Int) = ((255 : Nat) : Int) by rfl, bits_and_nat _ _ (by omega) (by omega), show 255 = 2 ^ 8 - 1 by rfl, Nat.and_two_pow_sub_one_eq_mod]
  have e3 : bits .and .u32 ((n : Int) / 256) 255 = ((n / 256 % 256 : Nat) : Int) := by
    rw [show ((n : Int) / 256) = ((n / 256 : Nat) : Int) by omega, show (255 : Int) = ((255 : Nat) : Int) by rfl, bits_and_nat _ _ (by omega) (by omega), show 255 = 2 ^ 8 - 1 by rfl, Nat.and_two_pow_sub_one_eq_mod]
  have e4 : bits .and .u32 (n : Int) 255 = ((n % 256 : Nat) : Int) := by
    rw [show (255 : Int) = ((255 : Nat) : Int) by rfl, bits_and_nat _ _ (by omega) (by omega), show 255 = 2 ^ 8 - 1 by rfl, Nat.and_two_pow_sub_one_eq_mod]
  go_enter Tryd.func28, Tryd.ntmps28
  go_wp2_with fail
  go_quiet (fail)
  go_wp2
  go_ret
  refine ⟨?_, nq, rfl⟩
  have a1 := Lib.pop8_eq ⟨n / 16777216, by omega⟩
  have a2 := Lib.pop8_eq ⟨n / 65536 % 256, by omega⟩
  have a3 := Lib.pop8_eq ⟨n / 256 % 256, by omega⟩
  have a4 := Lib.pop8_eq ⟨n % 256, by omega⟩
  simp only [Int.natCast_ediv, Int.natCast_emod, Int.cast_ofNat_Int] at a1 a2 a3 a4
  have l1 := Sp.onesCount_le8' (n / 16777216) (by omega)
  have l2 := Sp.onesCount_le8' (n / 65536 % 256) (by omega)
  have l3 := Sp.onesCount_le8' (n / 256 % 256) (by omega)
  have l4 := Sp.onesCount_le8' (n % 256) (by omega)
  rw [Sp.pop32 n h1]
  refine ret_int ?_
  rw [a1, a2, a3, a4]
  omega

/-- A place that has something. -/
theorem bit_nat (b i : Nat) (hb : b < 4294967296) (_hi : i < 32) : bits .and .u32 ((b : Int) / 2 ^ i) 1 = ((if b.testBit i then 1 else 0 : Nat) : Int) := by
  have h2 : ((b : Int) / 2 ^ i) = ((b / 2 ^ i : Nat) : Int) := by simp
  have h3 : b / 2 ^ i < 4294967296 := Nat.lt_of_le_of_lt (Nat.div_le_self _ _) hb
  rw [h2, show (1 : Int) = ((1 : Nat) : Int) by rfl, bits_and_nat _ _ h3 (by omega), Nat.and_one_is_mod, Nat.testBit_eq_decide_div_mod_eq]
  have := Nat.mod_two_eq_zero_or_one (b / 2 ^ i)
  rcases this with h | h <;> simp [h]

set_option maxHeartbeats 400000 in
theorem has_yes (b i : Nat) (s : Value) (w : World) (hb : b < 4294967296) (hi : i < 32) (ht : b.testBit i = true) :
    Calls Tryd.prog 32 #[.agg #[.int .u32 b, s], .int .i64 i] w fun e w' => e = .returned (.bool true) ∧ Below w.heap.size w w' := by
  have hi' : (i : Int) < 32 := by omega
  have hbit := bit_nat b i hb hi
  rw [ht] at hbit
  have H := Lib.hid ht
  clear ht
  go_enter Tryd.func32, Tryd.ntmps32
  go_wp2
  go_ret
  exact ⟨rfl, (Below.refl _ _).alloc (Nat.le_refl _) _⟩

/-- A place that has nothing, or is none. -/
theorem has_no (b : Nat) (i : Int) (s : Value) (w : World) (hb : b < 4294967296) (hi : i < 0 ∨ 32 ≤ i ∨ b.testBit i.toNat = false) :
    Calls Tryd.prog 32 #[.agg #[.int .u32 b, s], .int .i64 i] w fun e w' => e = .returned (.bool false) ∧ Below w.heap.size w w' := by
  by_cases h0 : i < 0
  · clear hi
    go_enter Tryd.func32, Tryd.ntmps32
    go_wp2
    go_ret
    exact ⟨rfl, (Below.refl _ _).alloc (Nat.le_refl _) _⟩
  by_cases h1 : 32 ≤ i
  · clear hi
    go_enter Tryd.func32, Tryd.ntmps32
    go_wp2
    go_ret
    exact ⟨rfl, (Below.refl _ _).alloc (Nat.le_refl _) _⟩
  have ht : b.testBit i.toNat = false := by rcases hi with h | h | h <;> first | exact h | omega
  clear hi
  obtain ⟨n, rfl⟩ := Int.eq_ofNat_of_zero_le (by omega : 0 ≤ i)
  have hi' : (n : Int) < 32 := by omega
  have hbit := bit_nat b n hb (by omega)
  rw [Int.toNat_natCast] at ht
  rw [ht] at hbit
  clear ht
  go_enter Tryd.func32, Tryd.ntmps32
  go_wp2
  go_ret
  exact ⟨rfl, (Below.refl _ _).alloc (Nat.le_refl _) _⟩

/-- How many places below one have something. -/
theorem shl_one (i : Nat) (hi : i < 32) : ((2 ^ i - 1 : Int) % 4294967296) = ((2 ^ i - 1 : Nat) : Int) := by
  have h1 : 2 ^ i < 2 ^ 32 := Nat.pow_lt_pow_right (by omega) hi
  have h2 : 0 < 2 ^ i := Nat.pow_pos (by omega)
  have h3 : ((2 ^ i : Nat) : Int) = (2 : Int) ^ i := by simp
  rw [← h3]
  omega

theorem rank_any (m : List (Option Int)) (i : Nat) (s : Value) (w : World) (hm : m.length = 32) (hi : i < 32) :
    Calls Tryd.prog 33 #[.agg #[.int .u32 (Sp.bitsL m), s], .int .i64 i] w fun e w' => e = .returned (.int .i64 (Sp.rank m i)) ∧ Below w.heap.size w w' := by
  have hi' : (i : Int) < 32 := by omega
  have hb := Sp.bitsL_lt m
  have h1 : 2 ^ i < 2 ^ 32 := Nat.pow_lt_pow_right (by omega) hi
  rw [hm] at hb
  have hand : bits .and .u32 (Sp.bitsL m : Int) ((2 ^ i - 1 : Int) % 4294967296) = ((Sp.bitsL m &&& (2 ^ i - 1) : Nat) : Int) := by
    rw [shl_one i hi, bits_and_nat _ _ hb (by omega)]
  have hr := Sp.pop_rank m i (by omega)
  have hlt : Sp.bitsL m &&& (2 ^ i - 1) < 4294967296 := Nat.lt_of_le_of_lt Nat.and_le_left hb
  go_enter Tryd.func33, Tryd.ntmps33
  go_wp2_with fail
  rw [show ((Sp.bitsL m : Int) % 2 ^ i) = ((Sp.bitsL m % 2 ^ i : Nat) : Int) by simp]
  refine (ones_any _ _ (by rw [← Nat.and_two_pow_sub_one_eq_mod]; exact hlt)).mono ?_
  rintro e w1 ⟨rfl, k, rfl⟩
  go_wp2
  go_ret
  refine ⟨ret_int ?_, ?_⟩
  · rw [← hr, Nat.and_two_pow_sub_one_eq_mod]
  · exact below_drewN ((Below.refl _ _).alloc (Nat.le_refl _) _) _

theorem len_any (b : Int) (A : Option Addr) (n c : Nat) (w : World) :
    Calls Tryd.prog 27 #[.agg #[.int .u32 b, .slice A n c]] w fun e w' => e = .returned (.int .i64 n) ∧ Below w.heap.size w w' := by
  go_enter Tryd.func27, Tryd.ntmps27
  go_wp2
  go_ret
  exact ⟨rfl, (Below.refl _ _).alloc (Nat.le_refl _) _⟩

theorem bits_any (b : Int) (s : Value) (w : World) :
    Calls Tryd.prog 23 #[.agg #[.int .u32 b, s]] w fun e w' => e = .returned (.int .u32 b) ∧ Below w.heap.size w w' := by
  go_enter Tryd.func23, Tryd.ntmps23
  go_wp2
  go_ret
  exact ⟨rfl, (Below.refl _ _).alloc (Nat.le_refl _) _⟩

/-- What lies in S, and what was made since w. -/
def Sx (S : Nat → Prop) (w w' : World) (k : Nat) : Prop := S k ∨ (w.heap.size ≤ k ∧ k < w'.heap.size)
/-- A row's value: its bits, and a slice that reads as its things; what it reads lies in S. -/
def RowIn (w : World) (S : Nat → Prop) (m : List (Option Int)) (v : Value) : Prop :=
  m.length = 32 ∧ (∀ k, S k → k < w.heap.size) ∧ ∃ (A : Option Addr) (c : Nat), v = .agg #[.int .u32 (Sp.bitsL m), .slice A (Sp.vals m).length c] ∧ (Sp.vals m).length ≤ c ∧ Reads w S 1 A (Sp.vals m).length ((Sp.vals m).map (Value.int .i64))
theorem RowIn.below {w w' : World} {S : Nat → Prop} {m : List (Option Int)} {v : Value} (h : RowIn w S m v) (hb : Below w.heap.size w w') : RowIn w' S m v := by
  obtain ⟨h1, h5, A, c, h2, h3, h4⟩ := h
  exact ⟨h1, fun k hk => Nat.lt_of_lt_of_le (h5 k hk) hb.size, A, c, h2, h3, h4.below hb h5⟩
theorem RowIn.belowS {B : Nat} {w w' : World} {S : Nat → Prop} {m : List (Option Int)} {v : Value} (h : RowIn w S m v) (hb : Below B w w') (hS : ∀ k, S k → k < B) : RowIn w' S m v := by
  obtain ⟨h1, h5, A, c, h2, h3, h4⟩ := h
  exact ⟨h1, fun k hk => Nat.lt_of_lt_of_le (h5 k hk) hb.size, A, c, h2, h3, h4.below hb hS⟩
theorem RowIn.more {w : World} {S S' : Nat → Prop} {m : List (Option Int)} {v : Value} (h : RowIn w S m v) (hS : ∀ k, S k → S' k) (hB : ∀ k, S' k → k < w.heap.size) : RowIn w S' m v := by
  obtain ⟨h1, h5, A, c, h2, h3, h4⟩ := h
  exact ⟨h1, hB, A, c, h2, h3, h4.more hS⟩
theorem RowIn.setCell {w : World} {S : Nat → Prop} {m : List (Option Int)} {v : Value} (h : RowIn w S m v) {p : Addr} (hp : ¬ S p.block) (u : Value) : RowIn (w.setCell p u) S m v := by
  obtain ⟨h1, h5, A, c, h2, h3, h4⟩ := h
  exact ⟨h1, fun k hk => by simpa [World.setCell] using h5 k hk, A, c, h2, h3, h4.setCell hp u⟩

theorem get_yes (m : List (Option Int)) (i : Nat) (x : Int) (A : Option Addr) (c : Nat) (w : World) (S : Nat → Prop) (hS : ∀ k, S k → k < w.heap.size) (hm : m.length = 32) (hi : i < 32) (hx : Sp.at_ m i = some x)
    (hr : Reads w S 1 A (Sp.vals m).length ((Sp.vals m).map (Value.int .i64))) :
    Calls Tryd.prog 15 #[.agg #[.int .u32 (Sp.bitsL m), .slice A (Sp.vals m).length c], .int .i64 i] w fun e w' => e = .returned (.tuple #[.int .i64 x, .bool true]) ∧ Below w.heap.size w w' := by
  have hb := Sp.bitsL_lt m
  rw [hm] at hb
  have hlt := Sp.rank_lt m i (by omega) x hx
  obtain ⟨ad, u, rfl, hads, hu, hcell⟩ := hr.at_ hlt
  have had := hS _ hads
  clear hS hads
  have hu' := Sp.vals_get m i (by omega) x hx
  rw [List.getElem?_map, hu'] at hu
  obtain rfl : Value.int .i64 x = u := by simpa using hu
  clear hu hr
  have hl0 : (0 : Int) ≤ ((Sp.rank m i : Nat) : Int) := by omega
  have hl1 : ((Sp.rank m i : Nat) : Int) < (((Sp.vals m).length : Nat) : Int) := by omega
  have ht : (Sp.bitsL m).testBit i = true := by rw [Sp.testBit_bitsL, hx]; rfl
  have HT := Lib.hid ht
  have HU := Lib.hid hu'
  have HX := Lib.hid hx
  have HM := Lib.hid hm
  clear ht hu' hx hm
  go_enter Tryd.func15, Tryd.ntmps15
  go_wp2_with fail
  refine (has_yes _ _ _ _ hb hi HT.out).mono ?_
  rintro e w1 ⟨rfl, hb1⟩
  obtain ⟨hc1, hf1⟩ := bcell hb1
  have hs1 : w.heap.size < w1.drew.heap.size := by have := hb1.size; simp at this ⊢; omega
  have had2 : (ad.add (Sp.rank m i)).block < w1.drew.heap.size := by rw [block_of_add]; omega
  have hcx : w1.cell? (ad.add (Sp.rank m i)) = some (.int .i64 x) := by
    rw [hb1.cell (by rw [block_of_add]; simp; omega), World.cell?_alloc_lt _ _ _ (by rw [block_of_add]; exact had)]; exact hcell
  go_wp2_with fail
  go_region_held3 (fun w' => w'.cell? ⟨w.heap.size, 0, none⟩ = some (.int .u32 (Sp.bitsL m)) ∧ w'.cell? ⟨w.heap.size, 1, none⟩ = some (.slice (some ad) (Sp.vals m).length c) ∧
      w'.cell? (ad.add (Sp.rank m i)) = some (.int .i64 x))
    (first | go_keep | (go_split_ands; refine ⟨?_, ?_, ?_⟩ <;> (rw [hb2.cell (by assumption)]; assumption)))
    (first | (go_at_call 33; refine (rank_any _ _ _ _ HM.out hi).mono ?_; rintro e w2 ⟨rfl, hb2⟩))
  go_wp2
  go_ret2
  exact ⟨rfl, ((Below.refl _ _).alloc (Nat.le_refl _) _).trans ((hb1.mono (by simp)).trans (below_drewl (hb2.mono (by omega))))⟩

theorem get_no (b : Nat) (i : Int) (s : Value) (w : World) (hb : b < 4294967296) (hi : i < 0 ∨ 32 ≤ i ∨ b.testBit i.toNat = false) :
    Calls Tryd.prog 15 #[.agg #[.int .u32 b, s], .int .i64 i] w fun e w' => e = .returned (.tuple #[.int .i64 0, .bool false]) ∧ Below w.heap.size w w' := by
  have H := Lib.hid hi
  clear hi
  go_enter Tryd.func15, Tryd.ntmps15
  go_wp2_with fail
  refine (has_no _ _ _ _ hb H.out).mono ?_
  rintro e w1 ⟨rfl, hb1⟩
  go_wp2
  go_ret2
  exact ⟨rfl, ((Below.refl _ _).alloc (Nat.le_refl _) _).trans (hb1.mono (by simp))⟩
end Go.Proofs.YtbgmlcakdkkfdaaDoor
