/-
  THE WALK of the statements' helper live: the chapter's examples.
-/
import Derived.Test.YtbgmlcakdkkfdaaDoorSpI
namespace Go.Proofs.YtbgmlcakdkkfdaaDoor
open Go.RowKit Go.BigFrame

theorem row_zero (w : World) : RowIn w (fun _ => False) m0 (.agg #[.int .u32 0, .slice none 0 0]) :=
  ⟨m0_len, fun _ h => h.elim, none, 0, by rw [show Sp.bitsL m0 = 0 by decide, show (Sp.vals m0).length = 0 by decide]; rfl, by decide, by rw [show Sp.vals m0 = [] by decide]; exact Reads.none_⟩

def mL : List (Option Int) := Sp.setM (Sp.setM m0 3 7) 0 9
theorem mL_first : firstV mL = .tuple #[.int .i64 0, .int .i64 9, .bool true] := by rfl

def LiveInv (w w2 : World) (A : Option Addr) (c : Nat) (wr : World) : Prop :=
  Blk wr w.heap.size 26 #[.int .u32 0, .slice none 0 0] ∧ Blk wr w2.heap.size 26 #[.int .u32 (Sp.bitsL mL), .slice A (Sp.vals mL).length c] ∧ Below w.heap.size w wr ∧ Below w2.heap.size w2 wr
theorem LiveInv.facts {w w2 : World} {A : Option Addr} {c : Nat} {wr : World} (h : LiveInv w w2 A c wr) :
    wr.cell? ⟨w.heap.size, 0, none⟩ = some (.int .u32 0) ∧ wr.cell? ⟨w.heap.size, 1, none⟩ = some (.slice none 0 0) ∧
    wr.cell? ⟨w2.heap.size, 0, none⟩ = some (.int .u32 (Sp.bitsL mL)) ∧ wr.cell? ⟨w2.heap.size, 1, none⟩ = some (.slice A (Sp.vals mL).length c) :=
  ⟨h.1.cell 0, h.1.cell 1, h.2.1.cell 0, h.2.1.cell 1⟩
theorem LiveInv.step {w w2 : World} {A : Option Addr} {c : Nat} {wr wr' : World} (h : LiveInv w w2 A c wr) (hb : Below wr.heap.size wr wr') : LiveInv w w2 A c wr' :=
  ⟨h.1.below hb h.1.lt, h.2.1.below hb h.2.1.lt, h.2.2.1.trans (hb.mono h.2.2.1.size), h.2.2.2.trans (hb.mono h.2.2.2.size)⟩

set_option maxHeartbeats 1000000 in
theorem live_any (w : World) (hT : TabAt w) (hg : 0 < w.heap.size) :
    Calls Tryd.prog 9 #[] w fun e w' => e = .returned (.bool true) ∧ Below w.heap.size w w' := by
  have HT := Lib.hid hT
  clear hT
  go_enter Tryd.func9, Tryd.ntmps9
  go_wp2_with fail
  refine (set_any m0 3 7 _ _ _ (row_zero _)).mono ?_
  rintro e w1 ⟨v1, rfl, hv1, hb1⟩
  go_wp2_with fail
  refine (set_any _ 0 9 _ _ _ hv1).mono ?_
  rintro e w2 ⟨v2, rfl, hv2, hb2⟩
  change RowIn w2 _ mL v2 at hv2
  have HV2 := Lib.hid hv2
  obtain ⟨-, hS2, A, c, rfl, -, -⟩ := hv2
  have hBk2 : Blk w2 w.heap.size 26 #[.int .u32 0, .slice none 0 0] := Blk.below (Blk.below (Blk.new w _ _) hb1 (by simp)) hb2 (by have := hb1.size; simp at this; omega)
  have hB2 : Hid (Below w.heap.size w w2) := Lib.hid (((Below.refl _ _).alloc (Nat.le_refl _) _).trans ((hb1.mono (by simp)).trans (hb2.mono (by have := hb1.size; simp at this; omega))))
  have hs2 : w.heap.size < w2.heap.size := hBk2.lt
  have HS2 := Lib.hid hS2
  clear hb1 hb2 hv1 hS2
  go_wp2_with fail
  obtain ⟨w3, hw3⟩ : ∃ w3, w3 = w2.alloc (.cells #[.int .u32 (Sp.bitsL mL), .slice A (Sp.vals mL).length c] 26) := ⟨_, rfl⟩
  rw [← hw3]
  have hJ3 : Hid (LiveInv w w2 A c w3) := Lib.hid ⟨by rw [hw3]; exact hBk2.alloc _, by rw [hw3]; exact Blk.new w2 _ _, by rw [hw3]; exact hB2.out.alloc (by omega) _, by rw [hw3]; exact (Below.refl _ _).alloc (Nat.le_refl _) _⟩
  clear hw3 hBk2 hB2
  have f3 := hJ3.out.facts
  refine (get_any mL 3 _ _ _ (HV2.out.below hJ3.out.2.2.2)).mono ?_
  rintro e w4 ⟨rfl, hb4⟩
  have hJ4 := Lib.hid (hJ3.out.step hb4)
  clear hb4 f3
  have f4 := hJ4.out.facts
  have hm3 : Sp.getM mL 3 = some 7 := by decide
  rw [hm3]
  clear hm3
  go_wp2_with fail
  refine (first_any mL _ _ _ (HV2.out.below hJ4.out.2.2.2) (HT.out.below hJ4.out.2.2.1 hg) (Nat.lt_of_lt_of_le hg hJ4.out.2.2.1.size)).mono ?_
  rintro e w5 ⟨rfl, hb5⟩
  have hJ5 := Lib.hid (hJ4.out.step hb5)
  clear hb5 f4
  have f5 := hJ5.out.facts
  rw [mL_first]
  go_wp2_with fail
  refine (len_any _ _ _ _ _).mono ?_
  rintro e w6 ⟨rfl, hb6⟩
  have hJ6 := Lib.hid (hJ5.out.step hb6)
  clear hb6 f5
  have f6 := hJ6.out.facts
  rw [show (Sp.vals mL).length = 2 by decide]
  go_wp2_with fail
  refine (bits_any _ _ _).mono ?_
  rintro e w7 ⟨rfl, hb7⟩
  have hJ7 := Lib.hid (hJ6.out.step hb7)
  clear hb7 f6
  have f7 := hJ7.out.facts
  rw [show Sp.bitsL mL = 9 by decide]
  go_wp2_with fail
  refine (len_any _ _ _ _ _).mono ?_
  rintro e w8 ⟨rfl, hb8⟩
  have hJ8 := Lib.hid (hJ7.out.step hb8)
  clear hb8 f7
  have f8 := hJ8.out.facts
  go_wp2
  go_ret
  exact ⟨rfl, hJ8.out.2.2.1⟩
end Go.Proofs.YtbgmlcakdkkfdaaDoor
