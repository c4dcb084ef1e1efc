/-
  THE WALK of the statements' helper alike: whether two rows have the same.
-/
import Derived.Test.YtbgmlcakdkkfdaaDoorSpH
namespace Go.Proofs.YtbgmlcakdkkfdaaDoor
open Go.RowKit Go.BigFrame

def AlikeInv (w : World) (m m' : List (Option Int)) (A A' : Option Addr) (c c' : Nat) (wr : World) : Prop :=
  Blk wr w.heap.size 26 #[.int .u32 (Sp.bitsL m), .slice A (Sp.vals m).length c] ∧ Blk wr (w.heap.size + 1) 26 #[.int .u32 (Sp.bitsL m'), .slice A' (Sp.vals m').length c'] ∧ Below w.heap.size w wr
theorem AlikeInv.facts {w : World} {m m' : List (Option Int)} {A A' : Option Addr} {c c' : Nat} {wr : World} (h : AlikeInv w m m' A A' c c' wr) :
    wr.cell? ⟨w.heap.size, 0, none⟩ = some (.int .u32 (Sp.bitsL m)) ∧ wr.cell? ⟨w.heap.size, 1, none⟩ = some (.slice A (Sp.vals m).length c) ∧
    wr.cell? ⟨w.heap.size + 1, 0, none⟩ = some (.int .u32 (Sp.bitsL m')) ∧ wr.cell? ⟨w.heap.size + 1, 1, none⟩ = some (.slice A' (Sp.vals m').length c') :=
  ⟨h.1.cell 0, h.1.cell 1, h.2.1.cell 0, h.2.1.cell 1⟩
theorem AlikeInv.step {w : World} {m m' : List (Option Int)} {A A' : Option Addr} {c c' : Nat} {wr wr' : World} (h : AlikeInv w m m' A A' c c' wr) (hb : Below wr.heap.size wr wr') : AlikeInv w m m' A A' c c' wr' :=
  ⟨h.1.below hb h.1.lt, h.2.1.below hb h.2.1.lt, h.2.2.trans (hb.mono h.2.2.size)⟩
def SameBelow (m m' : List (Option Int)) (k : Nat) : Prop := ∀ j, j < k → Sp.at_ m j = Sp.at_ m' j

set_option maxHeartbeats 1000000 in
theorem alike_any (m m' : List (Option Int)) (v v' : Value) (w : World) (S S' : Nat → Prop) (hv : RowIn w S m v) (hv' : RowIn w S' m' v') :
    Calls Tryd.prog 17 #[v, v'] w fun e w' => e = .returned (.bool (decide (m = m'))) ∧ Below w.heap.size w w' := by
  have HV := Lib.hid hv
  have HV' := Lib.hid hv'
  obtain ⟨hm, -, A, c, rfl, -, -⟩ := hv
  obtain ⟨hm', -, A', c', rfl, -, -⟩ := hv'
  have HM := Lib.hid hm
  have HM' := Lib.hid hm'
  clear hm hm'
  have hI : Hid (AlikeInv w m m' A A' c c' ((w.alloc (.cells #[.int .u32 (Sp.bitsL m), .slice A (Sp.vals m).length c] 26)).alloc (.cells #[.int .u32 (Sp.bitsL m'), .slice A' (Sp.vals m').length c'] 26))) :=
    Lib.hid ⟨heap_alloc2_old _ _ _, heap_alloc2_new _ _ _, ((Below.refl _ _).alloc (Nat.le_refl _) _).alloc (by simp) _⟩
  go_enter Tryd.func17, Tryd.ntmps17
  go_wp2
  go_loopw [10] (fun i wr => ∃ k : Nat, k ≤ 32 ∧ i = .int .i64 k ∧ Hid (AlikeInv w m m' A A' c c' wr) ∧ SameBelow m m' k) (fun i _ => (32 - intOf i).toNat)
  case atStart => exact ⟨0, by omega, rfl, hI, fun j hj => by omega⟩
  case round =>
    obtain ⟨k, hk, rfl, hJ, hsb⟩ := hrel
    by_cases hlt : k < 32
    · have hk1 : (k : Int) < 32 := by omega
      have f1 := hJ.out.facts
      have hg1 : Hid (Sp.getM m (k : Int) = Sp.at_ m k) := Lib.hid (by rw [Sp.getM, if_pos ⟨by omega, hk1⟩, Int.toNat_natCast])
      have hg2 : Hid (Sp.getM m' (k : Int) = Sp.at_ m' k) := Lib.hid (by rw [Sp.getM, if_pos ⟨by omega, hk1⟩, Int.toNat_natCast])
      have HSB := Lib.hid hsb
      clear hsb
      go_wp2_with fail
      refine (get_any m _ _ _ S (HV.out.below hJ.out.2.2)).mono ?_
      rintro e w2 ⟨rfl, hb2⟩
      have hJ2 := Lib.hid (hJ.out.step hb2)
      clear f1 hb2
      have f2 := hJ2.out.facts
      rw [hg1.out]
      go_wp2_with fail
      refine (get_any m' _ _ _ S' (HV'.out.below hJ2.out.2.2)).mono ?_
      rintro e w3 ⟨rfl, hb3⟩
      have hJ3 := Lib.hid (hJ2.out.step hb3)
      clear f2 hb3
      rw [hg2.out]
      by_cases heq : Sp.at_ m k = Sp.at_ m' k
      · have HSB2 : Hid (SameBelow m m' (k + 1)) := Lib.hid fun j hj => by
          rcases Nat.lt_or_ge j k with h | h
          · exact HSB.out j h
          · rw [show j = k by omega]; exact heq
        rw [heq]
        clear heq
        generalize (Sp.at_ m' k).getD 0 = gx
        generalize (Sp.at_ m' k).isSome = gb
        have hne1 : (gx != gx) = false := by simp
        have hne2 : (gb != gb) = false := by simp
        go_wp2
        go_roundw
        case rel => exact ⟨k + 1, by omega, by go_num, hJ3, HSB2.out⟩
        case measure => simp [intOf]; omega
      · have HNE : Hid (decide (m = m') = false) := Lib.hid (by
          apply decide_eq_false
          intro h; subst h; exact heq rfl)
        by_cases hx : (Sp.at_ m k).getD 0 = (Sp.at_ m' k).getD 0
        · have hb : ((Sp.at_ m k).isSome == (Sp.at_ m' k).isSome) = false := by
            revert heq hx
            cases Sp.at_ m k <;> cases Sp.at_ m' k <;> simp
          rw [hx]
          clear hx heq
          generalize (Sp.at_ m' k).getD 0 = gx
          generalize (Sp.at_ m' k).isSome = gb at *
          generalize (Sp.at_ m k).isSome = gc at *
          have hne1 : (gx != gx) = false := by simp
          go_wp2
          go_ret
          exact ⟨by rw [HNE.out]; rfl, hJ3.out.2.2⟩
        · have hb : ((Sp.at_ m k).getD 0 != (Sp.at_ m' k).getD 0) = true := by simp [hx]
          clear hx heq
          generalize (Sp.at_ m' k).getD 0 = gx at *
          generalize (Sp.at_ m k).getD 0 = gy at *
          go_wp2
          go_ret
          exact ⟨by rw [HNE.out]; rfl, hJ3.out.2.2⟩
    · have hk32 : k = 32 := by omega
      subst hk32
      have hmm : m = m' := Sp.ext_at m m' (by rw [HM.out, HM'.out]) fun j => by
        rcases Nat.lt_or_ge j 32 with h | h
        · exact hsb j h
        · rw [Sp.at_none m j (by rw [HM.out]; exact h), Sp.at_none m' j (by rw [HM'.out]; exact h)]
      subst hmm
      clear hsb
      have f1 := hJ.out.facts
      have h1 : ((Sp.bitsL m : Int) == (Sp.bitsL m : Int)) = true := by simp
      have hz0 : w.heap.size + 1 < wr.drew.heap.size := hJ.out.2.1.lt
      have hz2 : w.heap.size + 1 < wr.heap.size := hJ.out.2.1.lt
      go_wp2_with fail
      go_region_held3 (fun w' => w'.cell? ⟨w.heap.size, 0, none⟩ = some (.int .u32 (Sp.bitsL m)) ∧ w'.cell? ⟨w.heap.size, 1, none⟩ = some (.slice A (Sp.vals m).length c) ∧ w'.cell? ⟨w.heap.size + 1, 0, none⟩ = some (.int .u32 (Sp.bitsL m)) ∧ w'.cell? ⟨w.heap.size + 1, 1, none⟩ = some (.slice A' (Sp.vals m).length c') ∧ Below w.heap.size w w' ∧ w.heap.size + 1 < w'.heap.size)
        (first | (exact ⟨f1.1, f1.2.1, f1.2.2.1, f1.2.2.2, hJ.out.2.2.drew, hJ.out.2.1.lt⟩) | (go_split_ands; refine ⟨?_, ?_, ?_, ?_, ?_, ?_⟩ <;> first | (rw [hb1.cell (by (try simp) <;> omega)]; assumption) | (exact Below.trans (by assumption) (hb1.mono (by (try simp) <;> omega))) | (have := hb1.size; omega)))
        (first | (go_at_call 23; refine (bits_any _ _ _).mono ?_; rintro e w1 ⟨rfl, hb1⟩))
      go_split_ands
      have hBw : Hid (Below w.heap.size w w1) := Lib.hid (by assumption)
      go_wp2
      go_ret
      exact ⟨by simp, hBw.out⟩
end Go.Proofs.YtbgmlcakdkkfdaaDoor
