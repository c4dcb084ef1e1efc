/-
  THE WALK of the document's Of.
-/
import Derived.Test.YtbgmlcakdkkfdaaDoorSpJ
import Derived.StillTailTactics
namespace Go.Proofs.YtbgmlcakdkkfdaaDoor
open Go.RowKit Go.BigFrame
attribute [local go_sem ↓] exec_load_ref
attribute [local go_sem] isHead_ptr blockOf_ptr drew_heap drewN_heap

theorem cnt_le : ∀ (j b : Nat), Sp.cnt b j ≤ j
  | 0, _ => Nat.le_refl _
  | j + 1, b => by have := cnt_le j (b / 2); simp only [Sp.cnt]; omega

/-- What the loop holds: the zero row, the row so far, old memory. -/
def OfInv (w : World) (g b : Nat) (l : List Int) (k : Nat) (wr : World) : Prop :=
  Blk wr w.heap.size 33 (refL m0).toArray ∧ Blk wr g 33 (refL (Sp.upTo b l k)).toArray ∧ Below w.heap.size w wr ∧ w.heap.size < g
theorem OfInv.step {w : World} {g b : Nat} {l : List Int} {k : Nat} {wr wr' : World} (h : OfInv w g b l k wr) (hb : Below wr.heap.size wr wr') : OfInv w g b l k wr' :=
  ⟨h.1.below hb h.1.lt, h.2.1.below hb h.2.1.lt, h.2.2.1.trans (hb.mono h.2.2.1.size), h.2.2.2⟩
theorem OfInv.same {w : World} {g b : Nat} {l : List Int} {k k' : Nat} {wr : World} (h : OfInv w g b l k wr) (he : Sp.upTo b l k' = Sp.upTo b l k) : OfInv w g b l k' wr := by
  unfold OfInv at h ⊢; rw [he]; exact h
theorem OfInv.facts {w : World} {g b : Nat} {l : List Int} {k : Nat} {wr : World} (h : OfInv w g b l k wr) : bcells wr.heap g = (refL (Sp.upTo b l k)).toArray ∧ Whole 64 wr.heap g :=
  ⟨bcells_of h.2.1, whole_of h.2.1 64 (by simp [refL_len, Sp.upTo_len])⟩
theorem ref_built : Tryd.prog.built 33 [] = some (refL m0).toArray := by kernel_rfl
theorem exec_build_ref {w : World} {ρ : Operand → Value} {dst : Option Tmp} {ty : TypeId} {pos : String} {after : Array Edge} {guard : Option (Nat × Bool)} :
    (execOp ρ ⟨dst, .build 33 #[], ty, pos, after, guard⟩).run Tryd.prog w = .ok (.value (.agg (refL m0).toArray)) w := by
  unfold execOp
  simp only [List.map_toArray, List.map_nil, Sem.run_bind, run_build w 33 #[] _ ref_built, Sem.run_pure, Result.andThen_ok]
attribute [local go_sem ↓] exec_build_ref
theorem bit_rem (b k : Nat) (r : Nat) (h : b / 2 ^ k % 2 = r) : ((b : Int) / 2 ^ k).tmod 2 = (r : Int) := by
  have e : ((b : Int) / 2 ^ k) = ((b / 2 ^ k : Nat) : Int) := by simp
  rw [e, ← h]; rfl

/-- What Of answers. -/
def OfAns (w : World) (N n : Nat) (U : List (Option Int)) (e : Ending) (w' : World) : Prop :=
  e = .returned (.tuple #[.agg (refL (if N = n then U else m0)).toArray, .bool (decide (N = n))]) ∧ Below w.heap.size w w'
theorem OfAns.yes {w w' : World} {N n : Nat} {U : List (Option Int)} (h : N = n) (hb : Below w.heap.size w w') : OfAns w N n U (.returned (.tuple #[.agg (refL U).toArray, .bool true])) w' := by
  unfold OfAns; rw [if_pos h, decide_eq_true h]; exact ⟨rfl, hb⟩
theorem OfAns.no {w w' : World} {N n : Nat} {U : List (Option Int)} (h : ¬ N = n) (hb : Below w.heap.size w w') : OfAns w N n U (.returned (.tuple #[.agg (refL m0).toArray, .bool false])) w' := by
  unfold OfAns; rw [if_neg h, decide_eq_false h]; exact ⟨rfl, hb⟩

set_option maxHeartbeats 1000000 in
theorem refOf_core (b c N : Nat) (l : List Int) (U : List (Option Int)) (hN : Hid (N = Sp.cnt b 32)) (hU : Hid (U = Sp.upTo b l 32)) (A : Option Addr) (w : World) (S : Nat → Prop) (hS : ∀ k, S k → k < w.heap.size) (hr : Reads w S 1 A l.length (l.map (Value.int .i64))) (hn : l.length ≤ 1000) :
    Calls Tryd.prog 11 #[.int .u32 b, .slice A l.length c] w (OfAns w N l.length U) := by
  have HSS := Lib.hid hS
  have HR := Lib.hid hr
  clear hS hr
  go_enter Tryd.func11, Tryd.ntmps11
  go_wp2_with (first
    | (refine wpList_alloc_blk rfl 33 rfl (.agg (refL m0).toArray) ref_zero ?_; intro w1 HZ1 hb1 HS1))
  rename_i w0 HZ0 hb0 HS0 _ _
  obtain ⟨g, hg⟩ : ∃ g, g = w0.heap.size := ⟨_, rfl⟩
  rw [← hg] at HZ1 ⊢
  have hI : Hid (OfInv w g b l 0 w1) := Lib.hid ⟨Blk.below HZ0.out hb1 (by have := HS0.out; omega), by rw [Sp.upTo_zero]; exact HZ1.out, hb0.trans (hb1.mono (by have := HS0.out; omega)), by have := HS0.out; omega⟩
  clear HZ0 hb0 HS0 HZ1 hb1 HS1 hg
  go_loopw [7, 9] (fun n i wr => ∃ k : Nat, k ≤ 32 ∧ i = .int .i64 k ∧ n = .int .i64 (Sp.cnt b k) ∧ Hid (OfInv w g b l k wr)) (fun _ i _ => (32 - intOf i).toNat)
  case atStart => exact ⟨0, by omega, rfl, rfl, hI⟩
  case round =>
    obtain ⟨k, hk, rfl, rfl, hJ⟩ := hrel
    by_cases hlt : k < 32
    · have hk1 : (k : Int) < 32 := by omega
      have hc := cnt_le k b
      have HCS := Lib.hid (Sp.cnt_succ k b)
      by_cases hbit : b / 2 ^ k % 2 = 1
      · have HB := Lib.hid hbit
        have HT : Hid (Sp.tgt b l k = l[Sp.cnt b k]?) := Lib.hid (by rw [Sp.tgt, if_pos (by rw [Nat.testBit_eq_decide_div_mod_eq, hbit]; rfl)])
        have hrem : ((b : Int) / 2 ^ k).tmod 2 = 1 := bit_rem b k 1 hbit
        rw [hbit] at HCS
        clear hbit
        by_cases hkl : Sp.cnt b k < l.length
        · obtain ⟨ad, u, rfl, hads, hu, hcell⟩ := (HR.out.below hJ.out.2.2.1 HSS.out).at_ hkl
          obtain ⟨x, hx⟩ : ∃ x, l[Sp.cnt b k]? = some x := ⟨l[Sp.cnt b k], List.getElem?_eq_getElem hkl⟩
          rw [List.getElem?_map, hx] at hu
          obtain rfl : Value.int .i64 x = u := by simpa using hu
          have HTX : Hid (Sp.tgt b l k = some x) := Lib.hid (by rw [HT.out, hx])
          clear hu hx hads
          have hkl' : ((Sp.cnt b k : Nat) : Int) < (l.length : Int) := by omega
          have f := hJ.out.facts
          go_wp2_with fail
          go_still_tail 6, (by kernel_rfl)
          change wpList _ _ _ _ _ wr.drew
          obtain ⟨w2, hw2⟩ : ∃ w2, w2 = wr.drew := ⟨_, rfl⟩
          rw [← hw2]
          have hJ2 : Hid (OfInv w g b l k w2) := by rw [hw2]; exact Lib.hid (hJ.out.step ((Below.refl _ _).drew))
          clear hw2 f hcell
          go_wp2_with fail
          refine (refSet_any _ _ _ _ (Sp.upTo_len _ _ _)).mono ?_
          rintro e w3 ⟨rfl, hb3⟩
          have hJ3 := Lib.hid (hJ2.out.step hb3)
          clear hb3 hJ2
          have HUP : Hid (Sp.setM (Sp.upTo b l k) (k : Int) x = Sp.upTo b l (k + 1)) := Lib.hid (by rw [Sp.setM, if_pos ⟨by omega, hk1⟩, Int.toNat_natCast, Sp.upTo_succ_some b l k x hlt HTX.out])
          rw [HUP.out]
          go_wp2_with (refine wpList_store_row rfl 33 (.tmp 6) (.tmp 28) rfl _ rfl _ rfl _ _ hJ3.out.2.1 (ref_size _ (Sp.upTo_len _ _ _)) (by simp [refL_len, Sp.upTo_len]) (refL_one _) ?_; intro w4 HR4 ho4 hB4)
          have hJ4 : Hid (OfInv w g b l (k + 1) w4) := Lib.hid ⟨(ho4 _ (by have := hJ3.out.2.2.2; omega)).trans hJ3.out.1, HR4.out, hB4 _ _ hJ3.out.2.2.1 (by have := hJ3.out.2.2.2; omega), hJ3.out.2.2.2⟩
          go_roundw
          case rel => exact ⟨k + 1, by omega, by go_num, by rw [HCS.out]; go_num, hJ4⟩
          case measure => simp [intOf]; omega
        · have HSM : Hid (Sp.upTo b l (k + 1) = Sp.upTo b l k) := Lib.hid (Sp.upTo_succ_none b l k (by rw [HT.out]; exact List.getElem?_eq_none (by omega)))
          go_wp2
          go_roundw
          case rel => exact ⟨k + 1, by omega, by go_num, by rw [HCS.out]; go_num, Lib.hid (hJ.out.same HSM.out)⟩
          case measure => simp [intOf]; omega
      · have hb0 : b / 2 ^ k % 2 = 0 := by omega
        have HSM : Hid (Sp.upTo b l (k + 1) = Sp.upTo b l k) := Lib.hid (Sp.upTo_succ_none b l k (by rw [Sp.tgt, if_neg (by rw [Nat.testBit_eq_decide_div_mod_eq, hb0]; decide)]))
        have hrem : ((b : Int) / 2 ^ k).tmod 2 = 0 := bit_rem b k 0 hb0
        rw [hb0] at HCS
        clear hbit hb0
        go_wp2
        go_roundw
        case rel => exact ⟨k + 1, by omega, by go_num, by rw [HCS.out]; go_num, Lib.hid (hJ.out.same HSM.out)⟩
        case measure => simp [intOf]; omega
    · have hk32 : k = 32 := by omega
      subst hk32
      have hZ := Lib.hid hJ.out.1
      have hBw := Lib.hid hJ.out.2.2.1
      have hU1 : Hid (U.length = 32) := Lib.hid (by rw [hU.out, Sp.upTo_len])
      have f : bcells wr.heap g = (refL U).toArray ∧ Whole 64 wr.heap g := by rw [hU.out]; exact hJ.out.facts
      clear hJ hI
      rw [← hN.out]
      by_cases hl : N = l.length
      · have hne : ((N : Int) != (l.length : Int)) = false := by simp; omega
        have HL := Lib.hid hl
        clear hl
        go_wp2_with (first
          | (refine wpList_store_row rfl 33 (.tmp 4) (.tmp 37) rfl _ rfl _ rfl _ _ hZ.out (ref_size _ hU1.out) (by simp [refL_len, hU1.out, m0_len]) (refL_one _) ?_; intro w4 HR4 ho4 hB4))
        exact bodyPost_ret (v := .tuple #[.agg (refL U).toArray, .bool true]) (results_cell_row_tmp (fn := Tryd.f11) (p := 4) (u := 5) rfl _ _ _ _ _ _ rfl HR4.out Tryd.underlying33 rfl (ref_size _ hU1.out)) rfl (OfAns.yes HL.out (hB4 _ _ hBw.out (by omega)))
      · have hne : ((N : Int) != (l.length : Int)) = true := by simp; omega
        have HL := Lib.hid hl
        clear hl
        go_wp2_with (first
          | (refine wpList_store_row rfl 33 (.tmp 4) (.tmp 36) rfl _ rfl _ rfl _ _ hZ.out (ref_size _ m0_len) rfl (refL_one _) ?_; intro w4 HR4 ho4 hB4))
        exact bodyPost_ret (v := .tuple #[.agg (refL m0).toArray, .bool false]) (results_cell_row_tmp (fn := Tryd.f11) (p := 4) (u := 5) rfl _ _ _ _ _ _ rfl HR4.out Tryd.underlying33 rfl (ref_size _ m0_len)) rfl (OfAns.no HL.out (hB4 _ _ hBw.out (by omega)))
theorem refOf_any (b c : Nat) (l : List Int) (A : Option Addr) (w : World) (S : Nat → Prop) (hS : ∀ k, S k → k < w.heap.size) (hr : Reads w S 1 A l.length (l.map (Value.int .i64))) (hn : l.length ≤ 1000) :
    Calls Tryd.prog 11 #[.int .u32 b, .slice A l.length c] w fun e w' =>
      e = .returned (.tuple #[.agg (refL (if Sp.cnt b 32 = l.length then Sp.ofBits 32 b l else m0)).toArray, .bool (decide (Sp.cnt b 32 = l.length))]) ∧ Below w.heap.size w w' := by
  rw [← Sp.upTo_all]
  exact refOf_core b c _ l _ (Lib.hid rfl) (Lib.hid rfl) A w S hS hr hn
end Go.Proofs.YtbgmlcakdkkfdaaDoor
