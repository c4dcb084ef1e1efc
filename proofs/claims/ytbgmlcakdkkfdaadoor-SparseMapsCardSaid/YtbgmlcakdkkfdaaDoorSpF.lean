/-
  THE WALKS of the document's row: Set, Cut, First, Of.
-/
import Derived.Test.YtbgmlcakdkkfdaaDoorSpE
namespace Go.Proofs.YtbgmlcakdkkfdaaDoor
open Go.RowKit Go.BigFrame

def RefOut (w : World) (m : List (Option Int)) (e : Ending) (w' : World) : Prop := e = .returned (.agg (refL m).toArray) ∧ Below w.heap.size w w'
theorem refL_one (m : List (Option Int)) : (refL m).toArray.all (·.oneCell') = true := by
  simp [refL, Value.oneCell']

/-- The row that has nothing. -/
def m0 : List (Option Int) := List.replicate 32 none
theorem m0_len : m0.length = 32 := by simp [m0]
theorem ref_zero : (Tryd.prog.info? 33).bind (·.zero) = some (.agg (refL m0).toArray) := by kernel_rfl
theorem refL_set (m : List (Option Int)) (n : Nat) (o : Option Int) (hm : m.length = 32) (hi : n < 32) :
    ((refL m).set n (.bool o.isSome)).set (32 + n) (.int .i64 (o.getD 0)) = refL (m.set n o) := by
  unfold refL
  rw [List.set_append_left _ _ (by simp; omega), List.set_append_right _ _ (by simp; omega)]
  simp [hm, List.map_set]

theorem ref_size (m : List (Option Int)) (hm : m.length = 32) : (Tryd.prog.info? 33).map (·.size) = some (refL m).toArray.size := by
  rw [List.size_toArray, refL_len, hm]; kernel_rfl

/-- What two stores make of the row's block. -/
theorem ref_stored {w : World} {g t : Nat} {m : List (Option Int)} (hm : m.length = 32) (n : Nat) (hi : n < 32) (o : Option Int) (h : Blk w g t (refL m).toArray) :
    Blk ((w.setCell ⟨g, n, none⟩ (.bool o.isSome)).setCell ⟨g, 32 + n, none⟩ (.int .i64 (o.getD 0))) g t (refL (m.set n o)).toArray := by
  have h2 := (h.set_ n (.bool o.isSome)).set_ (32 + n) (.int .i64 (o.getD 0))
  have e := congrArg List.toArray (refL_set m n o hm hi)
  simpa [← e] using h2

set_option maxHeartbeats 400000 in
theorem refSet_yes (m : List (Option Int)) (n : Nat) (x : Int) (w : World) (hm : m.length = 32) (hi : n < 32) :
    Calls Tryd.prog 29 #[.agg (refL m).toArray, .int .i64 n, .int .i64 x] w (RefOut w (m.set n (some x))) := by
  have HM := Lib.hid hm
  clear hm
  have hlt' : (n : Int) < 32 := by omega
  go_enter Tryd.func29, Tryd.ntmps29
  go_wp2_with (refine wpList_alloc_blk rfl 33 rfl (.agg (refL m0).toArray) ref_zero ?_; intro w1 HZ1 hb1 HS1)
  refine (on_yes _ _ (by omega) (by omega)).mono ?_
  rintro e w1' ⟨rfl, rfl⟩
  have hBk1 : Blk w1' w.heap.size 33 (refL m).toArray := (Blk.new w _ _).below hb1 (by simp)
  have hB1 : Below w.heap.size w w1' := ((Below.refl _ _).alloc (Nat.le_refl _) _).trans (hb1.mono (by simp))
  have hc1 := (ref_cells HM.out hBk1).1 n hi
  have hc2 := (ref_cells HM.out hBk1).2 n hi
  have hf1 := hBk1.frozen n
  have hf2 := hBk1.frozen (32 + n)
  have HR1 : Hid (Blk ((w1'.setCell ⟨w.heap.size, n, none⟩ (.bool true)).setCell ⟨w.heap.size, 32 + n, none⟩ (.int .i64 x)) (w.heap.size + 1) 33 (refL m0).toArray) :=
    Lib.hid (Blk.far (Blk.far (by have h := HZ1.out; rw [World.size_alloc] at h; exact h) (by simp) _) (by simp) _)
  have hB2 : Below w.heap.size w ((w1'.setCell ⟨w.heap.size, n, none⟩ (.bool true)).setCell ⟨w.heap.size, 32 + n, none⟩ (.int .i64 x)) := (hB1.setCell (by simp) _).setCell (by simp) _
  clear HZ1 HS1 hb1
  go_wp2_with (first
    | (refine wpList_load_row rfl 33 (.tmp 3) rfl _ rfl _ _ _ _ (ref_stored HM.out n hi (some x) hBk1) Tryd.underlying33 rfl (ref_size _ (by rw [List.length_set]; exact HM.out)) ?_)
    | (refine wpList_store_row rfl 33 (.tmp 6) (.tmp 16) rfl _ rfl _ rfl _ _ HR1.out (ref_size _ (by rw [List.length_set]; exact HM.out)) (by simp [refL_len, HM.out, m0_len]) (refL_one _) ?_; intro w2 HR2 ho2 hB2'))
  exact bodyPost_ret (v := .agg (refL (m.set n (some x))).toArray) (results_cell_row rfl _ _ _ _ _ _ _ rfl HR2.out Tryd.underlying33 rfl (ref_size _ (by rw [List.length_set]; exact HM.out))) rfl ⟨rfl, hB2' _ _ hB2 (by omega)⟩
set_option maxHeartbeats 400000 in
theorem refCut_yes (m : List (Option Int)) (n : Nat) (w : World) (hm : m.length = 32) (hi : n < 32) :
    Calls Tryd.prog 31 #[.agg (refL m).toArray, .int .i64 n] w (RefOut w (m.set n none)) := by
  have HM := Lib.hid hm
  clear hm
  have hlt' : (n : Int) < 32 := by omega
  go_enter Tryd.func31, Tryd.ntmps31
  go_wp2_with (refine wpList_alloc_blk rfl 33 rfl (.agg (refL m0).toArray) ref_zero ?_; intro w1 HZ1 hb1 HS1)
  refine (on_yes _ _ (by omega) (by omega)).mono ?_
  rintro e w1' ⟨rfl, rfl⟩
  have hBk1 : Blk w1' w.heap.size 33 (refL m).toArray := (Blk.new w _ _).below hb1 (by simp)
  have hB1 : Below w.heap.size w w1' := ((Below.refl _ _).alloc (Nat.le_refl _) _).trans (hb1.mono (by simp))
  have hc1 := (ref_cells HM.out hBk1).1 n hi
  have hc2 := (ref_cells HM.out hBk1).2 n hi
  have hf1 := hBk1.frozen n
  have hf2 := hBk1.frozen (32 + n)
  have HR1 : Hid (Blk ((w1'.setCell ⟨w.heap.size, n, none⟩ (.bool false)).setCell ⟨w.heap.size, 32 + n, none⟩ (.int .i64 0)) (w.heap.size + 1) 33 (refL m0).toArray) :=
    Lib.hid (Blk.far (Blk.far (by have h := HZ1.out; rw [World.size_alloc] at h; exact h) (by simp) _) (by simp) _)
  have hB2 : Below w.heap.size w ((w1'.setCell ⟨w.heap.size, n, none⟩ (.bool false)).setCell ⟨w.heap.size, 32 + n, none⟩ (.int .i64 0)) := (hB1.setCell (by simp) _).setCell (by simp) _
  clear HZ1 HS1 hb1
  go_wp2_with (first
    | (refine wpList_load_row rfl 33 (.tmp 2) rfl _ rfl _ _ _ _ (ref_stored HM.out n hi none hBk1) Tryd.underlying33 rfl (ref_size _ (by rw [List.length_set]; exact HM.out)) ?_)
    | (refine wpList_store_row rfl 33 (.tmp 4) (.tmp 13) rfl _ rfl _ rfl _ _ HR1.out (ref_size _ (by rw [List.length_set]; exact HM.out)) (by simp [refL_len, HM.out, m0_len]) (refL_one _) ?_; intro w2 HR2 ho2 hB2'))
  exact bodyPost_ret (v := .agg (refL (m.set n none)).toArray) (results_cell_row rfl _ _ _ _ _ _ _ rfl HR2.out Tryd.underlying33 rfl (ref_size _ (by rw [List.length_set]; exact HM.out))) rfl ⟨rfl, hB2' _ _ hB2 (by omega)⟩

set_option maxHeartbeats 400000 in
theorem refSet_no (m : List (Option Int)) (i x : Int) (w : World) (hm : m.length = 32) (hi : i < 0 ∨ 32 ≤ i) :
    Calls Tryd.prog 29 #[.agg (refL m).toArray, .int .i64 i, .int .i64 x] w (RefOut w m) := by
  have HM := Lib.hid hm
  have HI := Lib.hid hi
  clear hm hi
  go_enter Tryd.func29, Tryd.ntmps29
  go_wp2_with (refine wpList_alloc_blk rfl 33 rfl (.agg (refL m0).toArray) ref_zero ?_; intro w1 HZ1 hb1 HS1)
  refine (on_no _ _ HI.out).mono ?_
  rintro e w1' ⟨rfl, rfl⟩
  have hBk1 := Lib.hid (show Blk w1' w.heap.size 33 (refL m).toArray from (Blk.new w _ _).below hb1 (by simp))
  have hB1 : Below w.heap.size w w1' := ((Below.refl _ _).alloc (Nat.le_refl _) _).trans (hb1.mono (by simp))
  have HR1 : Hid (Blk w1' (w.heap.size + 1) 33 (refL m0).toArray) := Lib.hid (by have h := HZ1.out; rw [World.size_alloc] at h; exact h)
  clear HZ1 HS1 hb1
  go_wp2_with (first
    | (refine wpList_load_row rfl 33 (.tmp 3) rfl _ rfl _ _ _ _ hBk1.out Tryd.underlying33 rfl (ref_size _ HM.out) ?_)
    | (refine wpList_store_row rfl 33 (.tmp 6) (.tmp 16) rfl _ rfl _ rfl _ _ HR1.out (ref_size _ HM.out) (by simp [refL_len, HM.out, m0_len]) (refL_one _) ?_; intro w2 HR2 ho2 hB2'))
  exact bodyPost_ret (v := .agg (refL m).toArray) (results_cell_row rfl _ _ _ _ _ _ _ rfl HR2.out Tryd.underlying33 rfl (ref_size _ HM.out)) rfl ⟨rfl, hB2' _ _ hB1 (by omega)⟩

set_option maxHeartbeats 400000 in
theorem refCut_no (m : List (Option Int)) (i : Int) (w : World) (hm : m.length = 32) (hi : i < 0 ∨ 32 ≤ i) :
    Calls Tryd.prog 31 #[.agg (refL m).toArray, .int .i64 i] w (RefOut w m) := by
  have HM := Lib.hid hm
  have HI := Lib.hid hi
  clear hm hi
  go_enter Tryd.func31, Tryd.ntmps31
  go_wp2_with (refine wpList_alloc_blk rfl 33 rfl (.agg (refL m0).toArray) ref_zero ?_; intro w1 HZ1 hb1 HS1)
  refine (on_no _ _ HI.out).mono ?_
  rintro e w1' ⟨rfl, rfl⟩
  have hBk1 := Lib.hid (show Blk w1' w.heap.size 33 (refL m).toArray from (Blk.new w _ _).below hb1 (by simp))
  have hB1 : Below w.heap.size w w1' := ((Below.refl _ _).alloc (Nat.le_refl _) _).trans (hb1.mono (by simp))
  have HR1 : Hid (Blk w1' (w.heap.size + 1) 33 (refL m0).toArray) := Lib.hid (by have h := HZ1.out; rw [World.size_alloc] at h; exact h)
  clear HZ1 HS1 hb1
  go_wp2_with (first
    | (refine wpList_load_row rfl 33 (.tmp 2) rfl _ rfl _ _ _ _ hBk1.out Tryd.underlying33 rfl (ref_size _ HM.out) ?_)
    | (refine wpList_store_row rfl 33 (.tmp 4) (.tmp 13) rfl _ rfl _ rfl _ _ HR1.out (ref_size _ HM.out) (by simp [refL_len, HM.out, m0_len]) (refL_one _) ?_; intro w2 HR2 ho2 hB2'))
  exact bodyPost_ret (v := .agg (refL m).toArray) (results_cell_row rfl _ _ _ _ _ _ _ rfl HR2.out Tryd.underlying33 rfl (ref_size _ HM.out)) rfl ⟨rfl, hB2' _ _ hB1 (by omega)⟩

theorem refSet_any (m : List (Option Int)) (i x : Int) (w : World) (hm : m.length = 32) :
    Calls Tryd.prog 29 #[.agg (refL m).toArray, .int .i64 i, .int .i64 x] w (RefOut w (Sp.setM m i x)) := by
  by_cases hi : 0 ≤ i ∧ i < 32
  · rw [Sp.setM, if_pos hi]
    obtain ⟨n, rfl⟩ := Int.eq_ofNat_of_zero_le hi.1
    rw [Int.toNat_natCast]
    exact refSet_yes m n x w hm (by omega)
  · rw [Sp.setM, if_neg hi]
    exact refSet_no m i x w hm (by omega)
theorem refCut_any (m : List (Option Int)) (i : Int) (w : World) (hm : m.length = 32) :
    Calls Tryd.prog 31 #[.agg (refL m).toArray, .int .i64 i] w (RefOut w (Sp.cutM m i)) := by
  by_cases hi : 0 ≤ i ∧ i < 32
  · rw [Sp.cutM, if_pos hi]
    obtain ⟨n, rfl⟩ := Int.eq_ofNat_of_zero_le hi.1
    rw [Int.toNat_natCast]
    exact refCut_yes m n w hm (by omega)
  · rw [Sp.cutM, if_neg hi]
    exact refCut_no m i w hm (by omega)

end Go.Proofs.YtbgmlcakdkkfdaaDoor
