/-
  THE WALKS of the document's First and Of, and of the statements' own helpers.
-/
import Derived.Test.YtbgmlcakdkkfdaaDoorSpD
import Derived.Test.YtbgmlcakdkkfdaaDoorSpF
namespace Go.Proofs.YtbgmlcakdkkfdaaDoor
open Go.RowKit Go.BigFrame

/-- What First answers. -/
def firstV (m : List (Option Int)) : Value :=
  match Sp.firstM m with
  | some (i, x) => .tuple #[.int .i64 i, .int .i64 x, .bool true]
  | none => .tuple #[.int .i64 0, .int .i64 0, .bool false]
def NoneBelow (m : List (Option Int)) (k : Nat) : Prop := ∀ j, j < k → Sp.at_ m j = none
theorem firstV_some {m : List (Option Int)} {k : Nat} {y : Int} (h : NoneBelow m k) (hy : Sp.at_ m k = some y) : firstV m = .tuple #[.int .i64 k, .int .i64 y, .bool true] := by
  rw [firstV, Sp.firstM_of m k y h hy]
theorem firstV_none {m : List (Option Int)} (hm : m.length = 32) (h : NoneBelow m 32) : firstV m = .tuple #[.int .i64 0, .int .i64 0, .bool false] := by
  rw [firstV, Sp.firstM_of_none m (by rw [hm]; exact h)]

theorem first_any (m : List (Option Int)) (v : Value) (w : World) (S : Nat → Prop) (hv : RowIn w S m v) (hT : TabAt w) (hg : 0 < w.heap.size) :
    Calls Tryd.prog 26 #[v] w fun e w' => e = .returned (firstV m) ∧ Below w.heap.size w w' := by
  unfold firstV
  cases h : Sp.firstM m with
  | none => exact first_no m v w S hv h
  | some p => exact first_yes m p.1 p.2 v w S hv h hT hg

set_option maxHeartbeats 400000 in
theorem refFirst_any (m : List (Option Int)) (w : World) (hm : m.length = 32) :
    Calls Tryd.prog 30 #[.agg (refL m).toArray] w fun e w' => e = .returned (firstV m) ∧ Below w.heap.size w w' := by
  have HM := Lib.hid hm
  have hcells := ref_cells hm (Blk.new w 33 (refL m).toArray)
  clear hm
  go_enter Tryd.func30, Tryd.ntmps30
  go_wp2
  go_loop [6] (fun i => ∃ k : Nat, k ≤ 32 ∧ i = .int .i64 k ∧ NoneBelow m k) (fun i => 32 - (intOf i).toNat)
  case atStart => exact ⟨0, by omega, rfl, fun j hj => by omega⟩
  case round =>
    obtain ⟨k, hk, rfl, hn⟩ := hrel
    by_cases hlt : k < 32
    · have hc := hcells.1 k hlt
      have hc2 := hcells.2 k hlt
      have hk0 : (0 : Int) ≤ (k : Int) := by omega
      have hk1 : (k : Int) < 32 := by omega
      cases hx : Sp.at_ m k with
      | none =>
        rw [hx] at hc hc2
        have HN := Lib.hid (show NoneBelow m (k + 1) from fun j hj => by
          rcases Nat.lt_or_ge j k with h | h
          · exact hn j h
          · rw [show j = k by omega]; exact hx)
        clear hx hcells hn
        go_wp2
        go_round
        case rel => exact ⟨k + 1, by omega, by go_num, HN.out⟩
        case measure => simp [intOf]; omega
      | some y =>
        rw [hx] at hc hc2
        have HV := Lib.hid (firstV_some hn hx)
        clear hx hcells hn
        go_wp2
        go_quiet (fail)
        go_wp2
        go_ret3
        exact ⟨by rw [HV.out]; rfl, below_drewN ((Below.refl _ _).alloc (Nat.le_refl _) _) _⟩
    · have hk32 : k = 32 := by omega
      subst hk32
      have HV := Lib.hid (firstV_none HM.out hn)
      clear hcells hn
      go_wp2
      go_ret3
      exact ⟨by rw [HV.out]; rfl, (Below.refl _ _).alloc (Nat.le_refl _) _⟩
/-- What is done to a row. -/
structure SOp where
  I : Int
  X : Int
  Cut : Bool
def SOp.cells (o : SOp) : List Value := [.int .i64 o.I, .int .i64 o.X, .bool o.Cut]
def doM (m : List (Option Int)) (o : SOp) : List (Option Int) := if o.Cut then Sp.cutM m o.I else Sp.setM m o.I o.X
theorem setM_len {m : List (Option Int)} {i x : Int} (h : m.length = 32) : (Sp.setM m i x).length = 32 := by unfold Sp.setM; split <;> simp [h]
theorem cutM_len {m : List (Option Int)} {i : Int} (h : m.length = 32) : (Sp.cutM m i).length = 32 := by unfold Sp.cutM; split <;> simp [h]
theorem doM_len {m : List (Option Int)} {o : SOp} (h : m.length = 32) : (doM m o).length = 32 := by
  unfold doM
  split
  · exact cutM_len h
  · exact setM_len h
theorem doM_cut {m : List (Option Int)} {I X : Int} : doM m ⟨I, X, true⟩ = Sp.cutM m I := rfl
theorem doM_set {m : List (Option Int)} {I X : Int} : doM m ⟨I, X, false⟩ = Sp.setM m I X := rfl

theorem Sx_of {S : Nat → Prop} {w w' u u' : World} (h1 : w.heap.size ≤ u.heap.size) (h2 : u'.heap.size ≤ w'.heap.size) (k : Nat) (h : Sx S u u' k) : Sx S w w' k := by
  rcases h with h | ⟨h3, h4⟩
  · exact .inl h
  · exact .inr ⟨by omega, by omega⟩
theorem Sx_lt {S : Nat → Prop} {w w' : World} (hS : ∀ k, S k → k < w.heap.size) (h : w.heap.size ≤ w'.heap.size) (k : Nat) (hk : Sx S w w' k) : k < w'.heap.size := by
  rcases hk with h1 | ⟨_, h2⟩
  · have := hS k h1; omega
  · exact h2
set_option maxHeartbeats 400000 in
theorem does_cut (m : List (Option Int)) (v : Value) (I X : Int) (w : World) (S : Nat → Prop) (hv : RowIn w S m v) :
    Calls Tryd.prog 13 #[v, .agg #[.int .i64 I, .int .i64 X, .bool true]] w (RowOut w S (Sp.cutM m I)) := by
  have HV := Lib.hid hv
  obtain ⟨hm, hS, A, c, rfl, hc, hr⟩ := hv
  have HSS := Lib.hid hS
  clear hm hc hr hS
  have hB0 : Below w.heap.size w (((w.alloc (.cells #[.int .u32 (Sp.bitsL m), .slice A (Sp.vals m).length c] 26)).alloc (.cells #[.int .i64 I, .int .i64 X, .bool true] 42)).alloc (.cells #[.int .u32 0, .slice none 0 0] 26)) :=
    (((Below.refl _ _).alloc (Nat.le_refl _) _).alloc (by simp) _).alloc (by simp <;> omega) _
  go_enter Tryd.func13, Tryd.ntmps13
  go_wp2_with fail
  refine (cut_any m _ _ _ S (HV.out.below hB0)).mono ?_
  rintro e w1 ⟨v1, rfl, hv1, hb1⟩
  have HV1 := Lib.hid hv1
  obtain ⟨hm1, hS1, A1, c1, rfl, hc1, hr1⟩ := hv1
  clear hm1 hc1 hr1 hS1
  have hRk1 : Blk w1 (w.heap.size + 2) 26 #[.int .u32 0, .slice none 0 0] := Blk.below (by simpa using (Blk.new ((w.alloc (.cells #[.int .u32 (Sp.bitsL m), .slice A (Sp.vals m).length c] 26)).alloc (.cells #[.int .i64 I, .int .i64 X, .bool true] 42)) 26 #[.int .u32 0, .slice none 0 0])) hb1 (by simp)
  have hB1 : Below w.heap.size w w1 := hB0.trans (hb1.mono (by simp <;> omega))
  have hs1 := hb1.size
  simp at hs1
  clear hb1 hB0
  have r1 := hRk1.two
  go_wp2
  have hRk7 := (hRk1.set_ 0 (.int .u32 (Sp.bitsL (Sp.cutM m I)))).set_ 1 (.slice A1 (Sp.vals (Sp.cutM m I)).length c1)
  have hB7 := (hB1.setCell (p := ⟨w.heap.size + 2, 0, none⟩) (by simp) (.int .u32 (Sp.bitsL (Sp.cutM m I)))).setCell (p := ⟨w.heap.size + 2, 1, none⟩) (by simp) (.slice A1 (Sp.vals (Sp.cutM m I)).length c1)
  refine bodyPost_ret (v := .agg #[.int .u32 (Sp.bitsL (Sp.cutM m I)), .slice A1 (Sp.vals (Sp.cutM m I)).length c1]) (results_cell_row rfl _ _ _ _ _ _ _ rfl hRk7 Tryd.underlying26 rfl (by kernel_rfl)) rfl ⟨_, rfl, ?_, hB7⟩
  have far : ¬ Sx S (((w.alloc (.cells #[.int .u32 (Sp.bitsL m), .slice A (Sp.vals m).length c] 26)).alloc (.cells #[.int .i64 I, .int .i64 X, .bool true] 42)).alloc (.cells #[.int .u32 0, .slice none 0 0] 26)) w1 (w.heap.size + 2) := by
    rintro (h | ⟨h, _⟩)
    · have := HSS.out _ h; omega
    · simp at h; omega
  exact ((HV1.out.setCell (p := ⟨w.heap.size + 2, 0, none⟩) far _).setCell (p := ⟨w.heap.size + 2, 1, none⟩) far _).more (Sx_of (by simp <;> omega) (by simp [World.setCell])) (Sx_lt HSS.out hB7.size)

set_option maxHeartbeats 400000 in
theorem does_set (m : List (Option Int)) (v : Value) (I X : Int) (w : World) (S : Nat → Prop) (hv : RowIn w S m v) :
    Calls Tryd.prog 13 #[v, .agg #[.int .i64 I, .int .i64 X, .bool false]] w (RowOut w S (Sp.setM m I X)) := by
  have HV := Lib.hid hv
  obtain ⟨hm, hS, A, c, rfl, hc, hr⟩ := hv
  have HSS := Lib.hid hS
  clear hm hc hr hS
  have hB0 : Below w.heap.size w (((w.alloc (.cells #[.int .u32 (Sp.bitsL m), .slice A (Sp.vals m).length c] 26)).alloc (.cells #[.int .i64 I, .int .i64 X, .bool false] 42)).alloc (.cells #[.int .u32 0, .slice none 0 0] 26)) :=
    (((Below.refl _ _).alloc (Nat.le_refl _) _).alloc (by simp) _).alloc (by simp <;> omega) _
  go_enter Tryd.func13, Tryd.ntmps13
  go_wp2_with fail
  refine (set_any m _ _ _ _ S (HV.out.below hB0)).mono ?_
  rintro e w1 ⟨v1, rfl, hv1, hb1⟩
  have HV1 := Lib.hid hv1
  obtain ⟨hm1, hS1, A1, c1, rfl, hc1, hr1⟩ := hv1
  clear hm1 hc1 hr1 hS1
  have hRk1 : Blk w1 (w.heap.size + 2) 26 #[.int .u32 0, .slice none 0 0] := Blk.below (by simpa using (Blk.new ((w.alloc (.cells #[.int .u32 (Sp.bitsL m), .slice A (Sp.vals m).length c] 26)).alloc (.cells #[.int .i64 I, .int .i64 X, .bool false] 42)) 26 #[.int .u32 0, .slice none 0 0])) hb1 (by simp)
  have hB1 : Below w.heap.size w w1 := hB0.trans (hb1.mono (by simp <;> omega))
  have hs1 := hb1.size
  simp at hs1
  clear hb1 hB0
  have r1 := hRk1.two
  go_wp2
  have hRk7 := (hRk1.set_ 0 (.int .u32 (Sp.bitsL (Sp.setM m I X)))).set_ 1 (.slice A1 (Sp.vals (Sp.setM m I X)).length c1)
  have hB7 := (hB1.setCell (p := ⟨w.heap.size + 2, 0, none⟩) (by simp) (.int .u32 (Sp.bitsL (Sp.setM m I X)))).setCell (p := ⟨w.heap.size + 2, 1, none⟩) (by simp) (.slice A1 (Sp.vals (Sp.setM m I X)).length c1)
  refine bodyPost_ret (v := .agg #[.int .u32 (Sp.bitsL (Sp.setM m I X)), .slice A1 (Sp.vals (Sp.setM m I X)).length c1]) (results_cell_row rfl _ _ _ _ _ _ _ rfl hRk7 Tryd.underlying26 rfl (by kernel_rfl)) rfl ⟨_, rfl, ?_, hB7⟩
  have far : ¬ Sx S (((w.alloc (.cells #[.int .u32 (Sp.bitsL m), .slice A (Sp.vals m).length c] 26)).alloc (.cells #[.int .i64 I, .int .i64 X, .bool false] 42)).alloc (.cells #[.int .u32 0, .slice none 0 0] 26)) w1 (w.heap.size + 2) := by
    rintro (h | ⟨h, _⟩)
    · have := HSS.out _ h; omega
    · simp at h; omega
  exact ((HV1.out.setCell (p := ⟨w.heap.size + 2, 0, none⟩) far _).setCell (p := ⟨w.heap.size + 2, 1, none⟩) far _).more (Sx_of (by simp <;> omega) (by simp [World.setCell])) (Sx_lt HSS.out hB7.size)

theorem does_any (m : List (Option Int)) (v : Value) (o : SOp) (w : World) (S : Nat → Prop) (hv : RowIn w S m v) :
    Calls Tryd.prog 13 #[v, .agg #[.int .i64 o.I, .int .i64 o.X, .bool o.Cut]] w (RowOut w S (doM m o)) := by
  obtain ⟨I, X, b⟩ := o
  cases b
  · exact does_set m v I X w S hv
  · exact does_cut m v I X w S hv
set_option maxHeartbeats 400000 in
theorem should_cut (m : List (Option Int)) (I X : Int) (w : World) (hm : m.length = 32) :
    Calls Tryd.prog 14 #[.agg (refL m).toArray, .agg #[.int .i64 I, .int .i64 X, .bool true]] w (RefOut w (Sp.cutM m I)) := by
  have HM := Lib.hid hm
  clear hm
  go_enter Tryd.func14, Tryd.ntmps14
  have hBk0 := Lib.hid (show Blk ((w.alloc (.cells (refL m).toArray 33)).alloc (.cells #[.int .i64 I, .int .i64 X, .bool true] 42)) w.heap.size 33 (refL m).toArray from (Blk.new w _ _).alloc _)
  have hOp0 := Lib.hid (show Blk ((w.alloc (.cells (refL m).toArray 33)).alloc (.cells #[.int .i64 I, .int .i64 X, .bool true] 42)) (w.heap.size + 1) 42 #[.int .i64 I, .int .i64 X, .bool true] by simpa using Blk.new (w.alloc (.cells (refL m).toArray 33)) 42 #[.int .i64 I, .int .i64 X, .bool true])
  go_wp2_with (first
    | (refine wpList_alloc_blk rfl 33 rfl (.agg (refL m0).toArray) ref_zero ?_; intro w1 HZ1 hb1 HS1; have hBk1 := Lib.hid (hBk0.out.below hb1 (by simp <;> omega)); have hOp1 := hOp0.out.below hb1 (by simp <;> omega); have o0 := hOp1.cell 0; have o1 := hOp1.cell 1; have o2 := hOp1.cell 2)
    | (refine wpList_load_row rfl 33 (.tmp 2) rfl _ rfl _ _ _ _ hBk1.out Tryd.underlying33 rfl (ref_size _ HM.out) ?_)
    | fail)
  refine (refCut_any m _ _ HM.out).mono ?_
  rintro e w2 ⟨rfl, hb2⟩
  have HR2 : Hid (Blk w2 (w.heap.size + 2) 33 (refL m0).toArray) := Lib.hid (by have h := HZ1.out; simp only [World.size_alloc] at h; exact Blk.below h hb2 (by have := HS1.out; simp at this; omega))
  have hB2 : Below w.heap.size w w2 := ((((Below.refl _ _).alloc (Nat.le_refl _) _).alloc (by simp) _).trans (hb1.mono (by simp <;> omega))).trans (hb2.mono (by have := HS1.out; simp at this; omega))
  clear HZ1 HS1 hb1 hBk0 hOp0 hBk1 hOp1 o0 o1 o2 hb2
  go_wp2_with (first
    | (refine wpList_store_row rfl 33 (.tmp 4) (.tmp 10) rfl _ rfl _ rfl _ _ HR2.out (ref_size _ (cutM_len HM.out)) (by simp [refL_len, cutM_len HM.out, m0_len]) (refL_one _) ?_; intro w3 HR3 ho3 hB3))
  exact bodyPost_ret (v := .agg (refL (Sp.cutM m I)).toArray) (results_cell_row rfl _ _ _ _ _ _ _ rfl HR3.out Tryd.underlying33 rfl (ref_size _ (cutM_len HM.out))) rfl ⟨rfl, hB3 _ _ hB2 (by omega)⟩

set_option maxHeartbeats 400000 in
theorem should_set (m : List (Option Int)) (I X : Int) (w : World) (hm : m.length = 32) :
    Calls Tryd.prog 14 #[.agg (refL m).toArray, .agg #[.int .i64 I, .int .i64 X, .bool false]] w (RefOut w (Sp.setM m I X)) := by
  have HM := Lib.hid hm
  clear hm
  go_enter Tryd.func14, Tryd.ntmps14
  have hBk0 := Lib.hid (show Blk ((w.alloc (.cells (refL m).toArray 33)).alloc (.cells #[.int .i64 I, .int .i64 X, .bool false] 42)) w.heap.size 33 (refL m).toArray from (Blk.new w _ _).alloc _)
  have hOp0 := Lib.hid (show Blk ((w.alloc (.cells (refL m).toArray 33)).alloc (.cells #[.int .i64 I, .int .i64 X, .bool false] 42)) (w.heap.size + 1) 42 #[.int .i64 I, .int .i64 X, .bool false] by simpa using Blk.new (w.alloc (.cells (refL m).toArray 33)) 42 #[.int .i64 I, .int .i64 X, .bool false])
  go_wp2_with (first
    | (refine wpList_alloc_blk rfl 33 rfl (.agg (refL m0).toArray) ref_zero ?_; intro w1 HZ1 hb1 HS1; have hBk1 := Lib.hid (hBk0.out.below hb1 (by simp <;> omega)); have hOp1 := hOp0.out.below hb1 (by simp <;> omega); have o0 := hOp1.cell 0; have o1 := hOp1.cell 1; have o2 := hOp1.cell 2)
    | (refine wpList_load_row rfl 33 (.tmp 2) rfl _ rfl _ _ _ _ hBk1.out Tryd.underlying33 rfl (ref_size _ HM.out) ?_)
    | fail)
  refine (refSet_any m _ _ _ HM.out).mono ?_
  rintro e w2 ⟨rfl, hb2⟩
  have HR2 : Hid (Blk w2 (w.heap.size + 2) 33 (refL m0).toArray) := Lib.hid (by have h := HZ1.out; simp only [World.size_alloc] at h; exact Blk.below h hb2 (by have := HS1.out; simp at this; omega))
  have hB2 : Below w.heap.size w w2 := ((((Below.refl _ _).alloc (Nat.le_refl _) _).alloc (by simp) _).trans (hb1.mono (by simp <;> omega))).trans (hb2.mono (by have := HS1.out; simp at this; omega))
  clear HZ1 HS1 hb1 hBk0 hOp0 hBk1 hOp1 o0 o1 o2 hb2
  go_wp2_with (first
    | (refine wpList_store_row rfl 33 (.tmp 4) (.tmp 16) rfl _ rfl _ rfl _ _ HR2.out (ref_size _ (setM_len HM.out)) (by simp [refL_len, setM_len HM.out, m0_len]) (refL_one _) ?_; intro w3 HR3 ho3 hB3))
  exact bodyPost_ret (v := .agg (refL (Sp.setM m I X)).toArray) (results_cell_row rfl _ _ _ _ _ _ _ rfl HR3.out Tryd.underlying33 rfl (ref_size _ (setM_len HM.out))) rfl ⟨rfl, hB3 _ _ hB2 (by omega)⟩

theorem should_any (m : List (Option Int)) (o : SOp) (w : World) (hm : m.length = 32) :
    Calls Tryd.prog 14 #[.agg (refL m).toArray, .agg #[.int .i64 o.I, .int .i64 o.X, .bool o.Cut]] w (RefOut w (doM m o)) := by
  obtain ⟨I, X, b⟩ := o
  cases b
  · exact should_set m I X w hm
  · exact should_cut m I X w hm

end Go.Proofs.YtbgmlcakdkkfdaaDoor
