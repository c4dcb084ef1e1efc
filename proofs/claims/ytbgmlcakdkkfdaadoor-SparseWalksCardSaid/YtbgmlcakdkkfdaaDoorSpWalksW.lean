/-
  THE WALK of SparseWalks.
-/
import Derived.Test.YtbgmlcakdkkfdaaDoorSpU
import Derived.Deep.DeepCutAuto
import Derived.Deep.CutRange
namespace Go.Proofs.YtbgmlcakdkkfdaaDoor
open Go.RowKit Go.BigFrame Go.Shelf
attribute [local go_sem ↓] exec_load_ref
attribute [local go_sem] isHead_ptr blockOf_ptr drew_heap drewN_heap
attribute [local go_sem] Oper.semAt_some

theorem func_ne_nil (f : Fn) (a c : Array Value) (w : World) : Sem.run Tryd.prog (binOp BinOp.eql 53 (Value.func f a c) Value.nilFunc) w = .ok (.bool false) w := by kernel_rfl

set_option maxRecDepth 100000 in
set_option maxHeartbeats 1000000 in
theorem walks_long (n c : Nat) (A : Option Addr) (most : Int) (w : World) (hT : TabAt w) (hg : 0 < w.heap.size) (hn : 100 < n) :
    Calls Tryd.prog 7 #[.slice A n c, .int .i64 most] w (TrueOut w) := by
  have HT := Lib.hid hT
  clear hT
  refine enter_marks Tryd.func7 rfl ?_
  simp only [Tryd.ntmps7, List.size_toArray, List.length_cons, List.length_nil, Nat.reduceAdd, Nat.reduceSub, Array.replicate_succ, Array.replicate_zero, List.push_toArray, List.append_toArray, List.nil_append, List.cons_append]
  go_wp2_with fail
  have h1 := (Below.refl w.heap.size w).alloc (Nat.le_refl _) (.cells #[.int .i64 most] 3)
  have h2 := h1.alloc (by simp) (.cells #[.bool false] 4)
  have hz2 := h2.size
  have hf : Blk ((w.alloc (.cells #[.int .i64 most] 3)).alloc (.cells #[.bool false] 4)) (w.heap.size + 1) 4 #[.bool false] := by simpa using Blk.new (w.alloc (.cells #[.int .i64 most] 3)) 4 #[.bool false]
  generalize (w.alloc (.cells #[.int .i64 most] 3)).alloc (.cells #[.bool false] 4) = w0 at *
  refine (live_any _ (HT.out.below h2 hg) (by omega)).mono ?_
  rintro e w1 ⟨rfl, hb1⟩
  have hf1 := hf.below hb1 hf.lt
  have hb2 := h2.trans (hb1.mono hz2)
  have hz3 := hb2.size
  go_wp2_with fail
  refine (live_any _ (HT.out.below hb2 hg) (by omega)).mono ?_
  rintro e w2 ⟨rfl, hb3⟩
  have hf2 := hf1.below hb3 hf1.lt
  have c0 : w2.cell? ⟨w.heap.size + 1, 0, none⟩ = some (.bool false) := hf2.cell 0
  have c1 : w2.frozen? ⟨w.heap.size + 1, 0, none⟩ = false := hf2.frozen 0
  have hf3 := (hf2.set_ 0 (.bool true)).cell 0
  have hB := (hb2.trans (hb3.mono hz3)).setCell (p := ⟨w.heap.size + 1, 0, none⟩) (by simp) (.bool true)
  go_wp2_with fail
  refine ⟨.bool true, ?_, rfl, hB⟩
  simp [results, Tryd.f7, go_sem, hf3]

set_option maxRecDepth 100000 in
set_option maxHeartbeats 2000000 in
theorem walks_core (l : List SOp) (A : Option Addr) (c : Nat) (most : Int) (w : World) (hT : TabAt w) (hg : 0 < w.heap.size) (hn : ¬ 100 < l.length) (hl : OpsIn w.heap.size w A l) :
    Calls Tryd.prog 7 #[.slice A l.length c, .int .i64 most] w (TrueOut w) := by
  have HT := Lib.hid hT
  have HL := Lib.hid hl
  have hlen1 : (l.length : Int) ≤ 100 := by omega
  clear hT hl
  refine enter_marks Tryd.func7 rfl ?_
  simp only [Tryd.ntmps7, List.size_toArray, List.length_cons, List.length_nil, Nat.reduceAdd, Nat.reduceSub, Array.replicate_succ, Array.replicate_zero, List.push_toArray, List.append_toArray, List.nil_append, List.cons_append]
  go_wp2_with fail
  have h1 := (Below.refl w.heap.size w).alloc (Nat.le_refl _) (.cells #[.int .i64 most] 3)
  have h2 := h1.alloc (by simp) (.cells #[.bool false] 4)
  have hz2 := h2.size
  have hfm : Blk ((w.alloc (.cells #[.int .i64 most] 3)).alloc (.cells #[.bool false] 4)) w.heap.size 3 #[.int .i64 most] := (Blk.new w 3 #[.int .i64 most]).alloc _
  have hf : Blk ((w.alloc (.cells #[.int .i64 most] 3)).alloc (.cells #[.bool false] 4)) (w.heap.size + 1) 4 #[.bool false] := by simpa using Blk.new (w.alloc (.cells #[.int .i64 most] 3)) 4 #[.bool false]
  generalize (w.alloc (.cells #[.int .i64 most] 3)).alloc (.cells #[.bool false] 4) = w0 at *
  refine (live_any _ (HT.out.below h2 hg) (by omega)).mono ?_
  rintro e w1 ⟨rfl, hb1⟩
  have HF1 := Lib.hid (hf.below hb1 hf.lt)
  have HM1 := Lib.hid (hfm.below hb1 hfm.lt)
  have HB1 := Lib.hid (h2.trans (hb1.mono hz2))
  have HT1 := Lib.hid (HT.out.below HB1.out hg)
  have HL1 := Lib.hid (HL.out.below HB1.out)
  have hz1 := HB1.out.size
  have hl4 := HF1.out.lt
  clear h1 h2 hz2 hfm hf hb1 HT HL w0
  have HZ := Lib.hid (show Blk (w1.alloc (.cells #[.int .u32 0, .slice none 0 0] 26)) w1.heap.size 26 #[.int .u32 0, .slice none 0 0] from Blk.new w1 _ _)
  go_wp2_with (first | (refine wpList_alloc_blk rfl 33 rfl (.agg (refL m0).toArray) ref_zero ?_; intro w2 HZ2 hb2 HS2))
  have hs2 := HS2.out
  simp only [World.size_alloc] at hs2
  obtain ⟨g, hgd⟩ : ∃ g, g = w1.heap.size := ⟨_, rfl⟩
  obtain ⟨d, hdd⟩ : ∃ d, d = w1.heap.size + 1 := ⟨_, rfl⟩
  obtain ⟨X, hXd⟩ : ∃ X : Nat → Prop, X = fun k => k = g ∨ k = d := ⟨_, rfl⟩
  have hI : Hid (PairInv w1 X g d m0 w2) := Lib.hid (by
    have hB : Below w1.heap.size w1 w2 := ((Below.refl _ _).alloc (Nat.le_refl _) _).trans (hb2.mono (by simp))
    refine ⟨⟨m0_len, by rw [hXd]; exact .inl rfl, by rw [hXd]; exact .inr rfl, by omega, by have h := HZ2.out; simp only [World.size_alloc] at h; rw [hdd]; exact h, none, 0, ?_, ?_⟩, hB, ?_⟩
    · rw [show Sp.bitsL m0 = 0 by decide, show (Sp.vals m0).length = 0 by decide, hgd]
      exact HZ.out.below hb2 (by simp)
    · rw [show Sp.bitsL m0 = 0 by decide, show (Sp.vals m0).length = 0 by decide]
      exact (row_zero w2).more (fun _ h => h.elim) (fun _ h => h.1)
    · intro k hk
      rw [hXd] at hk
      rcases hk with rfl | rfl <;> omega)
  try simp only [World.size_alloc]
  rw [← hdd, ← hgd]
  clear HZ HZ2 HS2 hb2 hs2 hgd hdd
  clear hXd
  go_loopw [26] (fun i wr => ∃ k : Nat, k ≤ l.length ∧ i = .int .i64 k ∧ Hid (PairInv w1 X g d (runM m0 (l.take k)) wr)) (fun i _ => (l.length - intOf i).toNat)
  case atStart => exact ⟨0, by omega, rfl, hI⟩
  case round =>
    obtain ⟨k, hk, rfl, hJ⟩ := hrel
    by_cases hlt : k < l.length
    · obtain ⟨o, ho⟩ : ∃ o, l[k]? = some o := ⟨l[k], List.getElem?_eq_getElem hlt⟩
      obtain ⟨ad, rfl, hadB, hcells⟩ := (HL1.out.below (hJ.out.2.1.mono hz1)) (by omega)
      obtain ⟨cl1, cl2, cl3⟩ := hcells k o ho
      have HR := Lib.hid (runM_succ m0 l k o ho)
      have HM := Lib.hid (runM_len m0_len (l.take k))
      clear hcells ho
      generalize runM m0 (l.take k) = M at *
      go_wp2_with fail
      obtain ⟨w5, hw5⟩ : ∃ w5, w5 = wr.alloc (.cells #[.int .i64 o.I, .int .i64 o.X, .bool o.Cut] 42) := ⟨_, rfl⟩
      rw [← hw5]
      have hb5 : Below wr.heap.size wr w5 := by rw [hw5]; exact (Below.refl _ _).alloc (Nat.le_refl _) _
      have hO : Blk w5 wr.heap.size 42 #[.int .i64 o.I, .int .i64 o.X, .bool o.Cut] := by rw [hw5]; exact Blk.new wr _ _
      have q0 := hO.cell 0
      have q1 := hO.cell 1
      have q2 := hO.cell 2
      have hOl := hO.lt
      have hJ5 := Lib.hid (hJ.out.below hb5)
      have hXW := Lib.hid (show ∀ k, X k → k < w5.heap.size from fun k hk => Nat.lt_of_lt_of_le (hJ.out.2.2 k hk).2 hb5.size)
      clear hJ hO hw5 hb5 cl1 cl2 cl3
      obtain ⟨A0, c0, HV, f0, f1, f2, f3, hgl, hdl⟩ := hJ5.out.1.facts
      refine wp_region_ht 6 (fun w' => w'.cell? ⟨g, 0, none⟩ = some (.int .u32 (Sp.bitsL M)) ∧ w'.cell? ⟨g, 1, none⟩ = some (.slice A0 (Sp.vals M).length c0) ∧ w'.cell? ⟨wr.heap.size, 0, none⟩ = some (.int .i64 o.I) ∧ w'.cell? ⟨wr.heap.size, 1, none⟩ = some (.int .i64 o.X) ∧ w'.cell? ⟨wr.heap.size, 2, none⟩ = some (.bool o.Cut) ∧ bcells w'.heap d = (refL M).toArray ∧ Whole 64 w'.heap d ∧ Below w5.heap.size w5 w' ∧ w5.heap.size ≤ w'.heap.size) (by kernel_rfl) (by kernel_rfl) ⟨f0, f1, q0, q1, q2, f2, f3, (Below.refl _ _).drew, Nat.le_refl _⟩ (fun hst hS => ?_)
      refine wpAnyT_take 0 (oi := ⟨_, _, _, _, _, _⟩) (v := ?_) hst rfl (by kernel_rfl) (fun _ _ _ h => h) (Or.inl ⟨by rfl, ?_⟩) hS ?_
      rotate_left
      · (intro w hSw; (try dsimp only at hSw); go_simp; try with_reducible rfl)
      try simp only [Act.put, List.setIfInBounds_toArray, List.set_cons_zero, List.set_cons_succ]
      refine wpAnyT_take 1 (oi := ⟨_, _, _, _, _, _⟩) (v := ?_) hst rfl (by kernel_rfl) (fun _ _ _ h => h) (Or.inl ⟨by rfl, ?_⟩) hS ?_
      rotate_left
      · (intro w hSw; (try dsimp only at hSw); go_simp; try with_reducible rfl)
      try simp only [Act.put, List.setIfInBounds_toArray, List.set_cons_zero, List.set_cons_succ]
      refine wpAnyT_take 3 (oi := ⟨_, _, _, _, _, _⟩) (v := ?_) hst rfl (by kernel_rfl) (fun _ _ _ h => h) (Or.inl ⟨by rfl, ?_⟩) hS ?_
      rotate_left
      · (intro w hSw; (try dsimp only at hSw); go_simp; try with_reducible rfl)
      try simp only [Act.put, List.setIfInBounds_toArray, List.set_cons_zero, List.set_cons_succ]
      refine wpAnyT_take 4 (oi := ⟨_, _, _, _, _, _⟩) (v := ?_) hst rfl (by kernel_rfl) (fun _ _ _ h => h) (Or.inl ⟨by rfl, ?_⟩) hS ?_
      rotate_left
      · (intro w hSw; (try dsimp only at hSw); go_simp; try with_reducible rfl)
      try simp only [Act.put, List.setIfInBounds_toArray, List.set_cons_zero, List.set_cons_succ]
      refine wpAnyT_one 2 (o := ⟨_, _, _, _, _, _⟩) (by kernel_rfl) (by decide) rfl (fun K hK => ?_)
      go_simp
      go_split_ands
      refine (does_rwx (X := X) (fun k hk => Nat.lt_of_lt_of_le (hXW.out k hk) ‹w5.heap.size ≤ _›) (by solve_by_elim (maxDepth := 8) [RwX.up])).mono ?_; rintro e w9 ⟨v8, rfl, hv8, hb9⟩; have hz9 := hb9.size
      go_wp2_with fail
      refine hK.out _ _ (by (try dsimp only at hS); (try dsimp only); go_split_ands; refine ⟨?_, ?_, ?_, ?_, ?_, ?_, ?_, ?_, ?_⟩ <;> first | ((first | rw [hb9.cell (by (try simp) <;> omega)] | rw [bcells_eq (hb9.block _ (by omega))] | refine whole_eq (hb9.block _ (by omega)) ?_); assumption) | (exact Below.trans (by assumption) (hb9.mono (by assumption))) | omega) (fun hS => ?_)
      clear hK K
      try simp only [Act.put, List.setIfInBounds_toArray, List.set_cons_zero, List.set_cons_succ]
      refine wpAnyT_one 5 (o := ⟨_, _, _, _, _, _⟩) (by kernel_rfl) (by decide) rfl (fun K hK => ?_)
      go_simp
      go_split_ands
      refine (should_hid HM).mono ?_; rintro e w9 ⟨rfl, hb9⟩; have hz9 := hb9.size
      go_wp2_with fail
      refine hK.out _ _ (by (try dsimp only at hS); (try dsimp only); go_split_ands; refine ⟨?_, ?_, ?_, ?_, ?_, ?_, ?_, ?_, ?_⟩ <;> first | ((first | rw [hb9.cell (by (try simp) <;> omega)] | rw [bcells_eq (hb9.block _ (by omega))] | refine whole_eq (hb9.block _ (by omega)) ?_); assumption) | (exact Below.trans (by assumption) (hb9.mono (by assumption))) | omega) (fun hS => ?_)
      clear hK K
      try simp only [Act.put, List.setIfInBounds_toArray, List.set_cons_zero, List.set_cons_succ]
      refine wpAnyT_done (by kernel_rfl) ?_
      simp only [List.drop_succ_cons, List.drop_zero]
      try dsimp only at hS
      go_split_ands
      clear hst
      have HV8 : Hid (RwX w9 X (doM M o) v8) := by solve_by_elim (maxDepth := 8) [RwX.up]
      have hJ9 := Lib.hid (hJ5.out.below (by assumption : Below w5.heap.size w5 w9))
      obtain ⟨A8, c8, rfl⟩ := RwX.shape HV8
      obtain ⟨A9, c9, y0, y1, y2, y3, HD⟩ := hJ9.out.1.boxes (.int .u32 (Sp.bitsL (doM M o))) (.slice A8 (Sp.vals (doM M o)).length c8)
      have HM1 := Lib.hid (doM_len (o := o) HM.out)
      clear hv8
      go_wp2_with (first | (refine wpList_store_row rfl 33 (.tmp 6) (.tmp 35) rfl _ rfl _ rfl _ _ HD.out (ref_size _ HM1.out) (by simp [refL_len, HM1.out, HM.out]) (refL_one _) ?_; intro w10 HR10 ho10 hB10))
      have hJ10 := Lib.hid (hJ9.out.stored HM1.out HV8 HR10 ho10 hB10)
      go_roundw
      case rel => exact ⟨k + 1, by omega, by go_num, by rw [HR.out]; exact hJ10⟩
      case measure => simp [intOf]; omega
    · have hkl : k = l.length := by omega
      subst hkl
      rw [List.take_length] at hJ
      have HM := Lib.hid (runM_len m0_len l)
      generalize runM m0 l = M at *
      clear hI HL1
      obtain ⟨A0, c0, HV, f0, f1, f2, f3, hgl, hdl⟩ := hJ.out.1.facts
      have HG := hJ.out.1.box f1
      go_wp2_with fail
      have e9 : Blk ((wr.alloc (.cells #[.int .i64 0] 3)).alloc (.cells #[.int .i64 (-1)] 3)) wr.heap.size 3 #[.int .i64 0] := (Blk.new wr 3 #[.int .i64 0]).alloc _
      have e10 : Blk ((wr.alloc (.cells #[.int .i64 0] 3)).alloc (.cells #[.int .i64 (-1)] 3)) (wr.heap.size + 1) 3 #[.int .i64 (-1)] := by simpa using Blk.new (wr.alloc (.cells #[.int .i64 0] 3)) 3 #[.int .i64 (-1)]
      have hBa : Below wr.heap.size wr ((wr.alloc (.cells #[.int .i64 0] 3)).alloc (.cells #[.int .i64 (-1)] 3)) := ((Below.refl _ _).alloc (Nat.le_refl _) _).alloc (by simp) _
      generalize (wr.alloc (.cells #[.int .i64 0] 3)).alloc (.cells #[.int .i64 (-1)] 3) = wa at *
      have hza := hBa.size
      refine (all_any _ _ _).mono ?_
      rintro e w9 ⟨rfl, rfl⟩
      have HBox := Lib.hid (Blk.new wa 26 #[.int .u32 (Sp.bitsL M), .slice A0 (Sp.vals M).length c0])
      have hBb : Below wa.heap.size wa (wa.alloc (.cells #[.int .u32 (Sp.bitsL M), .slice A0 (Sp.vals M).length c0] 26)) := (Below.refl _ _).alloc (Nat.le_refl _) _
      have hzb : (wa.alloc (.cells #[.int .u32 (Sp.bitsL M), .slice A0 (Sp.vals M).length c0] 26)).heap.size = wa.heap.size + 1 := by simp
      generalize wa.alloc (.cells #[.int .u32 (Sp.bitsL M), .slice A0 (Sp.vals M).length c0] 26) = wb at *
      have hnn := func_ne_nil (.func 35) #[] #[.pointer (some ⟨wa.heap.size, 0, none⟩)] wb
      have hz5 := hJ.out.2.1.size
      have hX := hJ.out.2.2
      have hgX := hX g hJ.out.1.2.1
      have hdX := hX d hJ.out.1.2.2.1
      have HBB : Hid (Below wr.heap.size wr wb) := Lib.hid (hBa.trans (hBb.mono hza))
      have HB2 : Hid (Below w.heap.size w wb) := Lib.hid ((HB1.out.trans (hJ.out.2.1.mono hz1)).trans (HBB.out.mono (by omega)))
      have HT3 : Hid (TabAt wb) := Lib.hid ((HT1.out.below hJ.out.2.1 (by omega)).below HBB.out (by omega))
      have HW : Hid (WI w.heap.size (w.heap.size + 1) d wr.heap.size (wr.heap.size + 1) most M 0 (-1) wb) := Lib.hid ⟨(HM1.out.below hJ.out.2.1 (by omega)).below HBB.out (by omega), (HF1.out.below hJ.out.2.1 (by omega)).below HBB.out (by omega), hJ.out.1.2.2.2.2.1.below HBB.out hdl, e9.below hBb e9.lt, e10.below hBb e10.lt⟩
      obtain ⟨-, -, A', c', h7, h8, h9⟩ := RowIn.below (show RowIn _ _ _ _ from HV) HBB.out
      simp only [Value.agg.injEq, Array.mk.injEq, List.cons.injEq, Value.slice.injEq, true_and, and_true] at h7
      obtain ⟨rfl, rfl⟩ := h7
      have HRD : Hid (Reads wb (fun k => k < wr.heap.size) 1 A0 (Sp.vals M).length ((Sp.vals M).map (Value.int .i64))) := Lib.hid (h9.more (fun k hk => hk.1))
      have hvl : (Sp.vals M).length ≤ 32 := by have := Sp.vals_len_le M; have := HM.out; omega
      clear HG HV h8 h9 e9 e10 hBa hBb f0 f1 f2 f3 hX
      go_wp2_with fail
      refine (wpIn_wide (n := 3)).1 ?_
      have h1n : 1 ≤ 3 := by omega
      refine wpIn_rangeFunc_ownG (F := Fence.wide) (n := 3) rfl h1n (gf := 35) (lb := #[.pointer (some ⟨wa.heap.size, 0, none⟩)]) rfl trivial (enters_of Tryd.func35 (by kernel_rfl) rfl)
        (all_stops 2 (by omega) wa.heap.size wr.heap.size M A0 c0 wb HM.out hvl (by omega) (by omega) (by omega) HBox.out HRD.out HT3.out) belowK_t (belowK_b (by omega)) (Below.refl _ _) (fun _ => rfl)
        (fun pre W => (WI w.heap.size (w.heap.size + 1) d wr.heap.size (wr.heap.size + 1) most M (pre.length : Int) (lastOf pre) W ∧ ∀ j : Nat, 1 ≤ j → j ≤ pre.length → (j : Int) ≠ most) ∧ Below w.heap.size w W)
        (fun c pre W => ((c = .ret ∧ Wrong M pre) ∨ (c = .exit 2 ∧ WI w.heap.size (w.heap.size + 1) d wr.heap.size (wr.heap.size + 1) most M (pre.length : Int) (lastOf pre) W ∧ (pre.length : Int) = most ∧ 1 ≤ pre.length)) ∧ Below w.heap.size w W)
        (OwnFrom.and (OwnFrom.and (Own.from (WI.own _ _) _) (fun _ _ _ _ hs _ _ => hs)) (ownFrom_below (Nat.le_refl _) (by omega)))
        (fun c => OwnFrom.and (Own.from (fun s A B row hs hg hr => by
          rcases hs with hs | ⟨h1, h2, h3⟩
          · exact .inl hs
          · exact .inr ⟨h1, WI.own (fun pre : List (Nat × Int) => (pre.length : Int)) lastOf s A B row h2 hg hr, h3⟩) _) (ownFrom_below (Nat.le_refl _) (by omega)))
        ⟨⟨HW.out, fun j h1 h2 => by simp at h2; omega⟩, HB2.out⟩
        (fun x => { tmps := #[.slice A l.length c, .int .i64 most, undef, .pointer (some ⟨w.heap.size, 0, none⟩), .pointer (some ⟨w.heap.size + 1, 0, none⟩), .pointer (some ⟨g, 0, none⟩), .pointer (some ⟨d, 0, none⟩), undef, u8, .pointer (some ⟨wr.heap.size, 0, none⟩), .pointer (some ⟨wr.heap.size + 1, 0, none⟩), .func (.func 35) #[] #[.pointer (some ⟨wa.heap.size, 0, none⟩)], .int .i64 (x.1 : Int), .int .i64 x.2, undef, undef, .bool true, .bool false, .bool false, .slice A l.length c, .int .i64 l.length, .bool (decide (100 < (l.length : Int))), .bool (decide (100 < (l.length : Int))), undef, .slice A l.length c, .int .i64 l.length, .int .i64 l.length, .bool false, u28, u29, u30, u31, u32, u33, u34, u35, u36, .agg #[.int .u32 (Sp.bitsL M), .slice A0 (Sp.vals M).length c0], .func (.func 35) #[] #[.pointer (some ⟨wa.heap.size, 0, none⟩)], .func (.func 35) #[] #[.pointer (some ⟨wa.heap.size, 0, none⟩)], .bool false, .func (.func 35) #[] #[.pointer (some ⟨wa.heap.size, 0, none⟩)], .int .i64 (x.1 : Int), .int .i64 x.2, undef, undef, undef, undef, undef, undef, undef, undef, undef, undef, undef, undef, undef, undef, undef, undef, undef, undef, undef, undef, undef, undef, undef, undef, undef, undef, undef, undef, undef, undef, undef, undef, undef, undef, undef, undef, undef, undef, undef], defers := [] }) ?assign ?body ?done ?stop
      case assign =>
        intro l x W K hK
        gi_wp2
        exact hK
      case body =>
        rintro l' pre x W ⟨⟨hWI, hs⟩, hB⟩ hlt'
        obtain ⟨c3, c4, f4, r1, r2, c9, f9, c10, f10⟩ := hWI.facts HM.out
        have HWI := Lib.hid hWI
        have HS := Lib.hid hs
        have HBW := Lib.hid hB
        have hpl : (pre.length : Int) < 32 := by omega
        clear hWI hs hB HW HB2 HRD HBox HT3 hnn
        gi_wp2_with (first | (refine wpListIn_load_ref rfl (.tmp 6) rfl d rfl r2 ?_; rw [r1]; clear r1 r2))
        refine ⟨trivial, (CallsIn.inRound l' (callsIn_wide.2 (refGet_any M x.1 _ HM.out))).mono ?_⟩
        rintro e W1 ⟨rfl, hb1⟩
        have HWI1 := Lib.hid (HWI.out.below hb1)
        have HK1 := Lib.hid (keepsFrom_of_below (B := wb.heap.size) hb1)
        have hzW := hb1.size
        have hzW0 := HBW.out.size
        have hd0 : d < W.heap.size := HWI.out.2.2.1.lt
        have hp0 : wr.heap.size + 1 < W.heap.size := HWI.out.2.2.2.2.lt
        have HBW1 := Lib.hid (HBW.out.trans (hb1.mono hzW0))
        clear c3 c4 f4 c9 f9 c10 f10 HWI HBW
        obtain ⟨c3, c4, f4, r1, r2, c9, f9, c10, f10⟩ := HWI1.out.facts HM.out
        clear r1 r2
        by_cases hgm : Sp.getM M (x.1 : Int) = some x.2
        · by_cases hlast : (x.1 : Int) ≤ lastOf pre
          · have HWr : Hid (Wrong M (pre ++ [x])) := Lib.hid ⟨pre, x, rfl, .inr hlast⟩
            rw [hgm]
            clear hgm
            gi_wp2_with fail
            exact ⟨HK1.out.trans ((KeepsOthers.setCell _ _ _).from _), .inl ⟨rfl, HWr.out⟩, HBW1.out.setCell (p := ⟨w.heap.size + 1, 0, none⟩) (by simp) _⟩
          · rw [hgm]
            clear hgm
            have hl1 : ((pre ++ [x]).length : Int) = (pre.length : Int) + 1 := by simp
            by_cases hmost : (pre.length : Int) + 1 = most
            · gi_wp2_with fail
              refine ⟨HK1.out.trans (((KeepsOthers.setCell _ _ _).trans (KeepsOthers.setCell _ _ _)).from _), .inr ⟨rfl, ?_, ?_, ?_⟩, (HBW1.out.setCell (p := ⟨wr.heap.size + 1, 0, none⟩) (by simp; omega) _).setCell (p := ⟨wr.heap.size, 0, none⟩) (by simp; omega) _⟩
              · rw [hl1, lastOf_snoc, hmost]
                exact HWI1.out.stored (by omega) (by omega) (by omega) (by omega) (by omega) (by omega) (by omega) _ _
              · rw [hl1, hmost]
              · simp
            · gi_wp2_with fail
              refine ⟨HK1.out.trans (((KeepsOthers.setCell _ _ _).trans (KeepsOthers.setCell _ _ _)).from _), ((hb1.mono (by omega)).setCell (p := ⟨wr.heap.size + 1, 0, none⟩) (by simp) _).setCell (p := ⟨wr.heap.size, 0, none⟩) (by simp) _, ⟨?_, ?_⟩, (HBW1.out.setCell (p := ⟨wr.heap.size + 1, 0, none⟩) (by simp; omega) _).setCell (p := ⟨wr.heap.size, 0, none⟩) (by simp; omega) _⟩
              · rw [hl1, lastOf_snoc]
                exact HWI1.out.stored (by omega) (by omega) (by omega) (by omega) (by omega) (by omega) (by omega) _ _
              · intro j h1 h2
                rcases Nat.lt_or_ge pre.length j with h3 | h3
                · simp at h2; omega
                · exact HS.out j h1 h3
        · have HWr : Hid (Wrong M (pre ++ [x])) := Lib.hid ⟨pre, x, rfl, .inl hgm⟩
          cases hq : Sp.getM M (x.1 : Int) with
          | none =>
            clear hgm hq
            gi_wp2_with fail
            exact ⟨HK1.out.trans ((KeepsOthers.setCell _ _ _).from _), .inl ⟨rfl, HWr.out⟩, HBW1.out.setCell (p := ⟨w.heap.size + 1, 0, none⟩) (by simp) _⟩
          | some y =>
            have hne : (x.2 != y) = true := by simp; rintro rfl; exact hgm hq
            clear hgm hq
            gi_wp2_with fail
            exact ⟨HK1.out.trans ((KeepsOthers.setCell _ _ _).from _), .inl ⟨rfl, HWr.out⟩, HBW1.out.setCell (p := ⟨w.heap.size + 1, 0, none⟩) (by simp) _⟩
      case done =>
        rintro D ys W hD rfl ⟨⟨hWI, hs⟩, hB⟩ hK
        rw [Sp.prs_len] at hWI hs
        obtain ⟨c3, c4, f4, r1, r2, c9, f9, c10, f10⟩ := hWI.facts HM.out
        have HWI := Lib.hid hWI
        have HBW := Lib.hid hB
        have HKD := Lib.hid hK
        have hcase : most < 1 ∨ (¬ most < 1 ∧ ((Sp.vals M).length : Int) < most) := by
          by_cases h1 : most < 1
          · exact .inl h1
          · refine .inr ⟨h1, ?_⟩
            rcases Int.lt_or_le ((Sp.vals M).length : Int) most with h2 | h2
            · exact h2
            · exact absurd (by omega) (hs most.toNat (by omega) (by omega))
        clear hWI hs hB hK HW HB2 HRD HBox HT3 hnn
        have hdW : d < W.heap.size := HWI.out.2.2.1.lt
        have hp0 : wr.heap.size + 1 < W.heap.size := HWI.out.2.2.2.2.lt
        have hB0 : Below W.heap.size W W := Below.refl _ _
        go_wp2_with fail
        go_upto_region 23 with fail
        go_cut [75] from 68 to 75 (fun s75 wx => s75 = .bool true ∧ Hid (Below W.heap.size W wx))
        case first =>
          rcases hcase with h1 | ⟨h1, h2⟩
          · have hd1 : decide (most < 1) = true := by simp [h1]
            go_quiet (fail)
            go_wp2_with fail
            go_meet
            exact ⟨rfl, Lib.hid (Below.trans (Below.refl _ W) ⟨rfl, rfl, rfl, Nat.le_refl _, fun _ _ => rfl⟩)⟩
          · have hd1 : decide (most < 1) = false := by simp [h1]
            go_region_held3 (fun w' => w'.cell? ⟨w.heap.size, 0, none⟩ = some (.int .i64 most) ∧ bcells w'.heap d = (refL M).toArray ∧ Whole 64 w'.heap d ∧ Below W.heap.size W w' ∧ W.heap.size ≤ w'.heap.size)
              (first | (exact ⟨c3, r1, r2, hB0.drew, Nat.le_refl _⟩) | (exact ⟨c3, r1, r2, hB0, Nat.le_refl _⟩) | (go_split_ands; refine ⟨?_, ?_, ?_, ?_, ?_⟩ <;> first | (rw [hb9.cell (by (try simp) <;> omega)]; assumption) | (rw [bcells_eq (hb9.block _ (by omega))]; assumption) | (exact whole_eq (hb9.block _ (by omega)) (by assumption)) | (exact Below.trans (by assumption) (hb9.mono (by (try simp) <;> omega))) | omega))
              (first | (go_at_call 20; refine (refLen_any _ _ HM.out).mono ?_; rintro e w9 ⟨rfl, hb9⟩; have hz9 := hb9.size))
            all_goals (go_split_ands; go_wp2_with fail; go_meet; exact ⟨rfl, Lib.hid (by assumption)⟩)
        case rest =>
          obtain ⟨rfl, hbx⟩ := hcut
          obtain ⟨W1, hW1⟩ : ∃ W1, W1 = wc := ⟨_, rfl⟩
          subst hW1
          have HWI1 := Lib.hid (HWI.out.below hbx.out)
          have hzx := hbx.out.size
          have HKD1 := Lib.hid ((hbx.out.block D (Array.getElem?_eq_some_iff.1 HKD.out).1).trans HKD.out)
          have hzW := HBW.out.size
          have HBW1 := Lib.hid (HBW.out.trans (hbx.out.mono hzW))
          clear c3 c4 f4 r1 r2 c9 f9 c10 f10 hB0 HWI HKD HBW hbx
          obtain ⟨c3, c4, f4, r1, r2, c9, f9, c10, f10⟩ := HWI1.out.facts HM.out
          have hdl5 : d < W1.heap.size := HWI1.out.2.2.1.lt
          have hpl5 : wr.heap.size + 1 < W1.heap.size := HWI1.out.2.2.2.2.lt
          go_wp2_with fail
          refine wp_region_ht 4 (fun w' => w'.cell? ⟨wr.heap.size, 0, none⟩ = some (.int .i64 ((Sp.vals M).length : Int)) ∧ bcells w'.heap d = (refL M).toArray ∧ Whole 64 w'.heap d ∧ Below W1.heap.size W1 w' ∧ W1.heap.size ≤ w'.heap.size) (by kernel_rfl) (by kernel_rfl) ⟨c9, r1, r2, (Below.refl _ _).drew, Nat.le_refl _⟩ (fun hst hS => ?_)
          refine wpAnyT_take 0 (oi := ⟨_, _, _, _, _, _⟩) (v := ?_) hst rfl (by kernel_rfl) (fun _ _ _ h => h) (Or.inl ⟨by rfl, ?_⟩) hS ?_
          rotate_left
          · (intro w hSw; (try dsimp only at hSw); go_simp; try with_reducible rfl)
          try simp only [Act.put, List.setIfInBounds_toArray, List.set_cons_zero, List.set_cons_succ]
          refine wpAnyT_take 1 (oi := ⟨_, _, _, _, _, _⟩) (v := ?_) hst rfl (by kernel_rfl) (fun _ _ _ h => h) (Or.inl ⟨by rfl, ?_⟩) hS ?_
          rotate_left
          · (intro w hSw; (try dsimp only at hSw); go_simp; try with_reducible rfl)
          try simp only [Act.put, List.setIfInBounds_toArray, List.set_cons_zero, List.set_cons_succ]
          refine wpAnyT_one 2 (o := ⟨_, _, _, _, _, _⟩) (by kernel_rfl) (by decide) rfl (fun K hK => ?_)
          go_simp
          go_split_ands
          refine (refLen_any _ _ HM.out).mono ?_; rintro e w9 ⟨rfl, hb9⟩; have hz9 := hb9.size
          go_wp2_with fail
          refine hK.out _ _ (by (try dsimp only at hS); (try dsimp only); go_split_ands; refine ⟨?_, ?_, ?_, ?_, ?_⟩ <;> first | ((first | rw [hb9.cell (by (try simp) <;> omega)] | rw [bcells_eq (hb9.block _ (by omega))] | refine whole_eq (hb9.block _ (by omega)) ?_); assumption) | (exact Below.trans (by assumption) (hb9.mono (by assumption))) | omega) (fun hS => ?_)
          clear hK K
          try simp only [Act.put, List.setIfInBounds_toArray, List.set_cons_zero, List.set_cons_succ]
          refine wpAnyT_take 3 (oi := ⟨_, _, _, _, _, _⟩) (v := ?_) hst rfl (by kernel_rfl) (fun _ _ _ h => h) (Or.inl ⟨by rfl, ?_⟩) hS ?_
          rotate_left
          · (intro w hSw; (try dsimp only at hSw); go_simp; try with_reducible rfl)
          try simp only [Act.put, List.setIfInBounds_toArray, List.set_cons_zero, List.set_cons_succ]
          refine wpAnyT_done (by kernel_rfl) ?_
          simp only [List.drop_succ_cons, List.drop_zero]
          try dsimp only at hS
          go_split_ands
          clear hst
          have hB9 : Below W1.heap.size W1 w9 := by assumption
          have HW9 := Lib.hid (HWI1.out.below hB9)
          have hK9 := (hB9.block D (Array.getElem?_eq_some_iff.1 HKD1.out).1).trans HKD1.out
          have hBW9 := HBW1.out.trans (hB9.mono (by omega))
          clear c3 c4 f4 r1 r2 c9 f9 c10 f10
          obtain ⟨c3, c4, f4, r1, r2, c9, f9, c10, f10⟩ := HW9.out.facts HM.out
          go_wp2_with fail
          exact leaves_true rfl rfl rfl (hBW9.setCell (p := ⟨w.heap.size + 1, 0, none⟩) (by simp) _) (by omega) ((KeepsOthers.setCell _ _ _).same D _ hK9 rfl) (World.cell?_setCell_same' _ _ _ (by rw [c4]; rfl))
      case stop =>
        rintro D c pre W hD hpre ⟨hx | ⟨rfl, hWI, hm, hp1⟩, hB⟩ hK
        · exact absurd hx.2 (not_wrong HM.out hpre)
        · have hle : pre.length ≤ (Sp.vals M).length := by have := hpre.length_le; rwa [Sp.prs_len] at this
          rw [hm] at hWI
          obtain ⟨c3, c4, f4, r1, r2, c9, f9, c10, f10⟩ := hWI.facts HM.out
          have HWI := Lib.hid hWI
          have HBW := Lib.hid hB
          have HKD := Lib.hid hK
          clear hWI hB hK HW HB2 HRD HBox HT3 hnn hpre
          have hdW : d < W.heap.size := HWI.out.2.2.1.lt
          have hp0 : wr.heap.size + 1 < W.heap.size := HWI.out.2.2.2.2.lt
          have hB0 : Below W.heap.size W W := Below.refl _ _
          have hm1 : ¬ most < 1 := by omega
          have hm2 : ¬ ((Sp.vals M).length : Int) < most := by omega
          refine wpIn_wide.2 ?_
          go_wp2_with fail
          go_upto_region 23 with fail
          go_cut [75] from 68 to 75 (fun s75 wx => s75 = .bool false ∧ Hid (Below W.heap.size W wx))
          case first =>
            have hd1 : decide (most < 1) = false := by simp [hm1]
            go_region_held3 (fun w' => w'.cell? ⟨w.heap.size, 0, none⟩ = some (.int .i64 most) ∧ bcells w'.heap d = (refL M).toArray ∧ Whole 64 w'.heap d ∧ Below W.heap.size W w' ∧ W.heap.size ≤ w'.heap.size)
              (first | (exact ⟨c3, r1, r2, hB0.drew, Nat.le_refl _⟩) | (exact ⟨c3, r1, r2, hB0, Nat.le_refl _⟩) | (go_split_ands; refine ⟨?_, ?_, ?_, ?_, ?_⟩ <;> first | (rw [hb9.cell (by (try simp) <;> omega)]; assumption) | (rw [bcells_eq (hb9.block _ (by omega))]; assumption) | (exact whole_eq (hb9.block _ (by omega)) (by assumption)) | (exact Below.trans (by assumption) (hb9.mono (by (try simp) <;> omega))) | omega))
              (first | (go_at_call 20; refine (refLen_any _ _ HM.out).mono ?_; rintro e w9 ⟨rfl, hb9⟩; have hz9 := hb9.size))
            all_goals (go_split_ands; go_wp2_with fail; go_meet; exact ⟨by simp; omega, Lib.hid (by assumption)⟩)
          case rest =>
            obtain ⟨rfl, hbx⟩ := hcut
            obtain ⟨W1, hW1⟩ : ∃ W1, W1 = wc := ⟨_, rfl⟩
            subst hW1
            have HWI1 := Lib.hid (HWI.out.below hbx.out)
            have hzx := hbx.out.size
            have hK9 := (hbx.out.block D (Array.getElem?_eq_some_iff.1 HKD.out).1).trans HKD.out
            have hzW := HBW.out.size
            have hBW9 := HBW.out.trans (hbx.out.mono hzW)
            clear c3 c4 f4 r1 r2 c9 f9 c10 f10 hB0 HWI HKD HBW hbx
            obtain ⟨c3, c4, f4, r1, r2, c9, f9, c10, f10⟩ := HWI1.out.facts HM.out
            go_wp2_with fail
            exact leaves_true rfl rfl rfl (hBW9.setCell (p := ⟨w.heap.size + 1, 0, none⟩) (by simp) _) (by omega) ((KeepsOthers.setCell _ _ _).same D _ hK9 rfl) (World.cell?_setCell_same' _ _ _ (by rw [c4]; rfl))

theorem sparseWalks_any (l : List SOp) (A : Option Addr) (c : Nat) (most : Int) (w : World) (hT : TabAt w) (hg : 0 < w.heap.size) (hl : OpsIn w.heap.size w A l) (_ : (Lit.int IntKind.i64 most).wf = true) :
    Calls Tryd.prog 7 #[.slice A l.length c, .int .i64 most] w (TrueOut w) := by
  by_cases hn : 100 < l.length
  · exact walks_long _ _ _ _ _ hT hg hn
  · exact walks_core _ _ _ _ _ hT hg hn hl
end Go.Proofs.YtbgmlcakdkkfdaaDoor
