/-
  THE WALK of SparseBranches.
-/
import Derived.Test.YtbgmlcakdkkfdaaDoorSpQ
import Derived.Deep.DeepCutAuto
import Derived.Deep.CutRange
namespace Go.Proofs.YtbgmlcakdkkfdaaDoor
open Go.RowKit Go.BigFrame
attribute [local go_sem ↓] exec_load_ref
attribute [local go_sem] isHead_ptr blockOf_ptr drew_heap drewN_heap

set_option maxHeartbeats 1000000 in
theorem branches_long (A1 A2 A3 : Option Addr) (n1 n2 n3 c1 c2 c3 : Nat) (w : World) (hT : TabAt w) (hg : 0 < w.heap.size) (hn : 100 < n1 ∨ (¬ 100 < n1 ∧ 100 < n2) ∨ (¬ 100 < n1 ∧ ¬ 100 < n2 ∧ 100 < n3)) :
    Calls Tryd.prog 5 #[.slice A1 n1 c1, .slice A2 n2 c2, .slice A3 n3 c3] w (TrueOut w) := by
  have HT := Lib.hid hT
  clear hT
  go_enter Tryd.func5, Tryd.ntmps5
  go_wp2_with fail
  refine (live_any _ HT.out hg).mono ?_
  rintro e w1 ⟨rfl, hb1⟩
  rcases hn with h | h | h
  all_goals
    go_wp2_with fail
    refine (live_any _ (HT.out.below hb1 hg) (by have := hb1.size; omega)).mono ?_
    rintro e w2 ⟨rfl, hb2⟩
    go_wp2
    go_ret
    exact ⟨rfl, hb1.trans (hb2.mono hb1.size)⟩


set_option maxRecDepth 4000 in
set_option maxHeartbeats 2000000 in
theorem branches_core (l1 l2 l3 : List SOp) (A1 A2 A3 : Option Addr) (c1 c2 c3 : Nat) (w : World) (hT : TabAt w) (hg : 0 < w.heap.size) (h1 : ¬ 100 < l1.length) (h2 : ¬ 100 < l2.length) (h3 : ¬ 100 < l3.length)
    (hl1 : OpsIn w.heap.size w A1 l1) (hl2 : OpsIn w.heap.size w A2 l2) (hl3 : OpsIn w.heap.size w A3 l3) :
    Calls Tryd.prog 5 #[.slice A1 l1.length c1, .slice A2 l2.length c2, .slice A3 l3.length c3] w (TrueOut w) := by
  have HT := Lib.hid hT
  have HL1 := Lib.hid hl1
  have HL2 := Lib.hid hl2
  have HL3 := Lib.hid hl3
  have hlen1 : (l1.length : Int) ≤ 100 := by omega
  have hlen2 : (l2.length : Int) ≤ 100 := by omega
  have hlen3 : (l3.length : Int) ≤ 100 := by omega
  clear hT hl1 hl2 hl3
  go_enter Tryd.func5, Tryd.ntmps5
  go_wp2_with fail
  refine (live_any _ HT.out hg).mono ?_
  rintro e w1 ⟨rfl, hb1⟩
  have hz1 := hb1.size
  have HZ := Lib.hid (show Blk (w1.alloc (.cells #[.int .u32 0, .slice none 0 0] 26)) w1.heap.size 26 #[.int .u32 0, .slice none 0 0] from Blk.new w1 _ _)
  go_wp2_with (first | (refine wpList_alloc_blk rfl 33 rfl (.agg (refL m0).toArray) ref_zero ?_; intro w2 HZ2 hb2 HS2))
  have hs2 := HS2.out
  simp only [World.size_alloc] at hs2
  obtain ⟨g, hgd⟩ : ∃ g, g = w1.heap.size := ⟨_, rfl⟩
  obtain ⟨d, hdd⟩ : ∃ d, d = w1.heap.size + 1 := ⟨_, rfl⟩
  obtain ⟨X, hXd⟩ : ∃ X : Nat → Prop, X = fun k => k = g ∨ k = d := ⟨_, rfl⟩
  have hI : Hid (PairInv w X g d m0 w2) := Lib.hid (by
    have hB : Below w.heap.size w w2 := (hb1.alloc hz1 _).trans (hb2.mono (by simp; omega))
    refine ⟨⟨m0_len, by rw [hXd]; exact .inl rfl, by rw [hXd]; exact .inr rfl, by omega, by have h := HZ2.out; simp only [World.size_alloc] at h; rw [hdd]; exact h, none, 0, ?_, ?_⟩, hB, ?_⟩
    · rw [show Sp.bitsL m0 = 0 by decide, show (Sp.vals m0).length = 0 by decide, hgd]
      exact HZ.out.below hb2 (by simp)
    · rw [show Sp.bitsL m0 = 0 by decide, show (Sp.vals m0).length = 0 by decide]
      exact (row_zero w2).more (fun _ h => h.elim) (fun _ h => h.1)
    · intro k hk
      rw [hXd] at hk
      rcases hk with rfl | rfl <;> omega)
  rw [← hdd, ← hgd]
  clear HZ HZ2 HS2 hb1 hb2 hs2 hz1 hgd hdd
  clear hXd
  go_loopw [36] (fun i wr => ∃ k : Nat, k ≤ l1.length ∧ i = .int .i64 k ∧ Hid (PairInv w X g d (runM m0 (l1.take k)) wr)) (fun i _ => (l1.length - intOf i).toNat)
  case atStart => exact ⟨0, by omega, rfl, hI⟩
  case round =>
    obtain ⟨k, hk, rfl, hJ⟩ := hrel
    by_cases hlt : k < l1.length
    · obtain ⟨o, ho⟩ : ∃ o, l1[k]? = some o := ⟨l1[k], List.getElem?_eq_getElem hlt⟩
      obtain ⟨ad, rfl, hadB, hcells⟩ := (HL1.out.below hJ.out.2.1) (by omega)
      obtain ⟨cl1, cl2, cl3⟩ := hcells k o ho
      have HR := Lib.hid (runM_succ m0 l1 k o ho)
      have HM := Lib.hid (runM_len m0_len (l1.take k))
      clear hcells ho
      generalize runM m0 (l1.take k) = M at *
      go_wp2_with fail
      obtain ⟨w5, hw5⟩ : ∃ w5, w5 = wr.alloc (.cells #[.int .i64 o.I, .int .i64 o.X, .bool o.Cut] 42) := ⟨_, rfl⟩
      rw [← hw5]
      have hb5 : Below wr.heap.size wr w5 := by rw [hw5]; exact (Below.refl _ _).alloc (Nat.le_refl _) _
      have hO : Blk w5 wr.heap.size 42 #[.int .i64 o.I, .int .i64 o.X, .bool o.Cut] := by rw [hw5]; exact Blk.new wr _ _
      have q0 := hO.cell 0
      have q1 := hO.cell 1
      have q2 := hO.cell 2
      have hOl := hO.lt
      have hJ5 := Lib.hid (hJ.out.below hb5)
      have hXW := Lib.hid (show ∀ k, X k → k < w5.heap.size from fun k hk => Nat.lt_of_lt_of_le (hJ.out.2.2 k hk).2 hb5.size)
      clear hJ hO hw5 hb5 cl1 cl2 cl3
      obtain ⟨A0, c0, HV, f0, f1, f2, f3, hgl, hdl⟩ := hJ5.out.1.facts
      refine wp_region_ht 6 (fun w' => w'.cell? ⟨g, 0, none⟩ = some (.int .u32 (Sp.bitsL M)) ∧ w'.cell? ⟨g, 1, none⟩ = some (.slice A0 (Sp.vals M).length c0) ∧ w'.cell? ⟨wr.heap.size, 0, none⟩ = some (.int .i64 o.I) ∧ w'.cell? ⟨wr.heap.size, 1, none⟩ = some (.int .i64 o.X) ∧ w'.cell? ⟨wr.heap.size, 2, none⟩ = some (.bool o.Cut) ∧ bcells w'.heap d = (refL M).toArray ∧ Whole 64 w'.heap d ∧ Below w5.heap.size w5 w' ∧ w5.heap.size ≤ w'.heap.size) (by kernel_rfl) (by kernel_rfl) ⟨f0, f1, q0, q1, q2, f2, f3, (Below.refl _ _).drew, Nat.le_refl _⟩ (fun hst hS => ?_)
      refine wpAnyT_take 0 (oi := ⟨_, _, _, _, _, _⟩) (v := ?_) hst rfl (by kernel_rfl) (fun _ _ _ h => h) (Or.inl ⟨by rfl, ?_⟩) hS ?_
      rotate_left
      · (intro w hSw; (try dsimp only at hSw); go_simp; try with_reducible rfl)
      try simp only [Act.put, List.setIfInBounds_toArray, List.set_cons_zero, List.set_cons_succ]
      refine wpAnyT_take 1 (oi := ⟨_, _, _, _, _, _⟩) (v := ?_) hst rfl (by kernel_rfl) (fun _ _ _ h => h) (Or.inl ⟨by rfl, ?_⟩) hS ?_
      rotate_left
      · (intro w hSw; (try dsimp only at hSw); go_simp; try with_reducible rfl)
      try simp only [Act.put, List.setIfInBounds_toArray, List.set_cons_zero, List.set_cons_succ]
      refine wpAnyT_take 3 (oi := ⟨_, _, _, _, _, _⟩) (v := ?_) hst rfl (by kernel_rfl) (fun _ _ _ h => h) (Or.inl ⟨by rfl, ?_⟩) hS ?_
      rotate_left
      · (intro w hSw; (try dsimp only at hSw); go_simp; try with_reducible rfl)
      try simp only [Act.put, List.setIfInBounds_toArray, List.set_cons_zero, List.set_cons_succ]
      refine wpAnyT_take 4 (oi := ⟨_, _, _, _, _, _⟩) (v := ?_) hst rfl (by kernel_rfl) (fun _ _ _ h => h) (Or.inl ⟨by rfl, ?_⟩) hS ?_
      rotate_left
      · (intro w hSw; (try dsimp only at hSw); go_simp; try with_reducible rfl)
      try simp only [Act.put, List.setIfInBounds_toArray, List.set_cons_zero, List.set_cons_succ]
      refine wpAnyT_one 2 (o := ⟨_, _, _, _, _, _⟩) (by kernel_rfl) (by decide) rfl (fun K hK => ?_)
      go_simp
      go_split_ands
      refine (does_rwx (X := X) (fun k hk => Nat.lt_of_lt_of_le (hXW.out k hk) ‹w5.heap.size ≤ _›) (by solve_by_elim (maxDepth := 8) [RwX.up])).mono ?_; rintro e w9 ⟨v8, rfl, hv8, hb9⟩; have hz9 := hb9.size
      go_wp2_with fail
      refine hK.out _ _ (by (try dsimp only at hS); (try dsimp only); go_split_ands; refine ⟨?_, ?_, ?_, ?_, ?_, ?_, ?_, ?_, ?_⟩ <;> first | ((first | rw [hb9.cell (by (try simp) <;> omega)] | rw [bcells_eq (hb9.block _ (by omega))] | refine whole_eq (hb9.block _ (by omega)) ?_); assumption) | (exact Below.trans (by assumption) (hb9.mono (by assumption))) | omega) (fun hS => ?_)
      clear hK K
      try simp only [Act.put, List.setIfInBounds_toArray, List.set_cons_zero, List.set_cons_succ]
      refine wpAnyT_one 5 (o := ⟨_, _, _, _, _, _⟩) (by kernel_rfl) (by decide) rfl (fun K hK => ?_)
      go_simp
      go_split_ands
      refine (should_hid HM).mono ?_; rintro e w9 ⟨rfl, hb9⟩; have hz9 := hb9.size
      go_wp2_with fail
      refine hK.out _ _ (by (try dsimp only at hS); (try dsimp only); go_split_ands; refine ⟨?_, ?_, ?_, ?_, ?_, ?_, ?_, ?_, ?_⟩ <;> first | ((first | rw [hb9.cell (by (try simp) <;> omega)] | rw [bcells_eq (hb9.block _ (by omega))] | refine whole_eq (hb9.block _ (by omega)) ?_); assumption) | (exact Below.trans (by assumption) (hb9.mono (by assumption))) | omega) (fun hS => ?_)
      clear hK K
      try simp only [Act.put, List.setIfInBounds_toArray, List.set_cons_zero, List.set_cons_succ]
      refine wpAnyT_done (by kernel_rfl) ?_
      simp only [List.drop_succ_cons, List.drop_zero]
      try dsimp only at hS
      go_split_ands
      clear hst
      have HV8 : Hid (RwX w9 X (doM M o) v8) := by solve_by_elim (maxDepth := 8) [RwX.up]
      have hJ9 := Lib.hid (hJ5.out.below (by assumption : Below w5.heap.size w5 w9))
      obtain ⟨A8, c8, rfl⟩ := RwX.shape HV8
      obtain ⟨A9, c9, y0, y1, y2, y3, HD⟩ := hJ9.out.1.boxes (.int .u32 (Sp.bitsL (doM M o))) (.slice A8 (Sp.vals (doM M o)).length c8)
      have HM1 := Lib.hid (doM_len (o := o) HM.out)
      clear hv8
      go_wp2_with (first | (refine wpList_store_row rfl 33 (.tmp 8) (.tmp 45) rfl _ rfl _ rfl _ _ HD.out (ref_size _ HM1.out) (by simp [refL_len, HM1.out, HM.out]) (refL_one _) ?_; intro w10 HR10 ho10 hB10))
      have hJ10 := Lib.hid (hJ9.out.stored HM1.out HV8 HR10 ho10 hB10)
      go_roundw
      case rel => exact ⟨k + 1, by omega, by go_num, by rw [HR.out]; exact hJ10⟩
      case measure => simp [intOf]; omega
    · have hkl : k = l1.length := by omega
      subst hkl
      rw [List.take_length] at hJ
      have HM := Lib.hid (runM_len m0_len l1)
      generalize runM m0 l1 = M at *
      clear hI HL1
      obtain ⟨A0, c0, HV, f0, f1, f2, f3, hgl, hdl⟩ := hJ.out.1.facts
      have HG := hJ.out.1.box f1
      go_wp2_with fail
      go_upto_region 10 with fail
      go_cut [11, 12] (fun s11 s12 wx => ∃ p q : Nat, s11 = .pointer (some ⟨p, 0, none⟩) ∧ s12 = .pointer (some ⟨q, 0, none⟩) ∧ ((p = wr.heap.size ∧ q = wr.heap.size + 1) ∨ (p = wr.heap.size + 1 ∧ q = wr.heap.size)) ∧ Hid (Blk wx p 26 #[.int .u32 (Sp.bitsL M), .slice A0 (Sp.vals M).length c0]) ∧ Hid (Blk wx q 26 #[.int .u32 (Sp.bitsL M), .slice A0 (Sp.vals M).length c0]) ∧ Hid (Below wr.heap.size wr wx))
      case first =>
        have n0 := World.new_ne wr ⟨g, 0, none⟩ f0
        have n1 := World.new_ne wr ⟨g, 1, none⟩ f1
        go_region_held3 (fun w' => w'.cell? ⟨g, 0, none⟩ = some (.int .u32 (Sp.bitsL M)) ∧ w'.cell? ⟨g, 1, none⟩ = some (.slice A0 (Sp.vals M).length c0)) (go_keep) (fail)
        all_goals
          rename_i hh
          clear hh n0 n1 f0 f1 f2 f3
          go_wp2_with fail
          go_meet
          obtain ⟨e1, e2, e3⟩ := new_rows wr (.int .u32 (Sp.bitsL M)) (.slice A0 (Sp.vals M).length c0)
          first | exact ⟨_, _, rfl, rfl, .inl ⟨rfl, rfl⟩, e1, e2, e3⟩ | exact ⟨_, _, rfl, rfl, .inr ⟨rfl, rfl⟩, e2, e1, e3⟩
      case rest =>
        obtain ⟨p, q, rfl, rfl, hpq, HP, HQ, HB⟩ := hcut
        obtain ⟨wa, hwa⟩ : ∃ wa, wa = wc := ⟨_, rfl⟩
        subst hwa
        have hJ1 := Lib.hid (hJ.out.below HB.out)
        have hpl := HP.out.lt
        have hql := HQ.out.lt
        clear HV f0 f1 f2 f3
        obtain ⟨_, _, _, _, _, f2, f3, hgl1, hdl1⟩ := hJ1.out.1.facts
        have hr0 : p ≠ q ∧ wr.heap.size ≤ p ∧ wr.heap.size ≤ q := by omega
        obtain ⟨hne, hp0, hq0⟩ := hr0
        clear hpq hgl hdl hgl1
        go_wp2_with fail
        go_upto_region 11 with fail
        go_cut [13, 14] (fun s13 s14 wx => ∃ u v : Nat, s13 = .pointer (some ⟨u, 0, none⟩) ∧ s14 = .pointer (some ⟨v, 0, none⟩) ∧ ((u = wa.heap.size ∧ v = wa.heap.size + 1) ∨ (u = wa.heap.size + 1 ∧ v = wa.heap.size)) ∧ Hid (Blk wx u 33 (refL M).toArray) ∧ Hid (Blk wx v 33 (refL M).toArray) ∧ Hid (Below wa.heap.size wa wx))
        case first =>
          refine wp_region_ht 5 (fun w' => bcells w'.heap d = (refL M).toArray ∧ Whole 64 w'.heap d) (by kernel_rfl) (by kernel_rfl) ⟨f2, f3⟩ (fun hst hS => ?_)
          refine wpAnyT_take 0 (oi := ⟨_, _, _, _, _, _⟩) (v := ?_) hst rfl (by kernel_rfl) (fun _ _ _ h => h) (Or.inl ⟨by rfl, ?_⟩) hS ?_
          rotate_left
          · (intro w hSw; (try dsimp only at hSw); go_simp; try with_reducible rfl)
          try simp only [Act.put, List.setIfInBounds_toArray, List.set_cons_zero, List.set_cons_succ]
          refine wpAnyT_take 1 (oi := ⟨_, _, _, _, _, _⟩) (v := ?_) hst rfl (by kernel_rfl) (fun _ _ _ h => h) (Or.inl ⟨by rfl, ?_⟩) hS ?_
          rotate_left
          · (intro w hSw; (try dsimp only at hSw); go_simp; try with_reducible rfl)
          try simp only [Act.put, List.setIfInBounds_toArray, List.set_cons_zero, List.set_cons_succ]
          refine wpAnyT_two 2 3 (o := ⟨_, _, _, _, _, _⟩) (o' := ⟨_, _, _, _, _, _⟩) (by kernel_rfl) (by decide) rfl rfl (fun K hK => ?_) (fun K hK => ?_)
          · rw [if_pos (by rfl)]
            refine wp_alloc_blk 33 rfl (.agg (refL m0).toArray) ref_zero ?_
            refine hK.out _ _ ⟨(bcells_eq (Below.heap_alloc _ _ _ hdl1)).trans f2, whole_eq (Below.heap_alloc _ _ _ hdl1) f3⟩ (fun hS => ?_)
            clear hK K
            try simp only [Act.put, List.setIfInBounds_toArray, List.set_cons_zero, List.set_cons_succ]
            refine wpAnyT_one 3 (o := ⟨_, _, _, _, _, _⟩) (by kernel_rfl) (by decide) rfl (fun K hK => ?_)
            rw [if_pos (by rfl)]
            refine wp_alloc_blk 33 rfl (.agg (refL m0).toArray) ref_zero ?_
            obtain ⟨e1, e2, e3⟩ := new_refs wa
            have hd6 : d < (wa.drew.alloc (.cells (Value.agg (refL m0).toArray).cells 33)).heap.size := by simp; omega
            refine hK.out _ _ ⟨(bcells_eq ((Below.heap_alloc _ _ _ hd6).trans (Below.heap_alloc _ _ _ hdl1))).trans f2, whole_eq ((Below.heap_alloc _ _ _ hd6).trans (Below.heap_alloc _ _ _ hdl1)) f3⟩ (fun hS => ?_)
            clear hK K
            try simp only [Act.put, List.setIfInBounds_toArray, List.set_cons_zero, List.set_cons_succ]
            simp only [World.size_alloc, World.size_drew]
            generalize (wa.drew.alloc (.cells (Value.agg (refL m0).toArray).cells 33)).alloc (.cells (Value.agg (refL m0).toArray).cells 33) = w6 at *
            refine wpAnyT_one 4 (o := ⟨_, _, _, _, _, _⟩) (by kernel_rfl) (by decide) rfl (fun K hK => ?_)
            rw [if_pos (by rfl)]
            refine wp_store_row 33 (.tmp 13) (.tmp 49) rfl _ rfl _ rfl _ _ e1.out (ref_size _ HM.out) (by simp [refL_len, HM.out, m0_len]) (refL_one _) ?_
            have hu : (wa.heap.size + 1) ≠ wa.heap.size := by omega
            have hd7 : d ≠ wa.heap.size := by omega
            have k1 := Lib.hid (show (w6.setRow wa.heap.size (refL M).toArray).heap[wa.heap.size]? = some (.cells (refL M).toArray 33 (0, 0)) from setRow_heap _ _ _ _ _ _ e1.out)
            have k2 := Lib.hid ((setRow_other w6 wa.heap.size (wa.heap.size + 1) (refL M).toArray hu).trans e2.out)
            have k3 := Lib.hid (below_setRow e3.out (by omega : wa.heap.size ≤ wa.heap.size) (refL M).toArray)
            refine hK.out _ _ ⟨(bcells_eq (setRow_other w6 _ _ _ hd7)).trans hS.1, whole_eq (setRow_other w6 _ _ _ hd7) hS.2⟩ (fun hS => ?_)
            clear hK K
            try simp only [Act.put, List.setIfInBounds_toArray, List.set_cons_zero, List.set_cons_succ]
            generalize w6.setRow wa.heap.size (refL M).toArray = w7 at *
            refine wpAnyT_done (by kernel_rfl) ?_
            simp only [List.drop_succ_cons, List.drop_zero]
            clear hst
            go_wp2_with (first | (refine wpList_store_row rfl 33 (.tmp 14) (.tmp 50) rfl _ rfl _ rfl _ _ k2.out (ref_size _ HM.out) (by simp [refL_len, HM.out, m0_len]) (refL_one _) ?_; intro w10 HR10 ho10 hB10))
            go_meet
            exact ⟨_, _, rfl, rfl, .inl ⟨rfl, rfl⟩, (ho10 _ (Ne.symm hu)).trans k1.out, HR10, hB10 _ _ k3.out (by omega)⟩
          · rw [if_pos (by rfl)]
            refine wp_alloc_blk 33 rfl (.agg (refL m0).toArray) ref_zero ?_
            refine hK.out _ _ ⟨(bcells_eq (Below.heap_alloc _ _ _ hdl1)).trans f2, whole_eq (Below.heap_alloc _ _ _ hdl1) f3⟩ (fun hS => ?_)
            clear hK K
            try simp only [Act.put, List.setIfInBounds_toArray, List.set_cons_zero, List.set_cons_succ]
            refine wpAnyT_one 2 (o := ⟨_, _, _, _, _, _⟩) (by kernel_rfl) (by decide) rfl (fun K hK => ?_)
            rw [if_pos (by rfl)]
            refine wp_alloc_blk 33 rfl (.agg (refL m0).toArray) ref_zero ?_
            obtain ⟨e1, e2, e3⟩ := new_refs wa
            have hd6 : d < (wa.drew.alloc (.cells (Value.agg (refL m0).toArray).cells 33)).heap.size := by simp; omega
            refine hK.out _ _ ⟨(bcells_eq ((Below.heap_alloc _ _ _ hd6).trans (Below.heap_alloc _ _ _ hdl1))).trans f2, whole_eq ((Below.heap_alloc _ _ _ hd6).trans (Below.heap_alloc _ _ _ hdl1)) f3⟩ (fun hS => ?_)
            clear hK K
            try simp only [Act.put, List.setIfInBounds_toArray, List.set_cons_zero, List.set_cons_succ]
            simp only [World.size_alloc, World.size_drew]
            generalize (wa.drew.alloc (.cells (Value.agg (refL m0).toArray).cells 33)).alloc (.cells (Value.agg (refL m0).toArray).cells 33) = w6 at *
            refine wpAnyT_one 4 (o := ⟨_, _, _, _, _, _⟩) (by kernel_rfl) (by decide) rfl (fun K hK => ?_)
            rw [if_pos (by rfl)]
            refine wp_store_row 33 (.tmp 13) (.tmp 49) rfl _ rfl _ rfl _ _ e2.out (ref_size _ HM.out) (by simp [refL_len, HM.out, m0_len]) (refL_one _) ?_
            have hu : wa.heap.size ≠ (wa.heap.size + 1) := by omega
            have hd7 : d ≠ (wa.heap.size + 1) := by omega
            have k1 := Lib.hid (show (w6.setRow (wa.heap.size + 1) (refL M).toArray).heap[(wa.heap.size + 1)]? = some (.cells (refL M).toArray 33 (0, 0)) from setRow_heap _ _ _ _ _ _ e2.out)
            have k2 := Lib.hid ((setRow_other w6 (wa.heap.size + 1) wa.heap.size (refL M).toArray hu).trans e1.out)
            have k3 := Lib.hid (below_setRow e3.out (by omega : wa.heap.size ≤ (wa.heap.size + 1)) (refL M).toArray)
            refine hK.out _ _ ⟨(bcells_eq (setRow_other w6 _ _ _ hd7)).trans hS.1, whole_eq (setRow_other w6 _ _ _ hd7) hS.2⟩ (fun hS => ?_)
            clear hK K
            try simp only [Act.put, List.setIfInBounds_toArray, List.set_cons_zero, List.set_cons_succ]
            generalize w6.setRow (wa.heap.size + 1) (refL M).toArray = w7 at *
            refine wpAnyT_done (by kernel_rfl) ?_
            simp only [List.drop_succ_cons, List.drop_zero]
            clear hst
            go_wp2_with (first | (refine wpList_store_row rfl 33 (.tmp 14) (.tmp 50) rfl _ rfl _ rfl _ _ k2.out (ref_size _ HM.out) (by simp [refL_len, HM.out, m0_len]) (refL_one _) ?_; intro w10 HR10 ho10 hB10))
            go_meet
            exact ⟨_, _, rfl, rfl, .inr ⟨rfl, rfl⟩, (ho10 _ (Ne.symm hu)).trans k1.out, HR10, hB10 _ _ k3.out (by omega)⟩
        case rest =>
          obtain ⟨u, v, rfl, rfl, huv, HU, HV, HB2⟩ := hcut
          have hul := HU.out.lt
          have hvl := HV.out.lt
          have hab := HB.out.size
          have hbc := HB2.out.size
          obtain ⟨huv1, hu0, hv0⟩ : u ≠ v ∧ wa.heap.size ≤ u ∧ wa.heap.size ≤ v := by omega
          obtain ⟨Y, hY⟩ : ∃ Y : Nat → Prop, Y = fun k => X k ∨ k = p ∨ k = q ∨ k = u ∨ k = v := ⟨_, rfl⟩
          have hgX := hJ.out.1.2.1
          have hdX := hJ.out.1.2.2.1
          have hg1 := (hJ.out.2.2 _ hgX).2
          have hd1 := (hJ.out.2.2 _ hdX).2
          have hgd := hJ.out.1.2.2.2.1
          have hBc := HB.out.trans (HB2.out.mono hab)
          have hR := Lib.hid (hJ.out.more (X' := Y) (fun k h => by rw [hY]; exact .inl h) hBc (fun k h1 h2 => by
            rw [hY] at h1
            rcases h1 with h | rfl | rfl | rfl | rfl
            · exact absurd h h2
            all_goals omega))
          have hP := Lib.hid (hR.out.copy (p := p) (u := u) (by rw [hY]; exact .inr (.inl rfl)) (by rw [hY]; exact .inr (.inr (.inr (.inl rfl)))) (by omega) (HG.out.below hBc hg1) (HP.out.below HB2.out hpl) HU.out)
          have hQ := Lib.hid (hR.out.copy (p := q) (u := v) (by rw [hY]; exact .inr (.inr (.inl rfl))) (by rw [hY]; exact .inr (.inr (.inr (.inr rfl)))) (by omega) (HG.out.below hBc hg1) (HQ.out.below HB2.out hql) HV.out)
          have hD := Lib.hid (show (g ≠ p ∧ g ≠ u ∧ d ≠ p ∧ d ≠ u) ∧ (g ≠ q ∧ g ≠ v ∧ d ≠ q ∧ d ≠ v) ∧ (p ≠ q ∧ p ≠ v ∧ u ≠ q ∧ u ≠ v) ∧ (q ≠ p ∧ q ≠ u ∧ v ≠ p ∧ v ≠ u) by omega)
          clear hJ HG HP HQ HU HV HB HB2 hJ1 f2 f3 hY hgX hdX hg1 hd1 hgd hBc hul hvl hab hbc huv huv1 hu0 hv0 hpl hql hdl1 hne hp0 hq0
          go_upto_region 12 with fail
          go_cut [55, 56] (fun s55 s56 wx => ∃ N : Nat, s55 = .int .i64 N ∧ s56 = .int .i64 0 ∧ Hid (l2.length ≤ N ∧ l3.length ≤ N) ∧ N ≤ 100 ∧ Hid (PairInv w Y g d M wx) ∧ Hid (PairInv w Y p u M wx) ∧ Hid (PairInv w Y q v M wx))
          case first =>
            by_cases hm : l2.length < l3.length
            · go_wp2_with fail
              go_meet
              exact ⟨l3.length, rfl, rfl, Lib.hid (by omega), by omega, hR, hP, hQ⟩
            · go_wp2_with fail
              go_meet
              exact ⟨l2.length, rfl, rfl, Lib.hid (by omega), by omega, hR, hP, hQ⟩
          case rest =>
            clear hR hP hQ
            obtain ⟨N, rfl, rfl, hN, hN100, hR, hP, hQ⟩ := hcut
            have hN1 : (N : Int) ≤ 100 := by omega
            go_wp2_with fail
            go_loopw [15, 56] (fun s15 s56 wr => ∃ k : Nat, k ≤ N ∧ s56 = .int .i64 k ∧ Hid (PairInv w Y g d M wr) ∧ Hid (PairInv w Y p u (runM M (l2.take k)) wr) ∧ Hid (PairInv w Y q v (runM M (l3.take k)) wr)) (fun _ i _ => (N - intOf i).toNat)
            case atStart => exact ⟨0, by omega, rfl, hR, hP, hQ⟩
            case round =>
              obtain ⟨k, hk, rfl, hJ1, hJ2, hJ3⟩ := hrel
              by_cases hlt : k < N
              · have hk1 : (k : Int) < N := by omega
                have hkk : (0 : Int) ≤ k := by omega
                go_upto_if 62 with fail
                go_cut [15, 56] from 56 to 91 (fun s15 s56 wx => s15 = .int .i64 k ∧ s56 = .int .i64 k ∧ Hid (PairInv w Y g d M wx) ∧ Hid (PairInv w Y p u (runM M (l2.take (k + 1))) wx) ∧ Hid (PairInv w Y q v (runM M (l3.take k)) wx))
                case first =>
                  by_cases hA : k < l2.length
                  · obtain ⟨o, ho⟩ : ∃ o, l2[k]? = some o := ⟨l2[k], List.getElem?_eq_getElem hA⟩
                    have hA1 : (k : Int) < l2.length := by omega
                    obtain ⟨ad, rfl, hadB, hcells⟩ := (HL2.out.below hJ2.out.2.1) (by omega)
                    obtain ⟨q0, q1, q2⟩ := hcells k o ho
                    have HR := Lib.hid (runM_succ M l2 k o ho)
                    have HM2 := Lib.hid (runM_len HM.out (l2.take k))
                    clear hcells ho
                    obtain ⟨A5, c5, HV, f0, f1, f2, f3, hgl, hdl⟩ := hJ2.out.1.facts
                    have hXW := Lib.hid (show ∀ j, Y j → j < wr.heap.size from fun j hj => (hJ2.out.2.2 j hj).2)
                    have hadW : (ad.add (k * 3)).block < wr.heap.size := by rw [block_of_add]; have := hJ2.out.2.1.size; omega
                    generalize runM M (l2.take k) = MA at *
                    go_wp2_with fail
                    refine wp_region_ht 12 (fun w' => w'.cell? ⟨p, 0, none⟩ = some (.int .u32 (Sp.bitsL MA)) ∧ w'.cell? ⟨p, 1, none⟩ = some (.slice A5 (Sp.vals MA).length c5) ∧ w'.cell? (ad.add (k * 3)) = some (.int .i64 o.I) ∧ w'.cell? ⟨(ad.add (k * 3)).block, (ad.add (k * 3)).off + 1, none⟩ = some (.int .i64 o.X) ∧ w'.cell? ⟨(ad.add (k * 3)).block, (ad.add (k * 3)).off + 2, none⟩ = some (.bool o.Cut) ∧ bcells w'.heap u = (refL MA).toArray ∧ Whole 64 w'.heap u ∧ Below wr.heap.size wr w' ∧ wr.heap.size ≤ w'.heap.size) (by kernel_rfl) (by kernel_rfl) ⟨f0, f1, q0, q1, q2, f2, f3, (Below.refl _ _).drew, Nat.le_refl _⟩ (fun hst hS => ?_)
                    refine wpAnyT_take 0 (oi := ⟨_, _, _, _, _, _⟩) (v := ?_) hst rfl (by kernel_rfl) (fun _ _ _ h => h) (Or.inl ⟨by rfl, ?_⟩) hS ?_
                    rotate_left
                    · (intro w hSw; (try dsimp only at hSw); go_simp; try with_reducible rfl)
                    try simp only [Act.put, List.setIfInBounds_toArray, List.set_cons_zero, List.set_cons_succ]
                    refine wpAnyT_take 1 (oi := ⟨_, _, _, _, _, _⟩) (v := ?_) hst rfl (by kernel_rfl) (fun _ _ _ h => h) (Or.inl ⟨by rfl, ?_⟩) hS ?_
                    rotate_left
                    · (intro w hSw; (try dsimp only at hSw); go_simp; try with_reducible rfl)
                    try simp only [Act.put, List.setIfInBounds_toArray, List.set_cons_zero, List.set_cons_succ]
                    refine wpAnyT_take 2 (oi := ⟨_, _, _, _, _, _⟩) (v := ?_) hst rfl (by kernel_rfl) (fun _ _ _ h => h) (Or.inl ⟨by rfl, ?_⟩) hS ?_
                    rotate_left
                    · (intro w hSw; (try dsimp only at hSw); go_simp; try with_reducible rfl)
                    try simp only [Act.put, List.setIfInBounds_toArray, List.set_cons_zero, List.set_cons_succ]
                    refine wpAnyT_take 3 (oi := ⟨_, _, _, _, _, _⟩) (v := ?_) hst rfl (by kernel_rfl) (fun _ _ _ h => h) (Or.inl ⟨by rfl, ?_⟩) hS ?_
                    rotate_left
                    · (intro w hSw; (try dsimp only at hSw); go_simp; try with_reducible rfl)
                    try simp only [Act.put, List.setIfInBounds_toArray, List.set_cons_zero, List.set_cons_succ]
                    refine wpAnyT_take 4 (oi := ⟨_, _, _, _, _, _⟩) (v := ?_) hst rfl (by kernel_rfl) (fun _ _ _ h => h) (Or.inl ⟨by rfl, ?_⟩) hS ?_
                    rotate_left
                    · (intro w hSw; (try dsimp only at hSw); go_simp; try with_reducible rfl)
                    try simp only [Act.put, List.setIfInBounds_toArray, List.set_cons_zero, List.set_cons_succ]
                    refine wpAnyT_take 6 (oi := ⟨_, _, _, _, _, _⟩) (v := ?_) hst rfl (by kernel_rfl) (fun _ _ _ h => h) (Or.inl ⟨by rfl, ?_⟩) hS ?_
                    rotate_left
                    · (intro w hSw; (try dsimp only at hSw); go_simp; try with_reducible rfl)
                    try simp only [Act.put, List.setIfInBounds_toArray, List.set_cons_zero, List.set_cons_succ]
                    refine wpAnyT_take 7 (oi := ⟨_, _, _, _, _, _⟩) (v := ?_) hst rfl (by kernel_rfl) (fun _ _ _ h => h) (Or.inl ⟨by rfl, ?_⟩) hS ?_
                    rotate_left
                    · (intro w hSw; (try dsimp only at hSw); go_simp; try with_reducible rfl)
                    try simp only [Act.put, List.setIfInBounds_toArray, List.set_cons_zero, List.set_cons_succ]
                    refine wpAnyT_take 8 (oi := ⟨_, _, _, _, _, _⟩) (v := ?_) hst rfl (by kernel_rfl) (fun _ _ _ h => h) (Or.inl ⟨by rfl, ?_⟩) hS ?_
                    rotate_left
                    · (intro w hSw; (try dsimp only at hSw); go_simp; try with_reducible rfl)
                    try simp only [Act.put, List.setIfInBounds_toArray, List.set_cons_zero, List.set_cons_succ]
                    refine wpAnyT_take 9 (oi := ⟨_, _, _, _, _, _⟩) (v := ?_) hst rfl (by kernel_rfl) (fun _ _ _ h => h) (Or.inl ⟨by rfl, ?_⟩) hS ?_
                    rotate_left
                    · (intro w hSw; (try dsimp only at hSw); go_simp; try with_reducible rfl)
                    try simp only [Act.put, List.setIfInBounds_toArray, List.set_cons_zero, List.set_cons_succ]
                    refine wpAnyT_take 10 (oi := ⟨_, _, _, _, _, _⟩) (v := ?_) hst rfl (by kernel_rfl) (fun _ _ _ h => h) (Or.inl ⟨by rfl, ?_⟩) hS ?_
                    rotate_left
                    · (intro w hSw; (try dsimp only at hSw); go_simp; try with_reducible rfl)
                    try simp only [Act.put, List.setIfInBounds_toArray, List.set_cons_zero, List.set_cons_succ]
                    refine wpAnyT_one 5 (o := ⟨_, _, _, _, _, _⟩) (by kernel_rfl) (by decide) rfl (fun K hK => ?_)
                    go_simp
                    go_split_ands
                    refine (does_rwx (X := Y) (fun k hk => Nat.lt_of_lt_of_le (hXW.out k hk) ‹wr.heap.size ≤ _›) (by solve_by_elim (maxDepth := 8) [RwX.up])).mono ?_; rintro e w9 ⟨v8, rfl, hv8, hb9⟩; have hz9 := hb9.size
                    go_wp2_with fail
                    refine hK.out _ _ (by (try dsimp only at hS); (try dsimp only); go_split_ands; refine ⟨?_, ?_, ?_, ?_, ?_, ?_, ?_, ?_, ?_⟩ <;> first | ((first | rw [hb9.cell (by (try simp) <;> omega)] | rw [bcells_eq (hb9.block _ (by omega))] | refine whole_eq (hb9.block _ (by omega)) ?_); assumption) | (exact Below.trans (by assumption) (hb9.mono (by assumption))) | omega) (fun hS => ?_)
                    clear hK K
                    try simp only [Act.put, List.setIfInBounds_toArray, List.set_cons_zero, List.set_cons_succ]
                    refine wpAnyT_one 11 (o := ⟨_, _, _, _, _, _⟩) (by kernel_rfl) (by decide) rfl (fun K hK => ?_)
                    go_simp
                    go_split_ands
                    refine (should_hid HM2).mono ?_; rintro e w9 ⟨rfl, hb9⟩; have hz9 := hb9.size
                    go_wp2_with fail
                    refine hK.out _ _ (by (try dsimp only at hS); (try dsimp only); go_split_ands; refine ⟨?_, ?_, ?_, ?_, ?_, ?_, ?_, ?_, ?_⟩ <;> first | ((first | rw [hb9.cell (by (try simp) <;> omega)] | rw [bcells_eq (hb9.block _ (by omega))] | refine whole_eq (hb9.block _ (by omega)) ?_); assumption) | (exact Below.trans (by assumption) (hb9.mono (by assumption))) | omega) (fun hS => ?_)
                    clear hK K
                    try simp only [Act.put, List.setIfInBounds_toArray, List.set_cons_zero, List.set_cons_succ]
                    refine wpAnyT_done (by kernel_rfl) ?_
                    simp only [List.drop_succ_cons, List.drop_zero]
                    try dsimp only at hS
                    go_split_ands
                    clear hst
                    have HV8 : Hid (RwX w9 Y (doM MA o) v8) := by solve_by_elim (maxDepth := 8) [RwX.up]
                    have hJ9 := Lib.hid (hJ2.out.below (by assumption : Below wr.heap.size wr w9))
                    have hK9 := Lib.hid (hJ1.out.below (by assumption : Below wr.heap.size wr w9))
                    have hL9 := Lib.hid (hJ3.out.below (by assumption : Below wr.heap.size wr w9))
                    obtain ⟨A8, c8, rfl⟩ := RwX.shape HV8
                    obtain ⟨A9, c9, y0, y1, y2, y3, HD⟩ := hJ9.out.1.boxes (.int .u32 (Sp.bitsL (doM MA o))) (.slice A8 (Sp.vals (doM MA o)).length c8)
                    have HM1 := Lib.hid (doM_len (o := o) HM2.out)
                    clear hv8
                    go_wp2_with (first | (refine wpList_store_row rfl 33 (.tmp 13) (.tmp 74) rfl _ rfl _ rfl _ _ HD.out (ref_size _ HM1.out) (by simp [refL_len, HM1.out, HM2.out]) (refL_one _) ?_; intro w10 HR10 ho10 hB10))
                    have hJ10 := Lib.hid (hJ9.out.stored HM1.out HV8 HR10 ho10 hB10)
                    go_meet
                    exact ⟨rfl, rfl, Lib.hid (hK9.out.other hJ9.out hD.out.1.1 hD.out.1.2.1 hD.out.1.2.2.1 hD.out.1.2.2.2 ho10 hB10), by rw [HR.out]; exact hJ10, Lib.hid (hL9.out.other hJ9.out hD.out.2.2.2.1 hD.out.2.2.2.2.1 hD.out.2.2.2.2.2.1 hD.out.2.2.2.2.2.2 ho10 hB10)⟩
                  · have hA1 : ¬ ((k : Int) < l2.length) := by omega
                    go_wp2_with fail
                    go_meet
                    exact ⟨rfl, rfl, hJ1, by rw [runM_past M l2 k (by omega)]; exact hJ2, hJ3⟩
                case rest =>
                  clear hJ1 hJ2 hJ3
                  obtain ⟨rfl, rfl, hJ1, hJ2, hJ3⟩ := hcut
                  by_cases hB : k < l3.length
                  · obtain ⟨o, ho⟩ : ∃ o, l3[k]? = some o := ⟨l3[k], List.getElem?_eq_getElem hB⟩
                    have hA1 : (k : Int) < l3.length := by omega
                    obtain ⟨ad, rfl, hadB, hcells⟩ := (HL3.out.below hJ3.out.2.1) (by omega)
                    obtain ⟨q0, q1, q2⟩ := hcells k o ho
                    have HR := Lib.hid (runM_succ M l3 k o ho)
                    have HM2 := Lib.hid (runM_len HM.out (l3.take k))
                    clear hcells ho
                    obtain ⟨A5, c5, HV, f0, f1, f2, f3, hgl, hdl⟩ := hJ3.out.1.facts
                    have hXW := Lib.hid (show ∀ j, Y j → j < wc.heap.size from fun j hj => (hJ3.out.2.2 j hj).2)
                    have hadW : (ad.add (k * 3)).block < wc.heap.size := by rw [block_of_add]; have := hJ3.out.2.1.size; omega
                    generalize runM M (l3.take k) = MA at *
                    go_wp2_with fail
                    refine wp_region_ht 12 (fun w' => w'.cell? ⟨q, 0, none⟩ = some (.int .u32 (Sp.bitsL MA)) ∧ w'.cell? ⟨q, 1, none⟩ = some (.slice A5 (Sp.vals MA).length c5) ∧ w'.cell? (ad.add (k * 3)) = some (.int .i64 o.I) ∧ w'.cell? ⟨(ad.add (k * 3)).block, (ad.add (k * 3)).off + 1, none⟩ = some (.int .i64 o.X) ∧ w'.cell? ⟨(ad.add (k * 3)).block, (ad.add (k * 3)).off + 2, none⟩ = some (.bool o.Cut) ∧ bcells w'.heap v = (refL MA).toArray ∧ Whole 64 w'.heap v ∧ Below wc.heap.size wc w' ∧ wc.heap.size ≤ w'.heap.size) (by kernel_rfl) (by kernel_rfl) ⟨f0, f1, q0, q1, q2, f2, f3, (Below.refl _ _).drew, Nat.le_refl _⟩ (fun hst hS => ?_)
                    refine wpAnyT_take 0 (oi := ⟨_, _, _, _, _, _⟩) (v := ?_) hst rfl (by kernel_rfl) (fun _ _ _ h => h) (Or.inl ⟨by rfl, ?_⟩) hS ?_
                    rotate_left
                    · (intro w hSw; (try dsimp only at hSw); go_simp; try with_reducible rfl)
                    try simp only [Act.put, List.setIfInBounds_toArray, List.set_cons_zero, List.set_cons_succ]
                    refine wpAnyT_take 1 (oi := ⟨_, _, _, _, _, _⟩) (v := ?_) hst rfl (by kernel_rfl) (fun _ _ _ h => h) (Or.inl ⟨by rfl, ?_⟩) hS ?_
                    rotate_left
                    · (intro w hSw; (try dsimp only at hSw); go_simp; try with_reducible rfl)
                    try simp only [Act.put, List.setIfInBounds_toArray, List.set_cons_zero, List.set_cons_succ]
                    refine wpAnyT_take 2 (oi := ⟨_, _, _, _, _, _⟩) (v := ?_) hst rfl (by kernel_rfl) (fun _ _ _ h => h) (Or.inl ⟨by rfl, ?_⟩) hS ?_
                    rotate_left
                    · (intro w hSw; (try dsimp only at hSw); go_simp; try with_reducible rfl)
                    try simp only [Act.put, List.setIfInBounds_toArray, List.set_cons_zero, List.set_cons_succ]
                    refine wpAnyT_take 3 (oi := ⟨_, _, _, _, _, _⟩) (v := ?_) hst rfl (by kernel_rfl) (fun _ _ _ h => h) (Or.inl ⟨by rfl, ?_⟩) hS ?_
                    rotate_left
                    · (intro w hSw; (try dsimp only at hSw); go_simp; try with_reducible rfl)
                    try simp only [Act.put, List.setIfInBounds_toArray, List.set_cons_zero, List.set_cons_succ]
                    refine wpAnyT_take 4 (oi := ⟨_, _, _, _, _, _⟩) (v := ?_) hst rfl (by kernel_rfl) (fun _ _ _ h => h) (Or.inl ⟨by rfl, ?_⟩) hS ?_
                    rotate_left
                    · (intro w hSw; (try dsimp only at hSw); go_simp; try with_reducible rfl)
                    try simp only [Act.put, List.setIfInBounds_toArray, List.set_cons_zero, List.set_cons_succ]
                    refine wpAnyT_take 6 (oi := ⟨_, _, _, _, _, _⟩) (v := ?_) hst rfl (by kernel_rfl) (fun _ _ _ h => h) (Or.inl ⟨by rfl, ?_⟩) hS ?_
                    rotate_left
                    · (intro w hSw; (try dsimp only at hSw); go_simp; try with_reducible rfl)
                    try simp only [Act.put, List.setIfInBounds_toArray, List.set_cons_zero, List.set_cons_succ]
                    refine wpAnyT_take 7 (oi := ⟨_, _, _, _, _, _⟩) (v := ?_) hst rfl (by kernel_rfl) (fun _ _ _ h => h) (Or.inl ⟨by rfl, ?_⟩) hS ?_
                    rotate_left
                    · (intro w hSw; (try dsimp only at hSw); go_simp; try with_reducible rfl)
                    try simp only [Act.put, List.setIfInBounds_toArray, List.set_cons_zero, List.set_cons_succ]
                    refine wpAnyT_take 8 (oi := ⟨_, _, _, _, _, _⟩) (v := ?_) hst rfl (by kernel_rfl) (fun _ _ _ h => h) (Or.inl ⟨by rfl, ?_⟩) hS ?_
                    rotate_left
                    · (intro w hSw; (try dsimp only at hSw); go_simp; try with_reducible rfl)
                    try simp only [Act.put, List.setIfInBounds_toArray, List.set_cons_zero, List.set_cons_succ]
                    refine wpAnyT_take 9 (oi := ⟨_, _, _, _, _, _⟩) (v := ?_) hst rfl (by kernel_rfl) (fun _ _ _ h => h) (Or.inl ⟨by rfl, ?_⟩) hS ?_
                    rotate_left
                    · (intro w hSw; (try dsimp only at hSw); go_simp; try with_reducible rfl)
                    try simp only [Act.put, List.setIfInBounds_toArray, List.set_cons_zero, List.set_cons_succ]
                    refine wpAnyT_take 10 (oi := ⟨_, _, _, _, _, _⟩) (v := ?_) hst rfl (by kernel_rfl) (fun _ _ _ h => h) (Or.inl ⟨by rfl, ?_⟩) hS ?_
                    rotate_left
                    · (intro w hSw; (try dsimp only at hSw); go_simp; try with_reducible rfl)
                    try simp only [Act.put, List.setIfInBounds_toArray, List.set_cons_zero, List.set_cons_succ]
                    refine wpAnyT_one 5 (o := ⟨_, _, _, _, _, _⟩) (by kernel_rfl) (by decide) rfl (fun K hK => ?_)
                    go_simp
                    go_split_ands
                    refine (does_rwx (X := Y) (fun k hk => Nat.lt_of_lt_of_le (hXW.out k hk) ‹wc.heap.size ≤ _›) (by solve_by_elim (maxDepth := 8) [RwX.up])).mono ?_; rintro e w9 ⟨v8, rfl, hv8, hb9⟩; have hz9 := hb9.size
                    go_wp2_with fail
                    refine hK.out _ _ (by (try dsimp only at hS); (try dsimp only); go_split_ands; refine ⟨?_, ?_, ?_, ?_, ?_, ?_, ?_, ?_, ?_⟩ <;> first | ((first | rw [hb9.cell (by (try simp) <;> omega)] | rw [bcells_eq (hb9.block _ (by omega))] | refine whole_eq (hb9.block _ (by omega)) ?_); assumption) | (exact Below.trans (by assumption) (hb9.mono (by assumption))) | omega) (fun hS => ?_)
                    clear hK K
                    try simp only [Act.put, List.setIfInBounds_toArray, List.set_cons_zero, List.set_cons_succ]
                    refine wpAnyT_one 11 (o := ⟨_, _, _, _, _, _⟩) (by kernel_rfl) (by decide) rfl (fun K hK => ?_)
                    go_simp
                    go_split_ands
                    refine (should_hid HM2).mono ?_; rintro e w9 ⟨rfl, hb9⟩; have hz9 := hb9.size
                    go_wp2_with fail
                    refine hK.out _ _ (by (try dsimp only at hS); (try dsimp only); go_split_ands; refine ⟨?_, ?_, ?_, ?_, ?_, ?_, ?_, ?_, ?_⟩ <;> first | ((first | rw [hb9.cell (by (try simp) <;> omega)] | rw [bcells_eq (hb9.block _ (by omega))] | refine whole_eq (hb9.block _ (by omega)) ?_); assumption) | (exact Below.trans (by assumption) (hb9.mono (by assumption))) | omega) (fun hS => ?_)
                    clear hK K
                    try simp only [Act.put, List.setIfInBounds_toArray, List.set_cons_zero, List.set_cons_succ]
                    refine wpAnyT_done (by kernel_rfl) ?_
                    simp only [List.drop_succ_cons, List.drop_zero]
                    try dsimp only at hS
                    go_split_ands
                    clear hst
                    have HV8 : Hid (RwX w9 Y (doM MA o) v8) := by solve_by_elim (maxDepth := 8) [RwX.up]
                    have hJ9 := Lib.hid (hJ3.out.below (by assumption : Below wc.heap.size wc w9))
                    have hK9 := Lib.hid (hJ1.out.below (by assumption : Below wc.heap.size wc w9))
                    have hL9 := Lib.hid (hJ2.out.below (by assumption : Below wc.heap.size wc w9))
                    obtain ⟨A8, c8, rfl⟩ := RwX.shape HV8
                    obtain ⟨A9, c9, y0, y1, y2, y3, HD⟩ := hJ9.out.1.boxes (.int .u32 (Sp.bitsL (doM MA o))) (.slice A8 (Sp.vals (doM MA o)).length c8)
                    have HM1 := Lib.hid (doM_len (o := o) HM2.out)
                    clear hv8
                    go_wp2_with (first | (refine wpList_store_row rfl 33 (.tmp 14) (.tmp 90) rfl _ rfl _ rfl _ _ HD.out (ref_size _ HM1.out) (by simp [refL_len, HM1.out, HM2.out]) (refL_one _) ?_; intro w10 HR10 ho10 hB10))
                    have hJ10 := Lib.hid (hJ9.out.stored HM1.out HV8 HR10 ho10 hB10)
                    go_roundw
                    case rel => exact ⟨k + 1, by omega, by go_num, Lib.hid (hK9.out.other hJ9.out hD.out.2.1.1 hD.out.2.1.2.1 hD.out.2.1.2.2.1 hD.out.2.1.2.2.2 ho10 hB10), Lib.hid (hL9.out.other hJ9.out hD.out.2.2.1.1 hD.out.2.2.1.2.1 hD.out.2.2.1.2.2.1 hD.out.2.2.1.2.2.2 ho10 hB10), by rw [HR.out]; exact hJ10⟩
                    case measure => simp [intOf]; omega
                  · have hB1 : ¬ ((k : Int) < l3.length) := by omega
                    go_wp2_with fail
                    go_roundw
                    case rel => exact ⟨k + 1, by omega, by go_num, hJ1, hJ2, by rw [runM_past M l3 k (by omega)]; exact hJ3⟩
                    case measure => simp [intOf]; omega
              · have hkN : k = N := by omega
                subst hkN
                generalize runM M (l2.take k) = MP at *
                generalize runM M (l3.take k) = MQ at *
                clear hR hP hQ HL2 HL3
                have hgw : 0 < wr.heap.size := by have := hJ1.out.2.1.size; omega
                have HT1 := Lib.hid (HT.out.below hJ1.out.2.1 hg)
                obtain ⟨A5, c5, HV5, f0, f1, f2, f3, hgl, hdl⟩ := hJ2.out.1.facts
                go_wp2_with fail
                refine (same_two HV5 HT1 hgw).mono ?_
                rintro e w6 ⟨rfl, hb6⟩
                have hK1 := Lib.hid (hJ1.out.below hb6)
                have hK3 := Lib.hid (hJ3.out.below hb6)
                clear f0 f1 f2 f3 hgl hdl HV5 hJ1 hJ2 hJ3 HT1 hb6 hgw
                have hgw : 0 < w6.heap.size := by have := hK1.out.2.1.size; omega
                have HT1 := Lib.hid (HT.out.below hK1.out.2.1 hg)
                obtain ⟨A6, c6, HV6, f0, f1, f2, f3, hgl, hdl⟩ := hK3.out.1.facts
                go_wp2_with fail
                refine (same_two HV6 HT1 hgw).mono ?_
                rintro e w7 ⟨rfl, hb7⟩
                have hJ1 := Lib.hid (hK1.out.below hb7)
                clear f0 f1 f2 f3 hgl hdl HV6 hK1 hK3 HT1 hb7 hgw
                have hgw : 0 < w7.heap.size := by have := hJ1.out.2.1.size; omega
                have HT1 := Lib.hid (HT.out.below hJ1.out.2.1 hg)
                obtain ⟨A7, c7, HV7, f0, f1, f2, f3, hgl, hdl⟩ := hJ1.out.1.facts
                go_wp2_with fail
                refine (same_two HV7 HT1 hgw).mono ?_
                rintro e w8 ⟨rfl, hb8⟩
                have hB8 := Lib.hid (hJ1.out.2.1.trans (hb8.mono hJ1.out.2.1.size))
                clear f0 f1 f2 f3 hgl hdl HV7 hJ1 HT1 hb8 hgw
                go_wp2
                go_ret
                exact ⟨rfl, hB8.out⟩

theorem sparseBranches_any (l1 : List SOp) (A1 : Option Addr) (c1 : Nat) (l2 : List SOp) (A2 : Option Addr) (c2 : Nat) (l3 : List SOp) (A3 : Option Addr) (c3 : Nat) (w : World) (hT : TabAt w) (hg : 0 < w.heap.size)
    (hl1 : OpsIn w.heap.size w A1 l1) (hl2 : OpsIn w.heap.size w A2 l2) (hl3 : OpsIn w.heap.size w A3 l3) :
    Calls Tryd.prog 5 #[.slice A1 l1.length c1, .slice A2 l2.length c2, .slice A3 l3.length c3] w (TrueOut w) := by
  by_cases h1 : 100 < l1.length
  · exact branches_long A1 A2 A3 _ _ _ c1 c2 c3 w hT hg (.inl h1)
  · by_cases h2 : 100 < l2.length
    · exact branches_long A1 A2 A3 _ _ _ c1 c2 c3 w hT hg (.inr (.inl ⟨h1, h2⟩))
    · by_cases h3 : 100 < l3.length
      · exact branches_long A1 A2 A3 _ _ _ c1 c2 c3 w hT hg (.inr (.inr ⟨h1, h2, h3⟩))
      · exact branches_core l1 l2 l3 A1 A2 A3 c1 c2 c3 w hT hg h1 h2 h3 hl1 hl2 hl3
end Go.Proofs.YtbgmlcakdkkfdaaDoor
