/-
  THE WALK of SparseMaps.
-/
import Derived.Test.YtbgmlcakdkkfdaaDoorSpW
import Derived.Deep.DeepCutAuto
import Derived.Deep.CutRange
namespace Go.Proofs.YtbgmlcakdkkfdaaDoor
open Go.RowKit Go.BigFrame Go.Shelf
attribute [local go_sem ↓] exec_load_ref
attribute [local go_sem] isHead_ptr blockOf_ptr drew_heap drewN_heap

theorem tab_up {w w' : World} (h : Hid (TabAt w)) (hb : Below w.heap.size w w') (hg : 0 < w.heap.size) : Hid (TabAt w') := Lib.hid (h.out.below hb hg)

set_option maxHeartbeats 1000000 in
theorem maps_long (n c : Nat) (A : Option Addr) (most : Int) (w : World) (hT : TabAt w) (hg : 0 < w.heap.size) (hn : 100 < n) :
    Calls Tryd.prog 8 #[.slice A n c, .int .i64 most] w (TrueOut w) := by
  have HT := Lib.hid hT
  clear hT
  go_enter Tryd.func8, Tryd.ntmps8
  go_wp2_with fail
  have h2 := (Below.refl w.heap.size w).alloc (Nat.le_refl _) (.cells #[.int .i64 most] 3)
  have hz2 := h2.size
  generalize w.alloc (.cells #[.int .i64 most] 3) = w0 at *
  refine (live_any _ (HT.out.below h2 hg) (by omega)).mono ?_
  rintro e w1 ⟨rfl, hb1⟩
  have hb2 := h2.trans (hb1.mono hz2)
  have hz3 := hb2.size
  go_wp2_with fail
  refine (live_any _ (HT.out.below hb2 hg) (by omega)).mono ?_
  rintro e w2 ⟨rfl, hb3⟩
  go_wp2
  go_ret
  exact ⟨rfl, hb2.trans (hb3.mono hz3)⟩

set_option maxRecDepth 100000 in
set_option maxHeartbeats 2000000 in
theorem maps_core (l : List SOp) (A : Option Addr) (c : Nat) (most : Int) (w : World) (hT : TabAt w) (hg : 0 < w.heap.size) (hn : ¬ 100 < l.length) (hl : OpsIn w.heap.size w A l) :
    Calls Tryd.prog 8 #[.slice A l.length c, .int .i64 most] w (TrueOut w) := by
  have HT := Lib.hid hT
  have HL := Lib.hid hl
  have hlen1 : (l.length : Int) ≤ 100 := by omega
  clear hT hl
  go_enter Tryd.func8, Tryd.ntmps8
  go_wp2_with fail
  have h2 := (Below.refl w.heap.size w).alloc (Nat.le_refl _) (.cells #[.int .i64 most] 3)
  have hz2 := h2.size
  have hfm : Blk (w.alloc (.cells #[.int .i64 most] 3)) w.heap.size 3 #[.int .i64 most] := Blk.new w 3 #[.int .i64 most]
  generalize w.alloc (.cells #[.int .i64 most] 3) = w0 at *
  refine (live_any _ (HT.out.below h2 hg) (by omega)).mono ?_
  rintro e w1 ⟨rfl, hb1⟩
  have HM1 := Lib.hid (hfm.below hb1 hfm.lt)
  have HB1 := Lib.hid (h2.trans (hb1.mono hz2))
  have HT1 := Lib.hid (HT.out.below HB1.out hg)
  have HL1 := Lib.hid (HL.out.below HB1.out)
  have hz1 := HB1.out.size
  have hl4 := HM1.out.lt
  clear h2 hz2 hfm hb1 HT HL w0
  have HZ := Lib.hid (show Blk (w1.alloc (.cells #[.int .u32 0, .slice none 0 0] 26)) w1.heap.size 26 #[.int .u32 0, .slice none 0 0] from Blk.new w1 _ _)
  go_wp2_with (first | (refine wpList_alloc_blk rfl 33 rfl (.agg (refL m0).toArray) ref_zero ?_; intro w2 HZ2 hb2 HS2))
  have hs2 := HS2.out
  simp only [World.size_alloc] at hs2
  obtain ⟨g, hgd⟩ : ∃ g, g = w1.heap.size := ⟨_, rfl⟩
  obtain ⟨d, hdd⟩ : ∃ d, d = w1.heap.size + 1 := ⟨_, rfl⟩
  obtain ⟨X, hXd⟩ : ∃ X : Nat → Prop, X = fun k => k = g ∨ k = d := ⟨_, rfl⟩
  have hI : Hid (PairInv w1 X g d m0 w2) := Lib.hid (by
    have hB : Below w1.heap.size w1 w2 := ((Below.refl _ _).alloc (Nat.le_refl _) _).trans (hb2.mono (by simp))
    refine ⟨⟨m0_len, by rw [hXd]; exact .inl rfl, by rw [hXd]; exact .inr rfl, by omega, by have h := HZ2.out; simp only [World.size_alloc] at h; rw [hdd]; exact h, none, 0, ?_, ?_⟩, hB, ?_⟩
    · rw [show Sp.bitsL m0 = 0 by decide, show (Sp.vals m0).length = 0 by decide, hgd]
      exact HZ.out.below hb2 (by simp)
    · rw [show Sp.bitsL m0 = 0 by decide, show (Sp.vals m0).length = 0 by decide]
      exact (row_zero w2).more (fun _ h => h.elim) (fun _ h => h.1)
    · intro k hk
      rw [hXd] at hk
      rcases hk with rfl | rfl <;> omega)
  try simp only [World.size_alloc]
  rw [← hdd, ← hgd]
  clear HZ HZ2 HS2 hb2 hs2 hgd hdd
  clear hXd
  go_loopw [25] (fun i wr => ∃ k : Nat, k ≤ l.length ∧ i = .int .i64 k ∧ Hid (PairInv w1 X g d (runM m0 (l.take k)) wr)) (fun i _ => (l.length - intOf i).toNat)
  case atStart => exact ⟨0, by omega, rfl, hI⟩
  case round =>
    obtain ⟨k, hk, rfl, hJ⟩ := hrel
    by_cases hlt : k < l.length
    · obtain ⟨o, ho⟩ : ∃ o, l[k]? = some o := ⟨l[k], List.getElem?_eq_getElem hlt⟩
      obtain ⟨ad, rfl, hadB, hcells⟩ := (HL1.out.below (hJ.out.2.1.mono hz1)) (by omega)
      obtain ⟨cl1, cl2, cl3⟩ := hcells k o ho
      have HR := Lib.hid (runM_succ m0 l k o ho)
      have HM := Lib.hid (runM_len m0_len (l.take k))
      clear hcells ho
      generalize runM m0 (l.take k) = M at *
      go_wp2_with fail
      obtain ⟨w5, hw5⟩ : ∃ w5, w5 = wr.alloc (.cells #[.int .i64 o.I, .int .i64 o.X, .bool o.Cut] 42) := ⟨_, rfl⟩
      rw [← hw5]
      have hb5 : Below wr.heap.size wr w5 := by rw [hw5]; exact (Below.refl _ _).alloc (Nat.le_refl _) _
      have hO : Blk w5 wr.heap.size 42 #[.int .i64 o.I, .int .i64 o.X, .bool o.Cut] := by rw [hw5]; exact Blk.new wr _ _
      have q0 := hO.cell 0
      have q1 := hO.cell 1
      have q2 := hO.cell 2
      have hOl := hO.lt
      have hJ5 := Lib.hid (hJ.out.below hb5)
      have hXW := Lib.hid (show ∀ k, X k → k < w5.heap.size from fun k hk => Nat.lt_of_lt_of_le (hJ.out.2.2 k hk).2 hb5.size)
      clear hJ hO hw5 hb5 cl1 cl2 cl3
      obtain ⟨A0, c0, HV, f0, f1, f2, f3, hgl, hdl⟩ := hJ5.out.1.facts
      refine wp_region_ht 6 (fun w' => w'.cell? ⟨g, 0, none⟩ = some (.int .u32 (Sp.bitsL M)) ∧ w'.cell? ⟨g, 1, none⟩ = some (.slice A0 (Sp.vals M).length c0) ∧ w'.cell? ⟨wr.heap.size, 0, none⟩ = some (.int .i64 o.I) ∧ w'.cell? ⟨wr.heap.size, 1, none⟩ = some (.int .i64 o.X) ∧ w'.cell? ⟨wr.heap.size, 2, none⟩ = some (.bool o.Cut) ∧ bcells w'.heap d = (refL M).toArray ∧ Whole 64 w'.heap d ∧ Below w5.heap.size w5 w' ∧ w5.heap.size ≤ w'.heap.size) (by kernel_rfl) (by kernel_rfl) ⟨f0, f1, q0, q1, q2, f2, f3, (Below.refl _ _).drew, Nat.le_refl _⟩ (fun hst hS => ?_)
      refine wpAnyT_take 0 (oi := ⟨_, _, _, _, _, _⟩) (v := ?_) hst rfl (by kernel_rfl) (fun _ _ _ h => h) (Or.inl ⟨by rfl, ?_⟩) hS ?_
      rotate_left
      · (intro w hSw; (try dsimp only at hSw); go_simp; try with_reducible rfl)
      try simp only [Act.put, List.setIfInBounds_toArray, List.set_cons_zero, List.set_cons_succ]
      refine wpAnyT_take 1 (oi := ⟨_, _, _, _, _, _⟩) (v := ?_) hst rfl (by kernel_rfl) (fun _ _ _ h => h) (Or.inl ⟨by rfl, ?_⟩) hS ?_
      rotate_left
      · (intro w hSw; (try dsimp only at hSw); go_simp; try with_reducible rfl)
      try simp only [Act.put, List.setIfInBounds_toArray, List.set_cons_zero, List.set_cons_succ]
      refine wpAnyT_take 3 (oi := ⟨_, _, _, _, _, _⟩) (v := ?_) hst rfl (by kernel_rfl) (fun _ _ _ h => h) (Or.inl ⟨by rfl, ?_⟩) hS ?_
      rotate_left
      · (intro w hSw; (try dsimp only at hSw); go_simp; try with_reducible rfl)
      try simp only [Act.put, List.setIfInBounds_toArray, List.set_cons_zero, List.set_cons_succ]
      refine wpAnyT_take 4 (oi := ⟨_, _, _, _, _, _⟩) (v := ?_) hst rfl (by kernel_rfl) (fun _ _ _ h => h) (Or.inl ⟨by rfl, ?_⟩) hS ?_
      rotate_left
      · (intro w hSw; (try dsimp only at hSw); go_simp; try with_reducible rfl)
      try simp only [Act.put, List.setIfInBounds_toArray, List.set_cons_zero, List.set_cons_succ]
      refine wpAnyT_one 2 (o := ⟨_, _, _, _, _, _⟩) (by kernel_rfl) (by decide) rfl (fun K hK => ?_)
      go_simp
      go_split_ands
      refine (does_rwx (X := X) (fun k hk => Nat.lt_of_lt_of_le (hXW.out k hk) ‹w5.heap.size ≤ _›) (by solve_by_elim (maxDepth := 8) [RwX.up])).mono ?_; rintro e w9 ⟨v8, rfl, hv8, hb9⟩; have hz9 := hb9.size
      go_wp2_with fail
      refine hK.out _ _ (by (try dsimp only at hS); (try dsimp only); go_split_ands; refine ⟨?_, ?_, ?_, ?_, ?_, ?_, ?_, ?_, ?_⟩ <;> first | ((first | rw [hb9.cell (by (try simp) <;> omega)] | rw [bcells_eq (hb9.block _ (by omega))] | refine whole_eq (hb9.block _ (by omega)) ?_); assumption) | (exact Below.trans (by assumption) (hb9.mono (by assumption))) | omega) (fun hS => ?_)
      clear hK K
      try simp only [Act.put, List.setIfInBounds_toArray, List.set_cons_zero, List.set_cons_succ]
      refine wpAnyT_one 5 (o := ⟨_, _, _, _, _, _⟩) (by kernel_rfl) (by decide) rfl (fun K hK => ?_)
      go_simp
      go_split_ands
      refine (should_hid HM).mono ?_; rintro e w9 ⟨rfl, hb9⟩; have hz9 := hb9.size
      go_wp2_with fail
      refine hK.out _ _ (by (try dsimp only at hS); (try dsimp only); go_split_ands; refine ⟨?_, ?_, ?_, ?_, ?_, ?_, ?_, ?_, ?_⟩ <;> first | ((first | rw [hb9.cell (by (try simp) <;> omega)] | rw [bcells_eq (hb9.block _ (by omega))] | refine whole_eq (hb9.block _ (by omega)) ?_); assumption) | (exact Below.trans (by assumption) (hb9.mono (by assumption))) | omega) (fun hS => ?_)
      clear hK K
      try simp only [Act.put, List.setIfInBounds_toArray, List.set_cons_zero, List.set_cons_succ]
      refine wpAnyT_done (by kernel_rfl) ?_
      simp only [List.drop_succ_cons, List.drop_zero]
      try dsimp only at hS
      go_split_ands
      clear hst
      have HV8 : Hid (RwX w9 X (doM M o) v8) := by solve_by_elim (maxDepth := 8) [RwX.up]
      have hJ9 := Lib.hid (hJ5.out.below (by assumption : Below w5.heap.size w5 w9))
      obtain ⟨A8, c8, rfl⟩ := RwX.shape HV8
      obtain ⟨A9, c9, y0, y1, y2, y3, HD⟩ := hJ9.out.1.boxes (.int .u32 (Sp.bitsL (doM M o))) (.slice A8 (Sp.vals (doM M o)).length c8)
      have HM1 := Lib.hid (doM_len (o := o) HM.out)
      clear hv8
      go_wp2_with (first | (refine wpList_store_row rfl 33 (.tmp 6) (.tmp 34) rfl _ rfl _ rfl _ _ HD.out (ref_size _ HM1.out) (by simp [refL_len, HM1.out, HM.out]) (refL_one _) ?_; intro w10 HR10 ho10 hB10))
      have hJ10 := Lib.hid (hJ9.out.stored HM1.out HV8 HR10 ho10 hB10)
      go_roundw
      case rel => exact ⟨k + 1, by omega, by go_num, by rw [HR.out]; exact hJ10⟩
      case measure => simp [intOf]; omega
    · have hkl : k = l.length := by omega
      subst hkl
      rw [List.take_length] at hJ
      have HM := Lib.hid (runM_len m0_len l)
      generalize runM m0 l = M at *
      clear hI HL1
      obtain ⟨A0, c0, HV, f0, f1, f2, f3, hgl, hdl⟩ := hJ.out.1.facts
      have HG := hJ.out.1.box f1
      go_wp2_with fail
      have hz5 := hJ.out.2.1.size
      have HT3 := Lib.hid (HT1.out.below hJ.out.2.1 (by omega))
      have HK3 := Lib.hid (HM1.out.below hJ.out.2.1 (by omega))
      refine (map_any M _ wr _ w.heap.size most (show RowIn _ _ _ _ from HV) HK3.out HT3.out (by omega)).mono ?_
      rintro e w6 ⟨v6, rfl, hv6, hb6⟩
      have HV6 := Lib.hid hv6
      obtain ⟨-, -, A6, c6, rfl, -, -⟩ := hv6
      have HB6 := Lib.hid hb6
      have hz6 := hb6.size
      have HMB := Lib.hid (Sp.mapI_bits (fx most) M)
      generalize hm6 : Sp.mapI (fx most) M = M6 at *
      have HG6 := Lib.hid hm6
      clear hb6 HG HV f0 f1 f2 f3 hm6
      go_wp2_with fail
      obtain ⟨w7, hw7⟩ : ∃ w7, w7 = w6.alloc (.cells #[.int .u32 (Sp.bitsL M6), .slice A6 (Sp.vals M6).length c6] 26) := ⟨_, rfl⟩
      rw [← hw7]
      have hb7 : Below w6.heap.size w6 w7 := by rw [hw7]; exact (Below.refl _ _).alloc (Nat.le_refl _) _
      have HB9 : Hid (Blk w7 w6.heap.size 26 #[.int .u32 (Sp.bitsL M6), .slice A6 (Sp.vals M6).length c6]) := Lib.hid (by rw [hw7]; exact Blk.new w6 _ _)
      have HB7 := Lib.hid (HB6.out.trans (hb7.mono hz6))
      have HV7 := Lib.hid (HV6.out.below hb7)
      have HJ7 := Lib.hid (hJ.out.below HB7.out)
      have HK7 := Lib.hid (HK3.out.below HB7.out HK3.out.lt)
      have HT7 := Lib.hid (HT3.out.below HB7.out (by omega))
      have hz7 := hb7.size
      have h9l := HB9.out.lt
      clear hw7 hb7 HV6 HT3 HK3 hJ HB6 HB7
      go_loopw [39] (fun i wq => ∃ j : Nat, j ≤ 32 ∧ i = .int .i64 j ∧ Hid (Below w7.heap.size w7 wq)) (fun i _ => (32 - intOf i).toNat)
      case atStart => exact ⟨0, by omega, rfl, Lib.hid (Below.refl _ _)⟩
      case round =>
        obtain ⟨j, hj, rfl, hQ⟩ := hrel
        have hzq := hQ.out.size
        by_cases hjt : j < 32
        · have hj1 : (j : Int) < 32 := by omega
          have hgm : Hid (Sp.getM M6 (j : Int) = (Sp.getM M (j : Int)).map (fx most j)) := Lib.hid (by rw [← HG6.out, Sp.mapI_get, Int.toNat_natCast])
          obtain ⟨_, _, _, _, _, f2, f3, _, hdq⟩ := (HJ7.out.below hQ.out).1.facts
          go_wp2_with fail
          refine (refGet_any M j _ HM.out).mono ?_
          rintro e wx ⟨rfl, hbx⟩
          have hQx := Lib.hid (hQ.out.trans (hbx.mono hzq))
          have hzx := hQx.out.size
          clear f2 f3 hbx hQ hzq hdq
          have b9 := HB9.out.below hQx.out h9l
          have e0 : wx.cell? ⟨w6.heap.size, 0, none⟩ = some (.int .u32 (Sp.bitsL M6)) := b9.cell 0
          have e1 : wx.cell? ⟨w6.heap.size, 1, none⟩ = some (.slice A6 (Sp.vals M6).length c6) := b9.cell 1
          clear b9
          go_wp2_with fail
          refine (get_any M6 j _ wx _ (HV7.out.below hQx.out)).mono ?_
          rintro e wy ⟨rfl, hby⟩
          have hQy := Lib.hid (hQx.out.trans (hby.mono hzx))
          have hzy := hQy.out.size
          clear e0 e1 hby hQx hzx
          have k0 : wy.cell? ⟨w.heap.size, 0, none⟩ = some (.int .i64 most) := (HK7.out.below hQy.out HK7.out.lt).cell 0
          rw [hgm.out]
          clear hgm
          cases hq : Sp.getM M (j : Int) with
          | none =>
            simp only [Option.map_none]
            clear hq
            go_wp2_with fail
            go_roundw
            case rel => exact ⟨j + 1, by omega, by go_num, hQy⟩
            case measure => simp [intOf]; omega
          | some y =>
            simp only [Option.map_some, fx]
            clear hq
            go_wp2_with fail
            go_roundw
            case rel => exact ⟨j + 1, by omega, by go_num, hQy⟩
            case measure => simp [intOf]; omega
        · have hj32 : j = 32 := by omega
          subst hj32
          have HJq := Lib.hid (HJ7.out.below hQ.out)
          obtain ⟨A5, c5, HVq, f0, f1, f2, f3, hgq, hdq⟩ := HJq.out.1.facts
          have b9 := HB9.out.below hQ.out h9l
          have e0 : wr.cell? ⟨w6.heap.size, 0, none⟩ = some (.int .u32 (Sp.bitsL M)) := by have := b9.cell 0; rw [HMB.out] at this; exact this
          have e1 : wr.cell? ⟨w6.heap.size, 1, none⟩ = some (.slice A6 (Sp.vals M6).length c6) := b9.cell 1
          have HTq := Lib.hid (HT7.out.below hQ.out (by omega))
          have hlq := b9.lt
          have HBq := Lib.hid HJq.out.2.1
          clear b9 HJq HJ7 HB9 HV7 HK7 HT7 hQ
          have hgt : 0 < wr.heap.size := by omega
          go_wp2_with fail
          go_region_held3 (fun w' => w'.cell? ⟨w6.heap.size, 0, none⟩ = some (.int .u32 (Sp.bitsL M)) ∧ w'.cell? ⟨w6.heap.size, 1, none⟩ = some (.slice A6 (Sp.vals M6).length c6) ∧ w'.cell? ⟨g, 0, none⟩ = some (.int .u32 (Sp.bitsL M)) ∧ w'.cell? ⟨g, 1, none⟩ = some (.slice A5 (Sp.vals M).length c5) ∧ bcells w'.heap d = (refL M).toArray ∧ Whole 64 w'.heap d ∧ Below wr.heap.size wr w' ∧ wr.heap.size ≤ w'.heap.size)
            (first | (exact ⟨e0, e1, f0, f1, f2, f3, (Below.refl _ _).drew, Nat.le_refl _⟩) | (go_split_ands; refine ⟨?_, ?_, ?_, ?_, ?_, ?_, ?_, ?_⟩ <;> first | (rw [hb9.cell (by (try simp) <;> omega)]; assumption) | (rw [bcells_eq (hb9.block _ (by omega))]; assumption) | (exact whole_eq (hb9.block _ (by omega)) (by assumption)) | (exact Below.trans (by assumption) (hb9.mono (by (try simp) <;> omega))) | omega))
            (first | (go_at_call 23; go_split_ands; refine (bits_any _ _ _).mono ?_; rintro e w9 ⟨rfl, hb9⟩; have hz9 := hb9.size) | (go_at_call 24; go_split_ands; refine (refBits_any _ _ HM.out).mono ?_; rintro e w9 ⟨rfl, hb9⟩; have hz9 := hb9.size) | (go_at_call 12; go_split_ands; refine (same_two (X := X) (RwX.up HVq (by assumption)) (tab_up HTq (by assumption) hgt) (by omega)).mono ?_; rintro e w9 ⟨rfl, hb9⟩; have hz9 := hb9.size))
          all_goals (go_split_ands; go_wp2_with fail; go_ret; exact ⟨rfl, HB1.out.trans ((HBq.out.mono (by omega)).trans (Below.mono (by assumption) (by omega)))⟩)

theorem sparseMaps_any (l : List SOp) (A : Option Addr) (c : Nat) (most : Int) (w : World) (hT : TabAt w) (hg : 0 < w.heap.size) (hl : OpsIn w.heap.size w A l) (_ : (Lit.int IntKind.i64 most).wf = true) :
    Calls Tryd.prog 8 #[.slice A l.length c, .int .i64 most] w (TrueOut w) := by
  by_cases hn : 100 < l.length
  · exact maps_long _ _ _ _ _ hT hg hn
  · exact maps_core _ _ _ _ _ hT hg hn hl
end Go.Proofs.YtbgmlcakdkkfdaaDoor
