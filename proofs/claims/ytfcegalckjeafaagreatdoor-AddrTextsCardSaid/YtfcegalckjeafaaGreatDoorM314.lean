/-
  Parts of the proof that AddrBegins,AddrTexts calls on: Wd, We.
-/
import Derived.Test.YtfcegalckjeafaaGreatDoorM308
import Derived.Test.YtfcegalckjeafaaGreatDoorM313
namespace Go.Proofs.YtfcegalckjeafaaGreatDoor
open Go.RowKit Go.BigFrame Go.Shelf
theorem within_zero {x : T} (h : (withinT x).2 = 0) : (withinT x).1 = x := by
  unfold withinT at h ⊢
  split at h
  · cases h
  · split at h
    · cases h
    · rename_i a b; rw [if_neg a, if_neg b]
theorem within_not {x : T} (h : ¬ (withinT x).2 = 0) : (withinT x).1 = T.z := by
  unfold withinT at h ⊢
  split
  · rfl
  · split
    · rfl
    · rename_i a b; rw [if_neg a, if_neg b] at h; exact absurd rfl h
theorem smalls_set {vs : List V} {u : V} {j : Nat} (h : Smalls vs) (hu : 0 ≤ u.bel ∧ u.bel ≤ 100000 ∧ 0 ≤ u.mor ∧ u.mor ≤ 16384) : Smalls (vs.set j u) := fun v hv => by
  rcases List.mem_or_eq_of_mem_set hv with h1 | rfl
  · exact h v h1
  · exact hu
set_option maxRecDepth 100000 in
set_option maxHeartbeats 16000000 in
theorem vset_in (j : Nat) (TT : List UInt8) (xs : List T) (vs : List V) (p : Option Addr) (a y : T) (old u : V) (S : Nat → Prop) (w : World) (hl : TT.length ≤ 1152921504606846968) (hr : IsRope w S vs p) (hxs : IsVs w S xs vs) (hu : IsV w S y u) (ha : xs[j]? = some a) (ho : vs[j]? = some old)
    (hN : nodesL xs ≤ 16384) (hD : depthL xs ≤ 100000) (hyn : y.nodes ≤ 16384) (hyd : y.depth ≤ 100000) :
    Calls Tryz.prog 81 #[V.a ⟨0, 0, [], 4, p, 0, 0, 0, none, depthL xs, nodesL xs⟩, St.a ⟨0, j, TT⟩, u.a] w fun e w' => ∃ u', e = .returned (.tuple #[V.a u', .int .i64 (withinT (.mk 4 0 [] [] (xs.set j y))).2]) ∧ IsV w' (up S w.heap.size) (withinT (.mk 4 0 [] [] (xs.set j y))).1 u' ∧ Below w.heap.size w w' := by
  have hvl := hxs.len
  have hln := len_nodesL xs
  have hj := (List.getElem?_eq_some_iff.1 ho).1
  obtain ⟨ob, om, -⟩ := (hxs.at_ ha ho).sums
  obtain ⟨ub, um, -⟩ := hu.sums
  have t1 := a.depth_eq
  have t2 := a.nodes_eq
  have t3 := y.depth_eq
  have t4 := y.nodes_eq
  have d1 := depthL_mem (List.mem_of_getElem? ha)
  have d2 := nodesL_mem (List.mem_of_getElem? ha)
  have d3 := nodesL_set xs j a y ha
  have d4 := depthL_set_le xs j y
  have HF := Lib.hid (fun W => fits_any ⟨0, 0, [], 4, p, 0, 0, 0, none, depthL xs, nodesL xs⟩ (.mk 4 0 [] [] []) ⟨0, j, TT⟩ W rfl ⟨by decide, by decide⟩)
  have e0 : fitsT (.mk 4 0 [] [] []) ⟨0, j, TT⟩ = 0 := rfl
  rw [e0] at HF
  have HG := Lib.hid (fun W (hW : Below w.heap.size w W) => vget_vec j TT p (depthL xs) (nodesL xs) old true W hl (fun W' hW' => get_ok j old vs p S W' ((hr.keeps (.of_below hW)).keeps (.of_below hW')) ho (by omega)) nofun)
  have HRS := Lib.hid (fun W (hW : Below w.heap.size w W) => rset_ok j u vs p (fun k => S k ∧ k < w.heap.size) W (hr.bound.keeps (.of_below hW)) hj (by omega))
  have HVS := Lib.hid ((hxs.set hu j).bound)
  have HDO := Lib.hid (fun W => depth_any old W ⟨by omega, by omega⟩)
  have HDU := Lib.hid (fun W => depth_any u W ⟨by omega, by omega⟩)
  have HNO := Lib.hid (fun W => nodes_any old W ⟨by omega, by omega⟩)
  have HSM := Lib.hid (smalls_set (j := j) (u := u) (smalls_of hxs hD hN).1 ⟨by omega, by omega, by omega, by omega⟩)
  have HLN : Hid (vs.length ≤ 16384) := Lib.hid (by omega)
  have HCN : Hid (Cn (depthL (xs.set j y) : Int) ∧ Cn (nodesL (xs.set j y) : Int)) := Lib.hid ⟨⟨by omega, by omega⟩, ⟨by omega, by omega⟩⟩
  have HCW : Hid (Cn (depthL xs : Int) ∧ Cn ((nodesL xs : Int) - (old.mor + 1)) ∧ Cn u.bel ∧ Cn u.mor) := Lib.hid ⟨⟨by omega, by omega⟩, ⟨by omega, by omega⟩, ⟨by omega, by omega⟩, ⟨by omega, by omega⟩⟩
  have HSUM0 : Hid (old.bel + 1 ≠ (depthL xs : Int) ∨ (depthL xs : Int) ≤ u.bel + 1 → max (depthL xs : Int) (u.bel + 1) = (depthL (xs.set j y) : Int) ∧ (nodesL xs : Int) - (old.mor + 1) + (u.mor + 1) = (nodesL (xs.set j y) : Int)) := Lib.hid (fun h => by
    have := depthL_set (y := y) ha (by omega)
    omega)
  have b1 : (0 : Int) ≤ old.mor ∧ old.mor + 1 ≤ (nodesL xs : Int) := by omega
  have b2 : (nodesL xs : Int) ≤ 16384 := by omega
  have b3 : (0 : Int) ≤ old.bel ∧ old.bel ≤ 100000 := by omega
  have b4 : (0 : Int) ≤ u.bel ∧ u.bel ≤ 100000 := by omega
  clear hl hr hxs hu ha ho hN hD hyn hyd hvl hln hj ob om ub um d1 d2 d3 d4 e0
  clear t1 t2 t3 t4
  have HB34 := Lib.hid (⟨b1, b2, b3, b4⟩ : (0 ≤ old.mor ∧ old.mor + 1 ≤ (nodesL xs : Int)) ∧ ((nodesL xs : Int) ≤ 16384) ∧ (0 ≤ old.bel ∧ old.bel ≤ 100000) ∧ (0 ≤ u.bel ∧ u.bel ≤ 100000))
  simp only [V.a, St.a] at HF ⊢
  go_enter Tryz.func81, Tryz.ntmps81
  go_wp2_with fail
  refine calls_at fun W hW => ?_
  obtain ⟨hB, hz, HV, HS, HU2, HO⟩ := boxes4 (t4 := 42) (c4 := V.z.l.toArray) hW
  have HZ := Lib.hid hz
  have KEEP : Hid (∀ W', Below W.heap.size W W' → Below w.heap.size w W' ∧ VB W' w.heap.size ⟨0, 0, [], 4, p, 0, 0, 0, none, depthL xs, nodesL xs⟩ ∧ Blk W' (w.heap.size + 1) 48 #[.int .i64 0, .int .i64 j, .string ⟨TT.toArray⟩] ∧ VB W' (w.heap.size + 1 + 1) u ∧ VB W' (w.heap.size + 1 + 1 + 1) V.z) := Lib.hid fun W' h => ⟨hB.trans (h.mono hB.size), Blk.below HV h HV.lt, HS.below h HS.lt, Blk.below HU2 h HU2.lt, Blk.below HO h HO.lt⟩
  refine (HF.out W).mono ?_
  rintro e w2 ⟨rfl, hb2⟩
  obtain ⟨k1, k2, k3, k4, k5⟩ := KEEP.out w2 hb2
  have c3 := k2.cells.2.2.2.1
  have s0 := k3.cell 0
  have s1 := k3.cell 1
  have s2 := k3.cell 2
  simp only [List.getElem?_toArray, List.getElem?_cons_succ, List.getElem?_cons_zero] at s0 s1 s2
  have HB2 := Lib.hid hb2
  have KV2 := Lib.hid k2
  clear hW hB HO HF HV HS HU2 k1 k2 k3 k4 k5 hb2 b1 b2 b3 b4
  go_wp2_with (first
    | (refine wpList_ldl rfl (o := ⟨some 23, _, _, _, _, _⟩) rfl rfl (V.l ⟨0, 0, [], 4, p, 0, 0, 0, none, depthL xs, nodesL xs⟩) isV (fun j u hu => by have := Blk.cell KV2.out j; rw [at_zero, this]; simpa using hu) ?_; simp only [V.l, sv])
    | fail)
  refine (HG.out w2 (KEEP.out w2 HB2.out).1).mono ?_
  rintro e w4 ⟨rfl, hb4⟩
  have HB4 := Lib.hid (HB2.out.trans (hb4.mono HB2.out.size))
  have hz4 := HB4.out.size
  have HW4 : Hid (w.heap.size + 4 ≤ w4.heap.size) := Lib.hid (by have := HZ.out; omega)
  clear hb4 HB2 KV2 c3 s0 s1 s2 HG
  simp only [if_true]
  go_wp2_with (first
    | (refine wpList_stE (E := eV) (o := ⟨none, .store 42 (.tmp 9) _, _, _, _, _⟩) rfl rfl infoV11 rfl old (Blk.new w4 42 V.z.l.toArray) rfl rfl ?_; intro w5 HR5 ho5 hB5; have HB5 := Lib.hid (hB5 _ _ (HB4.out.alloc hz4 (.cells V.z.l.toArray 42)) hz4); have hz5 := Blk.lt HR5.out; clear ho5 hB5; have c3 := (KEEP.out w5 HB5.out).2.1.cells.2.2.2.1; have c4 := (KEEP.out w5 HB5.out).2.1.cells.2.2.2.2.1; have s1 := (KEEP.out w5 HB5.out).2.2.1.cell 1; simp only [List.getElem?_toArray, List.getElem?_cons_succ, List.getElem?_cons_zero] at c3 c4 s1; have KU5 := Lib.hid (KEEP.out w5 HB5.out).2.2.2.1)
    | (refine wpList_ldl rfl (o := ⟨some 43, _, _, _, _, _⟩) rfl rfl u.l isV (fun j u' hu => by have := Blk.cell KU5.out j; rw [at_zero, this]; simpa using hu) ?_)
    | fail)
  refine (HRS.out w5 (KEEP.out w5 HB5.out).1).mono ?_
  rintro e w6 ⟨p', rfl, hp', hb6⟩
  have HB6 := Lib.hid (HB5.out.trans (hb6.mono HB5.out.size))
  have HR6 := Lib.hid (Blk.below HR5.out hb6 (Blk.lt HR5.out))
  have HP6 := Lib.hid hp'
  have c4' := (KEEP.out w6 HB6.out).2.1.cells.2.2.2.2.1
  have f4' := (KEEP.out w6 HB6.out).2.1.frozen 4
  simp only at c4' f4'
  have HZ5 := Lib.hid hz5
  clear hb6 hp' HB5 HR5 c3 c4 s1 KU5 HRS
  go_wp2_with fail
  refine wp_at fun W6 hW6 => ?_
  have KEEP6 : Hid (∀ W', Below W6.heap.size W6 W' → Below w.heap.size w W' ∧ Blk W' w.heap.size 42 #[.int .i64 0, .int .i64 0, .string ⟨[].toArray⟩, .int .i64 4, .pointer p', .int .u64 0, .int .i64 0, .int .i64 0, .pointer none, .int .i64 (depthL xs), .int .i64 (nodesL xs)] ∧ VB W' (w.heap.size + 1 + 1) u ∧ VB W' (w.heap.size + 1 + 1 + 1) V.z ∧ VB W' w4.heap.size old ∧ IsRope W' (up (fun k => S k ∧ k < w.heap.size) w4.heap.size) (vs.set j u) p' ∧ IsVs W' (up (fun k => S k ∧ k < w.heap.size) w4.heap.size) (xs.set j y) (vs.set j u)) := by
    obtain ⟨q1, q2, -, q4, q5⟩ := KEEP.out w6 HB6.out
    have h1 : Below w.heap.size w W6 := by rw [hW6]; exact q1.setCell (Nat.le_refl _) _
    have h2 : Blk W6 w.heap.size 42 #[.int .i64 0, .int .i64 0, .string ⟨[].toArray⟩, .int .i64 4, .pointer p', .int .u64 0, .int .i64 0, .int .i64 0, .pointer none, .int .i64 (depthL xs), .int .i64 (nodesL xs)] := by rw [hW6]; simpa [VB, V.l, sv] using Blk.set_ q2 4 (.pointer p')
    have h3 : VB W6 (w.heap.size + 1 + 1) u := by rw [hW6]; exact Blk.far q4 (p := ⟨w.heap.size, 4, none⟩) (by simp; omega) _
    have h4 : VB W6 (w.heap.size + 1 + 1 + 1) V.z := by rw [hW6]; exact Blk.far q5 (p := ⟨w.heap.size, 4, none⟩) (by simp; omega) _
    have h5 : VB W6 w4.heap.size old := by rw [hW6]; exact Blk.far HR6.out (p := ⟨w.heap.size, 4, none⟩) (by have := HW4.out; simp; omega) _
    have hkp : Keeps (up (fun k => S k ∧ k < w.heap.size) w4.heap.size) w6 W6 := by rw [hW6]; exact keeps_far (fun h => by have := HW4.out; rcases h with h | h <;> omega)
    have h6 := (HP6.out.more (S' := up (fun k => S k ∧ k < w.heap.size) w4.heap.size) (fun k h => by have := HZ5.out; rcases h with h | h; exact .inl h; exact .inr (by omega))).keeps hkp
    have h7 := ((HVS.out.keeps (.of_below q1)).more (S' := up (fun k => S k ∧ k < w.heap.size) w4.heap.size) (fun k h => .inl h)).keeps hkp
    exact fun W' h => ⟨h1.trans (h.mono h1.size), h2.below h h2.lt, Blk.below h3 h (Blk.lt h3), Blk.below h4 h (Blk.lt h4), Blk.below h5 h (Blk.lt h5), h6.keeps (.of_below h), h7.keeps (.of_below h)⟩
  clear hW6 HR6 HP6 c4' f4' HVS HB6
  have K6 := KEEP6.out W6.drew (Below.refl _ _).drew
  obtain ⟨b1, b2, b3, b4⟩ := HB34.out
  by_cases g1 : old.bel + 1 = (depthL xs : Int)
  · have e1 : (old.bel + 1 == (depthL xs : Int)) = true := by simpa using g1
    by_cases e2 : u.bel + 1 < (depthL xs : Int)
    · clear HSUM0 HCW HNO
      refine wp_region_sq 15 [(0, true), (1, true), (2, true), (3, true), (5, true), (6, true), (4, false), (7, true), (8, true), (9, true), (10, true), (12, true), (13, true), (11, false), (14, true)] (fun w' => VB w' w4.heap.size old ∧ VB w' (w.heap.size + 1 + 1) u ∧ w'.cell? ⟨w.heap.size, 9, none⟩ = some (.int .i64 (depthL xs))) (by kernel_rfl) (by kernel_rfl) ⟨K6.2.2.2.2.1, K6.2.2.1, K6.2.1.cell 9⟩ (fun hS => ?_)
      iterate 3 (refine sq_t (o := ⟨_, _, _, _, _, _⟩) (v := ?_) rfl (by rfl) ?_ ?_; rotate_left; (· (intro w hSw; (try dsimp only at hSw); (try obtain ⟨hS1, hS2, hS3⟩ := hSw); go_simp; try with_reducible rfl)); try simp only [Act.put, List.setIfInBounds_toArray, List.set_cons_zero, List.set_cons_succ])
      refine sq_t (o := ⟨_, _, _, _, _, _⟩) (v := V.a old) rfl (by rfl) (fun w' hw' => exec_load_V rfl (by simp [Act.eval]) hw'.1) ?_
      try simp only [Act.put, List.setIfInBounds_toArray, List.set_cons_zero, List.set_cons_succ]
      iterate 2 (refine sq_t (o := ⟨_, _, _, _, _, _⟩) (v := ?_) rfl (by rfl) ?_ ?_; rotate_left; (· (intro w hSw; (try dsimp only at hSw); (try obtain ⟨hS1, hS2, hS3⟩ := hSw); go_simp; try with_reducible rfl)); try simp only [Act.put, List.setIfInBounds_toArray, List.set_cons_zero, List.set_cons_succ])
      refine sq_c rfl (fun K hK => ?_)
      go_simp
      refine (HDO.out _).mono ?_
      rintro e w7 ⟨rfl, hb7⟩
      have HB7 := Lib.hid ((Below.refl _ _).drew.trans hb7)
      have K7 := KEEP6.out w7 HB7.out
      refine hK.out _ _ ⟨K7.2.2.2.2.1, K7.2.2.1, K7.2.1.cell 9⟩ (fun hS => ?_)
      clear hK K
      try simp only [Act.put, List.setIfInBounds_toArray, List.set_cons_zero, List.set_cons_succ]
      refine sq_t (o := ⟨_, _, _, _, _, _⟩) (v := .bool true) rfl (by rfl) (fun w' hw' => by (try dsimp only at hw'); (try obtain ⟨hS1, hS2, hS3⟩ := hw'); go_simp; try exact e1) ?_
      try simp only [Act.put, List.setIfInBounds_toArray, List.set_cons_zero, List.set_cons_succ]
      iterate 2 (refine sq_t (o := ⟨_, _, _, _, _, _⟩) (v := ?_) rfl (by rfl) ?_ ?_; rotate_left; (· (intro w hSw; (try dsimp only at hSw); (try obtain ⟨hS1, hS2, hS3⟩ := hSw); go_simp; try with_reducible rfl)); try simp only [Act.put, List.setIfInBounds_toArray, List.set_cons_zero, List.set_cons_succ])
      refine sq_t (o := ⟨_, _, _, _, _, _⟩) (v := V.a u) rfl (by rfl) (fun w' hw' => exec_load_V rfl (by simp [Act.eval]) hw'.2.1) ?_
      try simp only [Act.put, List.setIfInBounds_toArray, List.set_cons_zero, List.set_cons_succ]
      iterate 2 (refine sq_t (o := ⟨_, _, _, _, _, _⟩) (v := ?_) rfl (by rfl) ?_ ?_; rotate_left; (· (intro w hSw; (try dsimp only at hSw); (try obtain ⟨hS1, hS2, hS3⟩ := hSw); go_simp; try with_reducible rfl)); try simp only [Act.put, List.setIfInBounds_toArray, List.set_cons_zero, List.set_cons_succ])
      refine sq_c rfl (fun K hK => ?_)
      go_simp
      refine (HDU.out _).mono ?_
      rintro e w8 ⟨rfl, hb8⟩
      have HB8 := Lib.hid (HB7.out.trans (hb8.mono HB7.out.size))
      have K8 := KEEP6.out w8 HB8.out
      refine hK.out _ _ ⟨K8.2.2.2.2.1, K8.2.2.1, K8.2.1.cell 9⟩ (fun hS => ?_)
      clear hK K
      try simp only [Act.put, List.setIfInBounds_toArray, List.set_cons_zero, List.set_cons_succ]
      refine sq_t (o := ⟨_, _, _, _, _, _⟩) (v := .bool true) rfl (by rfl) (fun w' hw' => by (try dsimp only at hw'); (try obtain ⟨hS1, hS2, hS3⟩ := hw'); go_simp; try exact e2) ?_
      try simp only [Act.put, List.setIfInBounds_toArray, List.set_cons_zero, List.set_cons_succ]
      simp only [wpSq, List.drop_succ_cons, List.drop_zero]
      clear hS
      have K8v : Hid (VB w8 w.heap.size ⟨0, 0, [], 4, p', 0, 0, 0, none, depthL xs, nodesL xs⟩) := Lib.hid K8.2.1
      have K8s := Lib.hid K8.2.2.2.2.2
      clear K8 K7 K6
      go_wp2_with fail
      refine NoPanic.normal ?_
      go_wp2_with (first
        | (refine wpList_ldl rfl (o := ⟨some 67, _, _, _, _, _⟩) rfl rfl (V.l ⟨0, 0, [], 4, p', 0, 0, 0, none, depthL xs, nodesL xs⟩) isV (fun j u hu => by have := Blk.cell K8v.out j; rw [at_zero, this]; simpa using hu) ?_; simp only [V.l, sv])
        | fail)
      refine (counted_vec ⟨0, 0, [], 4, p', 0, 0, 0, none, depthL xs, nodesL xs⟩ (vs.set j u) (xs.set j y) _ w8 rfl K8s.out.1 K8s.out.2 HSM.out (by simpa using HLN.out)).mono ?_
      rintro e w9 ⟨rfl, hb9⟩
      have HB9 := Lib.hid (HB8.out.trans (hb9.mono HB8.out.size))
      simp only [V.a]
      go_wp2_with fail
      refine (within_any (.mk 4 0 [] [] (xs.set j y)) ⟨0, 0, [], 4, p', 0, 0, 0, none, depthL (xs.set j y), nodesL (xs.set j y)⟩ w9 rfl rfl HCN.out.1 HCN.out.2).mono ?_
      rintro e w10 ⟨rfl, hb10⟩
      have HB10 := Lib.hid (HB9.out.trans (hb10.mono HB9.out.size))
      have K10 := Lib.hid (KEEP6.out w10 HB10.out)
      have KO := Lib.hid K10.out.2.2.2.1
      obtain ⟨U, hU⟩ : ∃ U : V, U = (if (withinT (.mk 4 0 [] [] (xs.set j y))).2 = 0 then ⟨0, 0, [], 4, p', 0, 0, 0, none, depthL (xs.set j y), nodesL (xs.set j y)⟩ else V.z) := ⟨_, rfl⟩
      rw [← hU]
      have HU := Lib.hid hU
      clear hU
      simp only [V.a]
      go_wp2_with (first
        | (refine wpList_stE (E := eV) rfl rfl infoV11 rfl U KO.out rfl rfl ?_; intro w20 HR20 ho20 hB20)
        | fail)
      refine ret_ct (p := 6) (u := 7) rfl rfl rfl HR20.out (by kernel_rfl) rfl ⟨_, rfl, ?_, hB20 _ _ K10.out.1 (by omega)⟩
      have hkp : ∀ W0, (∀ k, k ≠ w.heap.size + 1 + 1 + 1 → w20.heap[k]? = W0.heap[k]?) → Keeps (up (fun k => S k ∧ k < w.heap.size) w4.heap.size) W0 w20 := fun W0 h k _ hs => h k (by have := HW4.out; rcases hs with hs | hs <;> omega)
      have hkk := hkp _ ho20
      rw [HU.out]
      by_cases hc : (withinT (.mk 4 0 [] [] (xs.set j y))).2 = 0
      · rw [if_pos hc, within_zero hc, IsV]
        exact .inr (.inl ⟨rfl, rfl, rfl, rfl, vs.set j u, p', (K10.out.2.2.2.2.2.1.keeps hkk).more (fun k h => by have := HW4.out; rcases h with h | h; exact .inl h.1; exact .inr (by omega)), rfl, (K10.out.2.2.2.2.2.2.keeps hkk).more (fun k h => by have := HW4.out; rcases h with h | h; exact .inl h.1; exact .inr (by omega))⟩)
      · rw [if_neg hc, within_not hc]
        exact isV_z _ _
    · have HSUM := Lib.hid (HSUM0.out (.inr (by omega)))
      clear HSUM0
      refine wp_region_sq 15 [(0, true), (1, true), (2, true), (3, true), (5, true), (6, true), (4, false), (7, true), (8, true), (9, true), (10, true), (12, true), (13, true), (11, false), (14, true)] (fun w' => VB w' w4.heap.size old ∧ VB w' (w.heap.size + 1 + 1) u ∧ w'.cell? ⟨w.heap.size, 9, none⟩ = some (.int .i64 (depthL xs))) (by kernel_rfl) (by kernel_rfl) ⟨K6.2.2.2.2.1, K6.2.2.1, K6.2.1.cell 9⟩ (fun hS => ?_)
      iterate 3 (refine sq_t (o := ⟨_, _, _, _, _, _⟩) (v := ?_) rfl (by rfl) ?_ ?_; rotate_left; (· (intro w hSw; (try dsimp only at hSw); (try obtain ⟨hS1, hS2, hS3⟩ := hSw); go_simp; try with_reducible rfl)); try simp only [Act.put, List.setIfInBounds_toArray, List.set_cons_zero, List.set_cons_succ])
      refine sq_t (o := ⟨_, _, _, _, _, _⟩) (v := V.a old) rfl (by rfl) (fun w' hw' => exec_load_V rfl (by simp [Act.eval]) hw'.1) ?_
      try simp only [Act.put, List.setIfInBounds_toArray, List.set_cons_zero, List.set_cons_succ]
      iterate 2 (refine sq_t (o := ⟨_, _, _, _, _, _⟩) (v := ?_) rfl (by rfl) ?_ ?_; rotate_left; (· (intro w hSw; (try dsimp only at hSw); (try obtain ⟨hS1, hS2, hS3⟩ := hSw); go_simp; try with_reducible rfl)); try simp only [Act.put, List.setIfInBounds_toArray, List.set_cons_zero, List.set_cons_succ])
      refine sq_c rfl (fun K hK => ?_)
      go_simp
      refine (HDO.out _).mono ?_
      rintro e w7 ⟨rfl, hb7⟩
      have HB7 := Lib.hid ((Below.refl _ _).drew.trans hb7)
      have K7 := KEEP6.out w7 HB7.out
      refine hK.out _ _ ⟨K7.2.2.2.2.1, K7.2.2.1, K7.2.1.cell 9⟩ (fun hS => ?_)
      clear hK K
      try simp only [Act.put, List.setIfInBounds_toArray, List.set_cons_zero, List.set_cons_succ]
      refine sq_t (o := ⟨_, _, _, _, _, _⟩) (v := .bool true) rfl (by rfl) (fun w' hw' => by (try dsimp only at hw'); (try obtain ⟨hS1, hS2, hS3⟩ := hw'); go_simp; try exact e1) ?_
      try simp only [Act.put, List.setIfInBounds_toArray, List.set_cons_zero, List.set_cons_succ]
      iterate 2 (refine sq_t (o := ⟨_, _, _, _, _, _⟩) (v := ?_) rfl (by rfl) ?_ ?_; rotate_left; (· (intro w hSw; (try dsimp only at hSw); (try obtain ⟨hS1, hS2, hS3⟩ := hSw); go_simp; try with_reducible rfl)); try simp only [Act.put, List.setIfInBounds_toArray, List.set_cons_zero, List.set_cons_succ])
      refine sq_t (o := ⟨_, _, _, _, _, _⟩) (v := V.a u) rfl (by rfl) (fun w' hw' => exec_load_V rfl (by simp [Act.eval]) hw'.2.1) ?_
      try simp only [Act.put, List.setIfInBounds_toArray, List.set_cons_zero, List.set_cons_succ]
      iterate 2 (refine sq_t (o := ⟨_, _, _, _, _, _⟩) (v := ?_) rfl (by rfl) ?_ ?_; rotate_left; (· (intro w hSw; (try dsimp only at hSw); (try obtain ⟨hS1, hS2, hS3⟩ := hSw); go_simp; try with_reducible rfl)); try simp only [Act.put, List.setIfInBounds_toArray, List.set_cons_zero, List.set_cons_succ])
      refine sq_c rfl (fun K hK => ?_)
      go_simp
      refine (HDU.out _).mono ?_
      rintro e w8 ⟨rfl, hb8⟩
      have HB8 := Lib.hid (HB7.out.trans (hb8.mono HB7.out.size))
      have K8 := KEEP6.out w8 HB8.out
      refine hK.out _ _ ⟨K8.2.2.2.2.1, K8.2.2.1, K8.2.1.cell 9⟩ (fun hS => ?_)
      clear hK K
      try simp only [Act.put, List.setIfInBounds_toArray, List.set_cons_zero, List.set_cons_succ]
      refine sq_t (o := ⟨_, _, _, _, _, _⟩) (v := .bool false) rfl (by rfl) (fun w' hw' => by (try dsimp only at hw'); (try obtain ⟨hS1, hS2, hS3⟩ := hw'); go_simp; try exact e2) ?_
      try simp only [Act.put, List.setIfInBounds_toArray, List.set_cons_zero, List.set_cons_succ]
      simp only [wpSq, List.drop_succ_cons, List.drop_zero]
      clear hS
      have K8m := K8.2.1.cell 10
      have K8o := K8.2.2.2.2.1
      clear K8 K7 K6
      go_wp2_with fail
      refine NoPanic.normal ?_
      go_wp2_with fail
      refine wp_at fun W9 hW9 => ?_
      have hb9 : Below W6.heap.size W6 W9 := by rw [hW9]; first | exact HB8.out | exact HB8.out.drew
      clear hW9
      have K9 := KEEP6.out W9.drew hb9.drew
      refine wp_region_sq 5 [(0, true), (1, true), (2, true), (3, false), (4, true)] (fun w' => w'.cell? ⟨w.heap.size, 10, none⟩ = some (.int .i64 (nodesL xs)) ∧ VB w' w4.heap.size old) (by kernel_rfl) (by kernel_rfl) ⟨K9.2.1.cell 10, K9.2.2.2.2.1⟩ (fun hS => ?_)
      iterate 2 (refine sq_t (o := ⟨_, _, _, _, _, _⟩) (v := ?_) rfl (by rfl) ?_ ?_; rotate_left; (· (intro w hSw; (try dsimp only at hSw); (try obtain ⟨hS1, -⟩ := hSw); go_simp; try with_reducible rfl)); try simp only [Act.put, List.setIfInBounds_toArray, List.set_cons_zero, List.set_cons_succ])
      refine sq_t (o := ⟨_, _, _, _, _, _⟩) (v := V.a old) rfl (by rfl) (fun w' hw' => exec_load_V rfl (by simp [Act.eval]) hw'.2) ?_
      try simp only [Act.put, List.setIfInBounds_toArray, List.set_cons_zero, List.set_cons_succ]
      refine sq_c rfl (fun K hK => ?_)
      go_simp
      refine (HNO.out _).mono ?_
      rintro e w10 ⟨rfl, hb10⟩
      have HB10 := Lib.hid (hb9.trans (((Below.refl _ _).drew.trans hb10).mono hb9.size))
      have K10 := KEEP6.out w10 HB10.out
      refine hK.out _ _ ⟨K10.2.1.cell 10, K10.2.2.2.2.1⟩ (fun hS => ?_)
      clear hK K
      try simp only [Act.put, List.setIfInBounds_toArray, List.set_cons_zero, List.set_cons_succ]
      iterate 1 (refine sq_t (o := ⟨_, _, _, _, _, _⟩) (v := ?_) rfl (by rfl) ?_ ?_; rotate_left; (· (intro w hSw; (try dsimp only at hSw); (try obtain ⟨hS1, -⟩ := hSw); go_simp; try with_reducible rfl)); try simp only [Act.put, List.setIfInBounds_toArray, List.set_cons_zero, List.set_cons_succ])
      simp only [wpSq, List.drop_succ_cons, List.drop_zero]
      have c10 := K10.2.1.cell 10
      have f10 := K10.2.1.frozen 10
      clear hS
      go_wp2_with fail
      refine NoPanic.normal ?_
      obtain ⟨W11, hW11⟩ : ∃ W11, W11 = w10.setCell ⟨w.heap.size, 10, none⟩ (.int .i64 ((nodesL xs : Int) - (old.mor + 1))) := ⟨_, rfl⟩
      rw [← hW11]
      have K11 : Hid (∀ W', Below W11.heap.size W11 W' → Below w.heap.size w W' ∧ VB W' w.heap.size ⟨0, 0, [], 4, p', 0, 0, 0, none, depthL xs, (nodesL xs : Int) - (old.mor + 1)⟩ ∧ VB W' (w.heap.size + 1 + 1) u ∧ VB W' (w.heap.size + 1 + 1 + 1) V.z ∧ IsRope W' (up (fun k => S k ∧ k < w.heap.size) w4.heap.size) (vs.set j u) p' ∧ IsVs W' (up (fun k => S k ∧ k < w.heap.size) w4.heap.size) (xs.set j y) (vs.set j u)) := by
        obtain ⟨q1, q2, q3, q4, q5, q6, q7⟩ := K10
        have h1 : Below w.heap.size w W11 := by rw [hW11]; exact q1.setCell (Nat.le_refl _) _
        have h2 : VB W11 w.heap.size ⟨0, 0, [], 4, p', 0, 0, 0, none, depthL xs, (nodesL xs : Int) - (old.mor + 1)⟩ := by rw [hW11]; have := q2.set_ 10 (.int .i64 ((nodesL xs : Int) - (old.mor + 1))); simpa [VB, V.l, sv] using this
        have h3 : VB W11 (w.heap.size + 1 + 1) u := by rw [hW11]; exact Blk.far q3 (p := ⟨w.heap.size, 10, none⟩) (by simp; omega) _
        have h4 : VB W11 (w.heap.size + 1 + 1 + 1) V.z := by rw [hW11]; exact Blk.far q4 (p := ⟨w.heap.size, 10, none⟩) (by simp; omega) _
        have hkp : Keeps (up (fun k => S k ∧ k < w.heap.size) w4.heap.size) w10 W11 := by rw [hW11]; exact keeps_far (fun h => by have := HW4.out; rcases h with h | h <;> omega)
        exact fun W' h => ⟨h1.trans (h.mono h1.size), Blk.below h2 h (Blk.lt h2), Blk.below h3 h (Blk.lt h3), Blk.below h4 h (Blk.lt h4), (q6.keeps hkp).keeps (.of_below h), (q7.keeps hkp).keeps (.of_below h)⟩
      have K12 := K11.out W11 (Below.refl _ _)
      have K12v := Lib.hid K12.2.1
      have K12u := Lib.hid K12.2.2.1
      clear K12 c10 f10 K10 hW11 K9 K8m K8o
      go_wp2_with (first
        | (refine wpList_ldl rfl (o := ⟨some 80, _, _, _, _, _⟩) rfl rfl (V.l ⟨0, 0, [], 4, p', 0, 0, 0, none, depthL xs, (nodesL xs : Int) - (old.mor + 1)⟩) isV (fun j u hu => by have := Blk.cell K12v.out j; rw [at_zero, this]; simpa using hu) ?_; simp only [V.l, sv])
        | (refine wpList_ldl rfl (o := ⟨some 81, _, _, _, _, _⟩) rfl rfl u.l isV (fun j u' hu => by have := Blk.cell K12u.out j; rw [at_zero, this]; simpa using hu) ?_)
        | fail)
      refine (with_any ⟨0, 0, [], 4, p', 0, 0, 0, none, depthL xs, (nodesL xs : Int) - (old.mor + 1)⟩ u W11 HCW.out.1 HCW.out.2.1 HCW.out.2.2.1 HCW.out.2.2.2).mono ?_
      rintro e w13 ⟨rfl, hb13⟩
      dsimp only
      rw [HSUM.out.1, HSUM.out.2]
      simp only [V.a]
      go_wp2_with fail
      refine (within_any (.mk 4 0 [] [] (xs.set j y)) ⟨0, 0, [], 4, p', 0, 0, 0, none, depthL (xs.set j y), nodesL (xs.set j y)⟩ w13 rfl rfl HCN.out.1 HCN.out.2).mono ?_
      rintro e w14 ⟨rfl, hb14⟩
      have K10 := Lib.hid (K11.out w14 (hb13.trans (hb14.mono hb13.size)))
      have KO := Lib.hid K10.out.2.2.2.1
      obtain ⟨U, hU⟩ : ∃ U : V, U = (if (withinT (.mk 4 0 [] [] (xs.set j y))).2 = 0 then ⟨0, 0, [], 4, p', 0, 0, 0, none, depthL (xs.set j y), nodesL (xs.set j y)⟩ else V.z) := ⟨_, rfl⟩
      rw [← hU]
      have HU := Lib.hid hU
      clear hU
      simp only [V.a]
      go_wp2_with (first
        | (refine wpList_stE (E := eV) rfl rfl infoV11 rfl U KO.out rfl rfl ?_; intro w20 HR20 ho20 hB20)
        | fail)
      refine ret_ct (p := 6) (u := 7) rfl rfl rfl HR20.out (by kernel_rfl) rfl ⟨_, rfl, ?_, hB20 _ _ K10.out.1 (by omega)⟩
      have hkp : ∀ W0, (∀ k, k ≠ w.heap.size + 1 + 1 + 1 → w20.heap[k]? = W0.heap[k]?) → Keeps (up (fun k => S k ∧ k < w.heap.size) w4.heap.size) W0 w20 := fun W0 h k _ hs => h k (by have := HW4.out; rcases hs with hs | hs <;> omega)
      have hkk := hkp _ ho20
      rw [HU.out]
      by_cases hc : (withinT (.mk 4 0 [] [] (xs.set j y))).2 = 0
      · rw [if_pos hc, within_zero hc, IsV]
        exact .inr (.inl ⟨rfl, rfl, rfl, rfl, vs.set j u, p', (K10.out.2.2.2.2.1.keeps hkk).more (fun k h => by have := HW4.out; rcases h with h | h; exact .inl h.1; exact .inr (by omega)), rfl, (K10.out.2.2.2.2.2.keeps hkk).more (fun k h => by have := HW4.out; rcases h with h | h; exact .inl h.1; exact .inr (by omega))⟩)
      · rw [if_neg hc, within_not hc]
        exact isV_z _ _
  · have e1 : (old.bel + 1 == (depthL xs : Int)) = false := by simpa using g1
    have HSUM := Lib.hid (HSUM0.out (.inl g1))
    clear HSUM0
    refine wp_region_sq 15 [(0, true), (1, true), (2, true), (3, true), (5, true), (6, true), (4, false), (7, true), (8, true), (9, true), (10, true), (12, true), (13, true), (11, false), (14, true)] (fun w' => VB w' w4.heap.size old ∧ VB w' (w.heap.size + 1 + 1) u ∧ w'.cell? ⟨w.heap.size, 9, none⟩ = some (.int .i64 (depthL xs))) (by kernel_rfl) (by kernel_rfl) ⟨K6.2.2.2.2.1, K6.2.2.1, K6.2.1.cell 9⟩ (fun hS => ?_)
    iterate 3 (refine sq_t (o := ⟨_, _, _, _, _, _⟩) (v := ?_) rfl (by rfl) ?_ ?_; rotate_left; (· (intro w hSw; (try dsimp only at hSw); (try obtain ⟨hS1, hS2, hS3⟩ := hSw); go_simp; try with_reducible rfl)); try simp only [Act.put, List.setIfInBounds_toArray, List.set_cons_zero, List.set_cons_succ])
    refine sq_t (o := ⟨_, _, _, _, _, _⟩) (v := V.a old) rfl (by rfl) (fun w' hw' => exec_load_V rfl (by simp [Act.eval]) hw'.1) ?_
    try simp only [Act.put, List.setIfInBounds_toArray, List.set_cons_zero, List.set_cons_succ]
    iterate 2 (refine sq_t (o := ⟨_, _, _, _, _, _⟩) (v := ?_) rfl (by rfl) ?_ ?_; rotate_left; (· (intro w hSw; (try dsimp only at hSw); (try obtain ⟨hS1, hS2, hS3⟩ := hSw); go_simp; try with_reducible rfl)); try simp only [Act.put, List.setIfInBounds_toArray, List.set_cons_zero, List.set_cons_succ])
    refine sq_c rfl (fun K hK => ?_)
    go_simp
    refine (HDO.out _).mono ?_
    rintro e w7 ⟨rfl, hb7⟩
    have HB7 := Lib.hid ((Below.refl _ _).drew.trans hb7)
    have K7 := KEEP6.out w7 HB7.out
    refine hK.out _ _ ⟨K7.2.2.2.2.1, K7.2.2.1, K7.2.1.cell 9⟩ (fun hS => ?_)
    clear hK K
    try simp only [Act.put, List.setIfInBounds_toArray, List.set_cons_zero, List.set_cons_succ]
    refine sq_t (o := ⟨_, _, _, _, _, _⟩) (v := .bool false) rfl (by rfl) (fun w' hw' => by (try dsimp only at hw'); (try obtain ⟨hS1, hS2, hS3⟩ := hw'); go_simp; try exact e1) ?_
    try simp only [Act.put, List.setIfInBounds_toArray, List.set_cons_zero, List.set_cons_succ]
    iterate 2 (refine sq_t (o := ⟨_, _, _, _, _, _⟩) (v := ?_) rfl (by rfl) ?_ ?_; rotate_left; (· (intro w hSw; (try dsimp only at hSw); (try obtain ⟨hS1, hS2, hS3⟩ := hSw); go_simp; try with_reducible rfl)); try simp only [Act.put, List.setIfInBounds_toArray, List.set_cons_zero, List.set_cons_succ])
    refine sq_n (o := ⟨_, _, _, _, _, _⟩) rfl (by rfl) ?_
    try simp only [Act.put, List.setIfInBounds_toArray, List.set_cons_zero, List.set_cons_succ]
    refine sq_n (o := ⟨_, _, _, _, _, _⟩) rfl (by rfl) ?_
    try simp only [Act.put, List.setIfInBounds_toArray, List.set_cons_zero, List.set_cons_succ]
    refine sq_n (o := ⟨_, _, _, _, _, _⟩) rfl (by rfl) ?_
    try simp only [Act.put, List.setIfInBounds_toArray, List.set_cons_zero, List.set_cons_succ]
    refine sq_c rfl (fun K hK => ?_)
    refine if_not (by rfl) ?_
    have HB8 := HB7
    have K8 := K7
    obtain ⟨w8, hw8⟩ : ∃ w8, w8 = w7 := ⟨_, rfl⟩
    rw [← hw8] at K8 HB8 ⊢
    refine hK.out _ _ ⟨K8.2.2.2.2.1, K8.2.2.1, K8.2.1.cell 9⟩ (fun hS => ?_)
    clear hK K hw8
    try simp only [Act.put, List.setIfInBounds_toArray]
    refine sq_n (o := ⟨_, _, _, _, _, _⟩) rfl (by rfl) ?_
    try simp only [Act.put]
    simp only [wpSq, List.drop_succ_cons, List.drop_zero]
    clear hS
    have K8m := K8.2.1.cell 10
    have K8o := K8.2.2.2.2.1
    clear K8 K7 K6
    go_wp2_with fail
    refine NoPanic.normal ?_
    go_wp2_with fail
    refine wp_at fun W9 hW9 => ?_
    have hb9 : Below W6.heap.size W6 W9 := by rw [hW9]; first | exact HB8.out | exact HB8.out.drew
    clear hW9
    have K9 := KEEP6.out W9.drew hb9.drew
    refine wp_region_sq 5 [(0, true), (1, true), (2, true), (3, false), (4, true)] (fun w' => w'.cell? ⟨w.heap.size, 10, none⟩ = some (.int .i64 (nodesL xs)) ∧ VB w' w4.heap.size old) (by kernel_rfl) (by kernel_rfl) ⟨K9.2.1.cell 10, K9.2.2.2.2.1⟩ (fun hS => ?_)
    iterate 2 (refine sq_t (o := ⟨_, _, _, _, _, _⟩) (v := ?_) rfl (by rfl) ?_ ?_; rotate_left; (· (intro w hSw; (try dsimp only at hSw); (try obtain ⟨hS1, -⟩ := hSw); go_simp; try with_reducible rfl)); try simp only [Act.put, List.setIfInBounds_toArray, List.set_cons_zero, List.set_cons_succ])
    refine sq_t (o := ⟨_, _, _, _, _, _⟩) (v := V.a old) rfl (by rfl) (fun w' hw' => exec_load_V rfl (by simp [Act.eval]) hw'.2) ?_
    try simp only [Act.put, List.setIfInBounds_toArray, List.set_cons_zero, List.set_cons_succ]
    refine sq_c rfl (fun K hK => ?_)
    go_simp
    refine (HNO.out _).mono ?_
    rintro e w10 ⟨rfl, hb10⟩
    have HB10 := Lib.hid (hb9.trans (((Below.refl _ _).drew.trans hb10).mono hb9.size))
    have K10 := KEEP6.out w10 HB10.out
    refine hK.out _ _ ⟨K10.2.1.cell 10, K10.2.2.2.2.1⟩ (fun hS => ?_)
    clear hK K
    try simp only [Act.put, List.setIfInBounds_toArray, List.set_cons_zero, List.set_cons_succ]
    iterate 1 (refine sq_t (o := ⟨_, _, _, _, _, _⟩) (v := ?_) rfl (by rfl) ?_ ?_; rotate_left; (· (intro w hSw; (try dsimp only at hSw); (try obtain ⟨hS1, -⟩ := hSw); go_simp; try with_reducible rfl)); try simp only [Act.put, List.setIfInBounds_toArray, List.set_cons_zero, List.set_cons_succ])
    simp only [wpSq, List.drop_succ_cons, List.drop_zero]
    have c10 := K10.2.1.cell 10
    have f10 := K10.2.1.frozen 10
    clear hS
    go_wp2_with fail
    refine NoPanic.normal ?_
    obtain ⟨W11, hW11⟩ : ∃ W11, W11 = w10.setCell ⟨w.heap.size, 10, none⟩ (.int .i64 ((nodesL xs : Int) - (old.mor + 1))) := ⟨_, rfl⟩
    rw [← hW11]
    have K11 : Hid (∀ W', Below W11.heap.size W11 W' → Below w.heap.size w W' ∧ VB W' w.heap.size ⟨0, 0, [], 4, p', 0, 0, 0, none, depthL xs, (nodesL xs : Int) - (old.mor + 1)⟩ ∧ VB W' (w.heap.size + 1 + 1) u ∧ VB W' (w.heap.size + 1 + 1 + 1) V.z ∧ IsRope W' (up (fun k => S k ∧ k < w.heap.size) w4.heap.size) (vs.set j u) p' ∧ IsVs W' (up (fun k => S k ∧ k < w.heap.size) w4.heap.size) (xs.set j y) (vs.set j u)) := by
      obtain ⟨q1, q2, q3, q4, q5, q6, q7⟩ := K10
      have h1 : Below w.heap.size w W11 := by rw [hW11]; exact q1.setCell (Nat.le_refl _) _
      have h2 : VB W11 w.heap.size ⟨0, 0, [], 4, p', 0, 0, 0, none, depthL xs, (nodesL xs : Int) - (old.mor + 1)⟩ := by rw [hW11]; have := q2.set_ 10 (.int .i64 ((nodesL xs : Int) - (old.mor + 1))); simpa [VB, V.l, sv] using this
      have h3 : VB W11 (w.heap.size + 1 + 1) u := by rw [hW11]; exact Blk.far q3 (p := ⟨w.heap.size, 10, none⟩) (by simp; omega) _
      have h4 : VB W11 (w.heap.size + 1 + 1 + 1) V.z := by rw [hW11]; exact Blk.far q4 (p := ⟨w.heap.size, 10, none⟩) (by simp; omega) _
      have hkp : Keeps (up (fun k => S k ∧ k < w.heap.size) w4.heap.size) w10 W11 := by rw [hW11]; exact keeps_far (fun h => by have := HW4.out; rcases h with h | h <;> omega)
      exact fun W' h => ⟨h1.trans (h.mono h1.size), Blk.below h2 h (Blk.lt h2), Blk.below h3 h (Blk.lt h3), Blk.below h4 h (Blk.lt h4), (q6.keeps hkp).keeps (.of_below h), (q7.keeps hkp).keeps (.of_below h)⟩
    have K12 := K11.out W11 (Below.refl _ _)
    have K12v := Lib.hid K12.2.1
    have K12u := Lib.hid K12.2.2.1
    clear K12 c10 f10 K10 hW11 K9 K8m K8o
    go_wp2_with (first
      | (refine wpList_ldl rfl (o := ⟨some 80, _, _, _, _, _⟩) rfl rfl (V.l ⟨0, 0, [], 4, p', 0, 0, 0, none, depthL xs, (nodesL xs : Int) - (old.mor + 1)⟩) isV (fun j u hu => by have := Blk.cell K12v.out j; rw [at_zero, this]; simpa using hu) ?_; simp only [V.l, sv])
      | (refine wpList_ldl rfl (o := ⟨some 81, _, _, _, _, _⟩) rfl rfl u.l isV (fun j u' hu => by have := Blk.cell K12u.out j; rw [at_zero, this]; simpa using hu) ?_)
      | fail)
    refine (with_any ⟨0, 0, [], 4, p', 0, 0, 0, none, depthL xs, (nodesL xs : Int) - (old.mor + 1)⟩ u W11 HCW.out.1 HCW.out.2.1 HCW.out.2.2.1 HCW.out.2.2.2).mono ?_
    rintro e w13 ⟨rfl, hb13⟩
    dsimp only
    rw [HSUM.out.1, HSUM.out.2]
    simp only [V.a]
    go_wp2_with fail
    refine (within_any (.mk 4 0 [] [] (xs.set j y)) ⟨0, 0, [], 4, p', 0, 0, 0, none, depthL (xs.set j y), nodesL (xs.set j y)⟩ w13 rfl rfl HCN.out.1 HCN.out.2).mono ?_
    rintro e w14 ⟨rfl, hb14⟩
    have K10 := Lib.hid (K11.out w14 (hb13.trans (hb14.mono hb13.size)))
    have KO := Lib.hid K10.out.2.2.2.1
    obtain ⟨U, hU⟩ : ∃ U : V, U = (if (withinT (.mk 4 0 [] [] (xs.set j y))).2 = 0 then ⟨0, 0, [], 4, p', 0, 0, 0, none, depthL (xs.set j y), nodesL (xs.set j y)⟩ else V.z) := ⟨_, rfl⟩
    rw [← hU]
    have HU := Lib.hid hU
    clear hU
    simp only [V.a]
    go_wp2_with (first
      | (refine wpList_stE (E := eV) rfl rfl infoV11 rfl U KO.out rfl rfl ?_; intro w20 HR20 ho20 hB20)
      | fail)
    refine ret_ct (p := 6) (u := 7) rfl rfl rfl HR20.out (by kernel_rfl) rfl ⟨_, rfl, ?_, hB20 _ _ K10.out.1 (by omega)⟩
    have hkp : ∀ W0, (∀ k, k ≠ w.heap.size + 1 + 1 + 1 → w20.heap[k]? = W0.heap[k]?) → Keeps (up (fun k => S k ∧ k < w.heap.size) w4.heap.size) W0 w20 := fun W0 h k _ hs => h k (by have := HW4.out; rcases hs with hs | hs <;> omega)
    have hkk := hkp _ ho20
    rw [HU.out]
    by_cases hc : (withinT (.mk 4 0 [] [] (xs.set j y))).2 = 0
    · rw [if_pos hc, within_zero hc, IsV]
      exact .inr (.inl ⟨rfl, rfl, rfl, rfl, vs.set j u, p', (K10.out.2.2.2.2.1.keeps hkk).more (fun k h => by have := HW4.out; rcases h with h | h; exact .inl h.1; exact .inr (by omega)), rfl, (K10.out.2.2.2.2.2.keeps hkk).more (fun k h => by have := HW4.out; rcases h with h | h; exact .inl h.1; exact .inr (by omega))⟩)
    · rw [if_neg hc, within_not hc]
      exact isV_z _ _
end Go.Proofs.YtfcegalckjeafaaGreatDoor
namespace Go.Proofs.YtfcegalckjeafaaGreatDoor
open Go.RowKit Go.BigFrame Go.Shelf
def SetOut (w : World) (S : Nat → Prop) (x : T × Int) (e : Ending) (w' : World) : Prop := ∃ u, e = .returned (.tuple #[V.a u, .int .i64 x.2]) ∧ IsV w' (up S w.heap.size) x.1 u ∧ Below w.heap.size w w'
set_option maxRecDepth 100000 in
set_option maxHeartbeats 4000000 in
theorem vset_bad (x y : T) (v u : V) (s : St) (S : Nat → Prop) (w : World) (hv : v.kd = x.k) (hk : 0 ≤ x.k ∧ x.k ≤ 6) (hf : fitsT x s ≠ 0) :
    Calls Tryz.prog 81 #[v.a, s.a, u.a] w (SetOut w S (setT x s y)) := by
  have HF := Lib.hid (fun W => fits_any v x s W hv hk)
  have hg : setT x s y = (T.z, fitsT x s) := by rw [setT, if_pos hf]
  rw [hg]
  generalize fitsT x s = c at *
  have hc : (c == 0) = false := by simpa using hf
  clear hg hf hv hk
  simp only [V.a, St.a] at HF ⊢
  go_enter Tryz.func81, Tryz.ntmps81
  go_wp2_with fail
  refine calls_at fun W hW => ?_
  obtain ⟨hB, hz, -, -, -, HO⟩ := boxes4 (t4 := 42) (c4 := V.z.l.toArray) hW
  refine (HF.out W).mono ?_
  rintro e w2 ⟨rfl, hb2⟩
  have HO2 := Lib.hid (HO.below hb2 HO.lt)
  have HB2 := Lib.hid (hB.trans (hb2.mono hB.size))
  clear hW hb2 hB HO HF
  go_wp2_with (first
    | (refine wpList_stE (E := eV) rfl rfl infoV11 rfl V.z HO2.out rfl rfl ?_; intro w8 HR8 ho8 hB8)
    | fail)
  exact ret_ct (p := 6) (u := 7) rfl rfl rfl HR8.out (by kernel_rfl) rfl ⟨V.z, rfl, isV_z _ _, hB8 _ _ HB2.out (by omega)⟩
set_option maxRecDepth 100000 in
set_option maxHeartbeats 8000000 in
theorem vset_oob (i : Int) (TT : List UInt8) (vs : List V) (p : Option Addr) (bel mor : Int) (u : V) (S : Nat → Prop) (w : World) (hl : TT.length ≤ 1152921504606846968) (hr : IsRope w S vs p) (hi : inB i vs.length = false) :
    Calls Tryz.prog 81 #[V.a ⟨0, 0, [], 4, p, 0, 0, 0, none, bel, mor⟩, St.a ⟨0, i, TT⟩, u.a] w (SetOut w S (T.z, 5)) := by
  have HF := Lib.hid (fun W => fits_any ⟨0, 0, [], 4, p, 0, 0, 0, none, bel, mor⟩ (.mk 4 0 [] [] []) ⟨0, i, TT⟩ W rfl ⟨by decide, by decide⟩)
  have e0 : fitsT (.mk 4 0 [] [] []) ⟨0, i, TT⟩ = 0 := rfl
  rw [e0] at HF
  have HG := Lib.hid (fun W (hW : Below w.heap.size w W) => vget_vec i TT p bel mor V.z false W hl (fun W' hW' => get_bad i vs p S W' ((hr.keeps (.of_below hW)).keeps (.of_below hW')) hi) (fun _ => rfl))
  have HRS := Lib.hid (fun W (hW : Below w.heap.size w W) => rset_bad i u vs p S W (hr.keeps (.of_below hW)) hi)
  clear hl hr hi e0
  simp only [V.a, St.a] at HF ⊢
  go_enter Tryz.func81, Tryz.ntmps81
  go_wp2_with fail
  refine calls_at fun W hW => ?_
  obtain ⟨hB, hz, HV, HS, HU2, HO⟩ := boxes4 (t4 := 42) (c4 := V.z.l.toArray) hW
  have HZ := Lib.hid hz
  have KEEP : Hid (∀ W', Below W.heap.size W W' → Below w.heap.size w W' ∧ VB W' w.heap.size ⟨0, 0, [], 4, p, 0, 0, 0, none, bel, mor⟩ ∧ Blk W' (w.heap.size + 1) 48 #[.int .i64 0, .int .i64 i, .string ⟨TT.toArray⟩] ∧ VB W' (w.heap.size + 1 + 1) u ∧ VB W' (w.heap.size + 1 + 1 + 1) V.z) := Lib.hid fun W' h => ⟨hB.trans (h.mono hB.size), Blk.below HV h HV.lt, HS.below h HS.lt, Blk.below HU2 h HU2.lt, Blk.below HO h HO.lt⟩
  refine (HF.out W).mono ?_
  rintro e w2 ⟨rfl, hb2⟩
  obtain ⟨k1, k2, k3, k4, k5⟩ := KEEP.out w2 hb2
  have c3 := k2.cells.2.2.2.1
  have s0 := k3.cell 0
  have s1 := k3.cell 1
  have s2 := k3.cell 2
  simp only [List.getElem?_toArray, List.getElem?_cons_succ, List.getElem?_cons_zero] at s0 s1 s2
  have HB2 := Lib.hid hb2
  have KV2 := Lib.hid k2
  clear hW hB HO HF HV HS HU2 k1 k2 k3 k4 k5 hb2
  go_wp2_with (first
    | (refine wpList_ldl rfl (o := ⟨some 23, _, _, _, _, _⟩) rfl rfl (V.l ⟨0, 0, [], 4, p, 0, 0, 0, none, bel, mor⟩) isV (fun j u hu => by have := Blk.cell KV2.out j; rw [at_zero, this]; simpa using hu) ?_; simp only [V.l, sv])
    | fail)
  refine (HG.out w2 (KEEP.out w2 HB2.out).1).mono ?_
  rintro e w4 ⟨rfl, hb4⟩
  have HB4 := Lib.hid (HB2.out.trans (hb4.mono HB2.out.size))
  have hz4 := HB4.out.size
  have HW4 : Hid (w.heap.size + 4 ≤ w4.heap.size) := Lib.hid (by have := HZ.out; omega)
  clear hb4 HB2 KV2 c3 s0 s1 s2 HG
  simp only [Bool.false_eq_true, if_false]
  go_wp2_with (first
    | (refine wpList_stE (E := eV) (o := ⟨none, .store 42 (.tmp 9) _, _, _, _, _⟩) rfl rfl infoV11 rfl V.z (Blk.new w4 42 V.z.l.toArray) rfl rfl ?_; intro w5 HR5 ho5 hB5; have HB5 := Lib.hid (hB5 _ _ (HB4.out.alloc hz4 (.cells V.z.l.toArray 42)) hz4); have hz5 := Blk.lt HR5.out; clear ho5 hB5; have c3 := (KEEP.out w5 HB5.out).2.1.cells.2.2.2.1; have c4 := (KEEP.out w5 HB5.out).2.1.cells.2.2.2.2.1; have s1 := (KEEP.out w5 HB5.out).2.2.1.cell 1; simp only [List.getElem?_toArray, List.getElem?_cons_succ, List.getElem?_cons_zero] at c3 c4 s1; have KU5 := Lib.hid (KEEP.out w5 HB5.out).2.2.2.1)
    | (refine wpList_ldl rfl (o := ⟨some 43, _, _, _, _, _⟩) rfl rfl u.l isV (fun j u' hu => by have := Blk.cell KU5.out j; rw [at_zero, this]; simpa using hu) ?_)
    | fail)
  refine (HRS.out w5 (KEEP.out w5 HB5.out).1).mono ?_
  rintro e w6 ⟨p', rfl, -, hb6⟩
  have HB6 := Lib.hid (HB5.out.trans (hb6.mono HB5.out.size))
  have c4' := (KEEP.out w6 HB6.out).2.1.cells.2.2.2.2.1
  have f4' := (KEEP.out w6 HB6.out).2.1.frozen 4
  have KO6 : Hid (VB (w6.setCell ⟨w.heap.size, 4, none⟩ (.pointer p')) (w.heap.size + 1 + 1 + 1) V.z) := Lib.hid (Blk.far (KEEP.out w6 HB6.out).2.2.2.2 (p := ⟨w.heap.size, 4, none⟩) (by simp; omega) _)
  have HBB : Hid (Below w.heap.size w (w6.setCell ⟨w.heap.size, 4, none⟩ (.pointer p'))) := Lib.hid ((KEEP.out w6 HB6.out).1.setCell (Nat.le_refl _) _)
  clear hb6 HB5 HR5 c3 c4 s1 KU5 HRS
  go_wp2_with (first
    | (refine wpList_stE (E := eV) rfl rfl infoV11 rfl V.z KO6.out rfl rfl ?_; intro w8 HR8 ho8 hB8)
    | fail)
  exact ret_ct (p := 6) (u := 7) rfl rfl rfl HR8.out (by kernel_rfl) rfl ⟨V.z, rfl, isV_z _ _, hB8 _ _ HBB.out (by omega)⟩
theorem set_at {x y : T} {s : St} {j : Nat} (h : fitsT x s = 0) (h6 : x.k ≠ 6) (hi : idxT x s = some j) : setT x s y = withinT (.mk x.k x.i x.t x.ks (x.xs.set j y)) := by rw [setT, if_neg (fun e => e h), if_neg h6, hi]
theorem set_none {x y : T} {s : St} (h : fitsT x s = 0) (h4 : x.k = 4) (hi : idxT x s = none) : setT x s y = (T.z, 5) := by rw [setT, if_neg (fun e => e h), if_neg (by omega), hi]; exact if_pos h4
/-- Set, of a scalar or a vector. -/
theorem vset_any (x y : T) (v u : V) (s : St) (S : Nat → Prop) (w : World) (h : IsV w S x v) (hy : IsV w S y u) (hk : x.k ≤ 4) (hl : s.T.length ≤ 1152921504606846968) (hn : x.nodes ≤ 16384) (hd : x.depth ≤ 100000) (hyn : y.nodes ≤ 16384) (hyd : y.depth ≤ 100000) :
    Calls Tryz.prog 81 #[v.a, s.a, u.a] w (SetOut w S (setT x s y)) := by
  obtain ⟨k1, k2⟩ := kind_of h
  by_cases hf : fitsT x s = 0
  · obtain ⟨k, i, t, ks, xs⟩ := x
    obtain ⟨K, I, TT⟩ := s
    have hf3 := fits_zero hf
    simp only [T.k] at hf3 hk k2
    have hk4 := hf3.2.2
    obtain rfl : K = 0 := by omega
    obtain rfl : k = 4 := by omega
    rw [IsV] at h
    rcases h with ⟨h, -⟩ | ⟨-, rfl, rfl, rfl, vs, p, hr, rfl, hxs⟩ | ⟨h, -⟩
    · omega
    · have hnn : nodesL xs + 1 ≤ 16384 := by simpa [T.nodes] using hn
      have hdd : depthL xs + 1 ≤ 100000 := by simpa [T.depth] using hd
      have hln := len_nodesL xs
      have hvl := hxs.len
      by_cases hI : 0 ≤ I ∧ I < (xs.length : Int)
      · obtain ⟨j, rfl⟩ := Int.eq_ofNat_of_zero_le hI.1
        have hj : j < xs.length := by omega
        rw [set_at (y := y) hf (by simp [T.k]) ((idx_vec rfl).trans (if_pos hI))]
        exact vset_in j TT xs vs p xs[j] y (vs[j]'(by omega)) u S w hl hr hxs hy (List.getElem?_eq_getElem hj) (List.getElem?_eq_getElem (by omega)) (by omega) (by omega) hyn hyd
      · rw [set_none (y := y) hf rfl ((idx_vec rfl).trans (if_neg hI))]
        exact vset_oob I TT vs p _ _ u S w hl hr (by rw [hvl]; simp only [inB, decide_eq_false_iff_not]; exact hI)
    · omega
  · exact vset_bad x y v u s S w k1 k2 hf
end Go.Proofs.YtfcegalckjeafaaGreatDoor
