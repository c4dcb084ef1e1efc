/-
  Parts of the proof that AddrTold,AddrBegins calls on: Wa, Wb.
-/
import Derived.Test.YtfcegalckjeafaaGreatDoorM114
import Derived.Test.YtfcegalckjeafaaGreatDoorM115
import Derived.Test.YtfcegalckjeafaaGreatDoorM118
namespace Go.Proofs.YtfcegalckjeafaaGreatDoor
open Go.RowKit Go.BigFrame Go.Shelf
mutual
theorem makeOk : ∀ (x : T), Pl x → MakeOk x
  | .mk k i t ks xs, h => by
    rw [Pl] at h
    rcases h with ⟨h, rfl, rfl⟩ | ⟨rfl, rfl, rfl, rfl, h⟩
    · exact make_leaf k i t h
    · exact make_vec xs (makesOk xs h)
theorem makesOk : ∀ (xs : List T), Pls xs → ∀ (i : Nat) (x : T), xs[i]? = some x → MakeOk x
  | [], _, i, x, h => by simp at h
  | y :: xs, h, i, x, hx => by
    rw [Pls] at h
    cases i with
    | zero => simp at hx; subst hx; exact makeOk y h.1
    | succ i => exact makesOk xs h.2 i x (by simpa using hx)
end
set_option maxRecDepth 100000 in
set_option maxHeartbeats 4000000 in
theorem vof_any (x : T) (r : TR) (S : Nat → Prop) (cs cb : Int) (w : World) (hm : MakeOk x) (ht : IsTr w S x r) (hn : x.nodes ≤ 16384) (hd : x.depth ≤ 64) :
    Calls Tryz.prog 46 #[.agg #[.int .u64 cs, .int .i64 cb], r.a] w fun e w' => ∃ v, e = .returned (.tuple #[V.a v, .int .i64 0]) ∧ IsV w' (fun k => w.heap.size ≤ k) x v ∧ Below w.heap.size w w' := by
  have HT := Lib.hid ht.bound
  have HM := Lib.hid hm
  clear ht hm
  obtain ⟨rk, ri, rt, kA, kn, kc, xA, xn, xc⟩ := r
  simp only [TR.a]
  go_enter Tryz.func46, Tryz.ntmps46
  go_wp2_with fail
  refine calls_at fun W hW => ?_
  obtain ⟨hB, hz, -, -, HO, HG⟩ := boxes4 (t3 := 42) (c3 := V.z.l.toArray) hW
  have HB := Lib.hid hB
  have HZ := Lib.hid hz
  clear hW
  refine (HM.out ⟨rk, ri, rt, kA, kn, kc, xA, xn, xc⟩ _ (w.heap.size + 1 + 1 + 1) 0 1 cs cb W (HT.out.keeps (.of_below hB)) (fun h => by have := h.2; omega) HG (by omega) (by omega)).mono ?_
  rintro e w2 ⟨v, rfl, hv, -, hc⟩
  have HV := Lib.hid hv.bound
  have HO2 := Lib.hid (HO.grown hc (fun e => by have := Option.some.inj e; omega))
  have HB2 := Lib.hid (hB.grown hc (by omega) (fun r e => by cases e; omega))
  have hz2 := hc.size
  clear hv hc HO hB HG HT HM
  simp only [V.a]
  go_wp2_with (first
    | (refine wpList_stE (E := eV) rfl rfl infoV11 rfl v HO2.out rfl rfl ?_; intro w8 HR8 ho8 hB8)
    | fail)
  refine ret_ct (p := 4) (u := 5) rfl rfl rfl HR8.out (by kernel_rfl) rfl ⟨v, rfl, (HV.out.keeps (w' := w8) (fun k hk hs => ho8 k (by have := hs.1; omega))).more (fun k h => by have := h.1; omega), hB8 _ _ HB2.out (by omega)⟩
set_option maxRecDepth 100000 in
set_option maxHeartbeats 4000000 in
theorem lof_any (x : T) (r : TR) (S : Nat → Prop) (cs cb : Int) (w : World) (hm : MakeOk x) (ht : IsTr w S x r) (hn : x.nodes ≤ 16384) (hd : x.depth ≤ 64) :
    Calls Tryz.prog 14 #[.agg #[.int .u64 cs, .int .i64 cb], r.a] w fun e w' => ∃ v, e = .returned (V.a v) ∧ IsV w' (fun k => w.heap.size ≤ k) x v ∧ Below w.heap.size w w' := by
  have HT := Lib.hid ht.bound
  have HM := Lib.hid hm
  clear ht hm
  obtain ⟨rk, ri, rt, kA, kn, kc, xA, xn, xc⟩ := r
  simp only [TR.a]
  go_enter Tryz.func14, Tryz.ntmps14
  go_wp2_with fail
  refine calls_at fun W hW => ?_
  obtain ⟨hB, hz, -, -, HO⟩ := boxes3 (t3 := 42) (c3 := V.z.l.toArray) hW
  have HB := Lib.hid hB
  have HZ := Lib.hid hz
  clear hW
  refine (vof_any x ⟨rk, ri, rt, kA, kn, kc, xA, xn, xc⟩ _ cs cb W HM.out (HT.out.keeps (.of_below hB)) hn hd).mono ?_
  rintro e w2 ⟨v, rfl, hv, hb2⟩
  have HV := Lib.hid hv.bound
  have HO2 := Lib.hid (HO.below hb2 HO.lt)
  have HB2 := Lib.hid (hB.trans (hb2.mono hB.size))
  have hz2 := hb2.size
  clear hv hb2 HO hB HT HM
  simp only [V.a]
  go_wp2_with (first
    | (refine wpList_stE (E := eV) (o := ⟨none, .store 42 (.tmp 5) _, _, _, _, _⟩) rfl rfl infoV11 rfl v (Blk.new' (by simp)) rfl rfl ?_; intro w6 HR6 ho6 hB6)
    | (refine wpList_ldl rfl (o := ⟨some 13, _, _, _, _, _⟩) rfl rfl v.l isV (fun j u hu => by have := Blk.cell HR6.out j; rw [at_zero, this]; simpa using (show (eV.l v)[j]? = some u from hu)) ?_)
    | (have HO6 := HO2.out.below (hB6 _ _ ((Below.refl w2.heap.size w2).alloc (Nat.le_refl _) (.cells V.z.l.toArray 42)) (Nat.le_refl _)) HO2.out.lt; refine wpList_stE (E := eV) (o := ⟨none, .store 42 (.tmp 4) _, _, _, _, _⟩) rfl rfl infoV11 rfl v HO6 rfl rfl ?_; intro w8 HR8 ho8 hB8)
    | fail)
  have hb6 := hB6 _ _ ((Below.refl w2.heap.size w2).alloc (Nat.le_refl _) (.cells V.z.l.toArray 42)) (Nat.le_refl _)
  refine ret_c (p := 4) rfl rfl rfl HR8.out (by kernel_rfl) ⟨v, rfl, (HV.out.keeps (w' := w8) (fun k hk hs => (ho8 k (by have := hs.1; omega)).trans (hb6.block k hk))).more (fun k h => by have := h.1; omega), hB8 _ _ (HB2.out.trans (hb6.mono HB2.out.size)) (by omega)⟩
end Go.Proofs.YtfcegalckjeafaaGreatDoor
namespace Go.Proofs.YtfcegalckjeafaaGreatDoor
open Go.RowKit Go.BigFrame Go.Shelf
set_option maxRecDepth 100000 in
set_option maxHeartbeats 4000000 in
theorem hget_nil (seed b n : Int) (k : List UInt8) (w : World) (hs : U seed) (hk : k.length ≤ 1152921504606846968) :
    Calls Tryz.prog 101 #[.agg #[.int .u64 seed, .int .i64 b, .int .i64 n, .pointer none], sv k] w (GotOut w V.z false) := by
  have HC := Lib.hid (fun W => hsum_any seed b n none k W hs hk)
  clear hs hk
  simp only [sv] at HC ⊢
  go_enter Tryz.func101, Tryz.ntmps101
  go_wp2_with fail
  refine wp_at fun W hW => ?_
  obtain ⟨hB, hz, HM, HO, HX⟩ := boxes3 (t2 := 42) (c2 := V.z.l.toArray) (t3 := 42) (c3 := V.z.l.toArray) hW
  have HZ := Lib.hid hz
  have KEEP : Hid (∀ W', Below W.heap.size W W' → Below w.heap.size w W' ∧ Blk W' w.heap.size 40 #[.int .u64 seed, .int .i64 b, .int .i64 n, .pointer none] ∧ VB W' (w.heap.size + 1) V.z ∧ VB W' (w.heap.size + 1 + 1) V.z) := Lib.hid fun W' h => ⟨hB.trans (h.mono hB.size), HM.below h HM.lt, Blk.below HO h HO.lt, Blk.below HX h HX.lt⟩
  clear hW hB HM HO HX
  have K0 := KEEP.out W.drew (Below.refl _ _).drew
  refine wp_region_sq 6 [(0, true), (1, true), (3, true), (4, true), (2, false), (5, true)] (fun w' => Blk w' w.heap.size 40 #[.int .u64 seed, .int .i64 b, .int .i64 n, .pointer none] ∧ w'.cell? ⟨w.heap.size, 3, none⟩ = some (.pointer none)) (by kernel_rfl) (by kernel_rfl) ⟨K0.2.1, K0.2.1.cell 3⟩ (fun hS => ?_)
  refine sq_t (o := ⟨_, _, _, _, _, _⟩) (v := .agg #[.int .u64 seed, .int .i64 b, .int .i64 n, .pointer none]) rfl (by rfl) (fun w' hw' => exec_load_list (cs := [.int .u64 seed, .int .i64 b, .int .i64 n, .pointer none]) (by kernel_rfl) rfl (by simp [Act.eval]; rfl) (fun j u hu => by have := hw'.1.cell j; rw [at_zero, this]; simpa using hu)) ?_
  try simp only [Act.put, List.setIfInBounds_toArray, List.set_cons_zero, List.set_cons_succ]
  iterate 3 (refine sq_t (o := ⟨_, _, _, _, _, _⟩) (v := ?_) rfl (by rfl) ?_ ?_; rotate_left; (· (intro w hSw; (try dsimp only at hSw); obtain ⟨-, hS1⟩ := hSw; go_simp; try with_reducible rfl)); try simp only [Act.put, List.setIfInBounds_toArray, List.set_cons_zero, List.set_cons_succ])
  refine sq_c rfl (fun K hK => ?_)
  go_simp
  refine (HC.out _).mono ?_
  rintro e w4 ⟨rfl, hb4⟩
  obtain ⟨k1, k2, k3, k4⟩ := KEEP.out w4 ((Below.refl _ _).drew.trans hb4)
  refine hK.out _ _ ⟨k2, k2.cell 3⟩ (fun hS => ?_)
  clear hK K
  have KB := Lib.hid k1
  have KO := Lib.hid k3
  have KX := Lib.hid k4
  clear k1 k2 k3 k4 hS K0 KEEP hb4
  try simp only [Act.put, List.setIfInBounds_toArray, List.set_cons_zero, List.set_cons_succ]
  iterate 1 (refine sq_t (o := ⟨_, _, _, _, _, _⟩) (v := ?_) rfl (by rfl) ?_ ?_; rotate_left; (· (intro w hSw; (try dsimp only at hSw); obtain ⟨-, hS1⟩ := hSw; go_simp; try with_reducible rfl)); try simp only [Act.put, List.setIfInBounds_toArray, List.set_cons_zero, List.set_cons_succ])
  simp only [wpSq, List.drop_succ_cons, List.drop_zero]
  go_wp2_with fail
  refine NoPanic.normal ?_
  go_wp2_with fail
  refine wp_loop_rounds 1 ?_
  rw [rounds_succ]
  go_wp2_with (first
    | (refine wpList_ldl rfl (o := ⟨some 57, _, _, _, _, _⟩) rfl rfl V.z.l isV (fun j u hu => by have := Blk.cell KX.out j; rw [at_zero, this]; simpa using hu) ?_)
    | (refine wpList_stE (E := eV) rfl rfl infoV11 rfl V.z KO.out rfl rfl ?_; intro w8 HR8 ho8 hB8)
    | fail)
  exact ret_ct (p := 4) (u := 5) rfl rfl rfl HR8.out (by kernel_rfl) rfl ⟨rfl, hB8 _ _ KB.out (by omega)⟩
set_option maxRecDepth 100000 in
set_option maxHeartbeats 2000000 in
theorem within_any (x : T) (v : V) (w : World) (hb : v.bel = (depthL x.xs : Int)) (hm : v.mor = (nodesL x.xs : Int)) (h1 : Cn v.bel) (h2 : Cn v.mor) :
    Calls Tryz.prog 110 #[v.a] w fun e w' => e = .returned (.tuple #[(if (withinT x).2 = 0 then v else V.z).a, .int .i64 (withinT x).2]) ∧ Below w.heap.size w w' := by
  have HD := Lib.hid (fun W => depth_any v W h1)
  have HN := Lib.hid (fun W => nodes_any v W h2)
  obtain ⟨R, hR⟩ : ∃ R, R = (withinT x).2 := ⟨_, rfl⟩
  rw [← hR]
  have hdx := x.depth_eq
  have hnx := x.nodes_eq
  by_cases c1 : 64 < v.bel + 1
  · obtain rfl : R = 7 := by rw [hR, withinT, if_pos (by omega)]
    clear hR hdx hnx hb hm h1 h2
    rw [if_neg (by decide)]
    obtain ⟨sk, si, st, kd, vec, seed, bits, n, dic, bel, mor⟩ := v
    simp only [V.a] at HD HN c1 ⊢
    go_enter Tryz.func110, Tryz.ntmps110
    go_wp2_with fail
    refine calls_at fun W hW => ?_
    obtain ⟨hB, hz, HV, HO⟩ := boxes2 (t2 := 42) (c2 := V.z.l.toArray) hW
    refine (HD.out W).mono ?_
    rintro e w2 ⟨rfl, hb2⟩
    have HO2 := Lib.hid (HO.below hb2 HO.lt)
    have HB2 := Lib.hid (hB.trans (hb2.mono hB.size))
    clear hW hb2 hB HO HV HD HN
    go_wp2_with (first
      | (refine wpList_stE (E := eV) rfl rfl infoV11 rfl V.z HO2.out rfl rfl ?_; intro w8 HR8 ho8 hB8)
      | fail)
    exact ret_ct (p := 2) (u := 3) rfl rfl rfl HR8.out (by kernel_rfl) rfl ⟨rfl, hB8 _ _ HB2.out (by omega)⟩
  by_cases c2 : 16384 < v.mor + 1
  · obtain rfl : R = 8 := by rw [hR, withinT, if_neg (by omega), if_pos (by omega)]
    clear hR hdx hnx hb hm h1 h2
    rw [if_neg (by decide)]
    obtain ⟨sk, si, st, kd, vec, seed, bits, n, dic, bel, mor⟩ := v
    simp only [V.a] at HD HN c1 c2 ⊢
    go_enter Tryz.func110, Tryz.ntmps110
    go_wp2_with fail
    refine calls_at fun W hW => ?_
    obtain ⟨hB, hz, HV, HO⟩ := boxes2 (t2 := 42) (c2 := V.z.l.toArray) hW
    refine (HD.out W).mono ?_
    rintro e w2 ⟨rfl, hb2⟩
    have HO2 := HO.below hb2 HO.lt
    have HV2 := Lib.hid (show VB w2 w.heap.size ⟨sk, si, st, kd, vec, seed, bits, n, dic, bel, mor⟩ from Blk.below HV hb2 HV.lt)
    have HB2 := hB.trans (hb2.mono hB.size)
    have KEEP : Hid (∀ W', Below w2.heap.size w2 W' → Below w.heap.size w W' ∧ VB W' (w.heap.size + 1) V.z) := Lib.hid fun W' h => ⟨HB2.trans (h.mono HB2.size), Blk.below HO2 h HO2.lt⟩
    clear hW hb2 hB HO HV HD HO2 HB2
    go_wp2_with (first
      | (refine wpList_ldl rfl (o := ⟨some 8, _, _, _, _, _⟩) rfl rfl (V.l ⟨sk, si, st, kd, vec, seed, bits, n, dic, bel, mor⟩) isV (fun j u hu => by have := Blk.cell HV2.out j; rw [at_zero, this]; simpa using hu) ?_; simp only [V.l, sv])
      | fail)
    refine (HN.out w2).mono ?_
    rintro e w3 ⟨rfl, hb3⟩
    obtain ⟨k1, k2⟩ := KEEP.out _ hb3
    have KO := Lib.hid k2
    have KB := Lib.hid k1
    clear k1 k2 hb3 KEEP
    go_wp2_with (first
      | (refine wpList_stE (E := eV) rfl rfl infoV11 rfl V.z KO.out rfl rfl ?_; intro w8 HR8 ho8 hB8)
      | fail)
    exact ret_ct (p := 2) (u := 3) rfl rfl rfl HR8.out (by kernel_rfl) rfl ⟨rfl, hB8 _ _ KB.out (by omega)⟩
  · obtain rfl : R = 0 := by rw [hR, withinT, if_neg (by omega), if_neg (by omega)]
    clear hR hdx hnx hb hm h1 h2
    rw [if_pos rfl]
    obtain ⟨sk, si, st, kd, vec, seed, bits, n, dic, bel, mor⟩ := v
    simp only [V.a] at HD HN c1 c2 ⊢
    go_enter Tryz.func110, Tryz.ntmps110
    go_wp2_with fail
    refine calls_at fun W hW => ?_
    obtain ⟨hB, hz, HV, HO⟩ := boxes2 (t2 := 42) (c2 := V.z.l.toArray) hW
    refine (HD.out W).mono ?_
    rintro e w2 ⟨rfl, hb2⟩
    have HO2 := HO.below hb2 HO.lt
    have HV2 := Lib.hid (show VB w2 w.heap.size ⟨sk, si, st, kd, vec, seed, bits, n, dic, bel, mor⟩ from Blk.below HV hb2 HV.lt)
    have HB2 := hB.trans (hb2.mono hB.size)
    have KEEP : Hid (∀ W', Below w2.heap.size w2 W' → Below w.heap.size w W' ∧ VB W' (w.heap.size + 1) V.z ∧ VB W' w.heap.size ⟨sk, si, st, kd, vec, seed, bits, n, dic, bel, mor⟩) := Lib.hid fun W' h => ⟨HB2.trans (h.mono HB2.size), Blk.below HO2 h HO2.lt, Blk.below HV2.out h (Blk.lt HV2.out)⟩
    clear hW hb2 hB HO HV HD HO2 HB2
    go_wp2_with (first
      | (refine wpList_ldl rfl (o := ⟨some 8, _, _, _, _, _⟩) rfl rfl (V.l ⟨sk, si, st, kd, vec, seed, bits, n, dic, bel, mor⟩) isV (fun j u hu => by have := Blk.cell HV2.out j; rw [at_zero, this]; simpa using hu) ?_; simp only [V.l, sv])
      | fail)
    refine (HN.out w2).mono ?_
    rintro e w3 ⟨rfl, hb3⟩
    obtain ⟨k1, k2, k3⟩ := KEEP.out _ hb3
    have KO := Lib.hid k2
    have KB := Lib.hid k1
    have KV := Lib.hid k3
    clear k1 k2 k3 hb3 KEEP HV2
    go_wp2_with (first
      | (refine wpList_ldl rfl (o := ⟨some 12, _, _, _, _, _⟩) rfl rfl (V.l ⟨sk, si, st, kd, vec, seed, bits, n, dic, bel, mor⟩) isV (fun j u hu => by have := Blk.cell KV.out j; rw [at_zero, this]; simpa using hu) ?_)
      | (refine wpList_stE (E := eV) rfl rfl infoV11 rfl ⟨sk, si, st, kd, vec, seed, bits, n, dic, bel, mor⟩ KO.out rfl rfl ?_; intro w8 HR8 ho8 hB8)
      | fail)
    exact ret_ct (p := 2) (u := 3) rfl rfl rfl HR8.out (by kernel_rfl) rfl ⟨rfl, hB8 _ _ KB.out (by omega)⟩
end Go.Proofs.YtfcegalckjeafaaGreatDoor
