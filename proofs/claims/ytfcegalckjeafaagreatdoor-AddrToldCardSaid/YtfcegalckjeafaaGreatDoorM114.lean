/-
  Parts of the proof that AddrTold,AddrBegins calls on: Rs, Rt, Hd.
-/
import Derived.Laws.BitsAllLaws
import Derived.Lib.TrailingZeros
import Derived.LoopIn
import Derived.LoopNIn
import Derived.OwnWalkIn
import Derived.RangeFuncBox
import Derived.RangeFuncCalls
import Derived.RangeFuncKeeps
import Derived.RangeFuncLeaves
import Derived.Shelf.Abstract
import Derived.TacticsInMore
import Derived.Test.YtfcegalckjeafaaGreatDoorM105
import Derived.Test.YtfcegalckjeafaaGreatDoorM108
import Derived.Test.YtfcegalckjeafaaGreatDoorM109
import Derived.Test.YtfcegalckjeafaaGreatDoorM113
namespace Go.Proofs.YtfcegalckjeafaaGreatDoor
open Go.RowKit Go.BigFrame
set_option maxRecDepth 100000 in
set_option maxHeartbeats 4000000 in
theorem set_leaf (i : Nat) (x : V) (vs : List V) (p : Option Addr) (S : Nat → Prop) (w : World) (hp : IsR w S 1 vs p) (hi : i < vs.length) :
    Calls Tryz.prog 178 #[.pointer p, .int .i64 i, x.a] w (RootOut w S 1 (vs.set i x)) := by
  obtain ⟨b, A, c, rfl, hs, hb, n1, m1, k1, r1⟩ := hp.leaf
  obtain ⟨N, hN⟩ : ∃ N : Int, N = (vs.length : Int) := ⟨_, rfl⟩
  have HN := Lib.hid hN
  rw [← hN] at hb
  have f0 := hb.cell 0
  have f1 := hb.cell 1
  have f3 := hb.cell 3
  simp only [List.getElem?_toArray, List.getElem?_cons_succ, List.getElem?_cons_zero] at f0 f1 f3
  have hbl := hb.lt
  have HR := Lib.hid r1
  have hi' : (i : Int) < (vs.length : Int) := by omega
  have h0 : (0 : Int) ≤ (i : Int) := by omega
  clear hp hb r1 hN
  unfold V.a
  go_enter Tryz.func178, Tryz.ntmps178
  go_wp2_with fail
  have g0 : (w.alloc (.cells x.l.toArray 42)).cell? ⟨b, 0, none⟩ = some (.int .i64 N) := cb ((Below.refl _ _).alloc (Nat.le_refl _) _) f0
  have g1 : (w.alloc (.cells x.l.toArray 42)).cell? ⟨b, 1, none⟩ = some (.int .i64 1) := cb ((Below.refl _ _).alloc (Nat.le_refl _) _) f1
  go_region_held3 (fun w' => w'.cell? ⟨b, 0, none⟩ = some (.int .i64 N) ∧ w'.cell? ⟨b, 1, none⟩ = some (.int .i64 1)) (first | exact ⟨g0, g1⟩ | go_keep) (fail)
  rename_i hHeld
  clear g0 g1
  go_wp2_with fail
  refine calls_at fun W hW => ?_
  obtain ⟨hB, hz, HX, HO⟩ := boxes2d (c1 := x.l.toArray) hW
  refine (copyV _ _ _ vs _ _ (HR.out.keeps (.of_below hB)) (by omega)).mono ?_
  rintro e w1 ⟨v1, rfl, ho1, hb1⟩
  obtain ⟨A1, c1, rfl, hc1⟩ := own_shape ho1
  obtain ⟨g, rfl⟩ : ∃ g, A1 = some ⟨g, 0, none⟩ := by
    rcases ho1.2 with ⟨h, h2⟩ | ⟨g, cap, cur, h, _⟩
    · omega
    · injection h with h1; exact ⟨g, h1⟩
  have hgW : W.heap.size ≤ g := own_base ho1 rfl
  have HO1 := Lib.hid ho1
  have HB := Lib.hid (hB.trans (hb1.mono hB.size))
  have HN1 := Lib.hid (HO.below hb1 HO.lt)
  obtain ⟨x0, x1, x2, x3, x4, x5, x6, x7, x8, x9, xa⟩ := VB.cells (HX.below hb1 HX.lt : VB w1 w.heap.size x)
  have q3 := HN1.out.cell 3
  have z3 := HN1.out.frozen 3
  have hgn : g ≠ w.heap.size + 1 := by omega
  have hz1 := hb1.size
  have HX1 := Lib.hid (Blk.below HX hb1 HX.lt)
  have hWs := hB.size
  clear hW HX HO hb1 ho1 hHeld
  go_wp2_with fail
  obtain ⟨w2, hw2⟩ : ∃ w2, w2 = w1.setCell ⟨w.heap.size + 1, 3, none⟩ (.slice (some ⟨g, 0, none⟩) vs.length c1) := ⟨_, rfl⟩
  rw [← hw2]
  have hxl := HX1.out.lt
  have hnl := HN1.out.lt
  have HN2 : Hid (Blk w2 (w.heap.size + 1) 217 #[.int .i64 N, .int .i64 1, .slice none 0 0, .slice (some ⟨g, 0, none⟩) vs.length c1]) := Lib.hid (by rw [hw2]; simpa using HN1.out.set_ 3 (.slice (some ⟨g, 0, none⟩) vs.length c1))
  have HX2 : Hid (VB w2 w.heap.size x) := Lib.hid (by rw [hw2]; exact Blk.far HX1.out (by simp) _)
  have HO2 : Hid (w2.ownsRow W.heap.size 42 11 (.slice (some ⟨g, 0, none⟩) vs.length c1) vs.length (flat vs)) := Lib.hid (by rw [hw2]; exact ownsRow_setCell_other HO1.out (by simpa [Value.ownBlock] using hgn) _)
  have HB2 : Hid (Below w.heap.size w w2) := Lib.hid (by rw [hw2]; exact HB.out.setCell (by simp) _)
  have f5 := HN2.out.cell 3
  simp only [List.getElem?_toArray, List.getElem?_cons_succ, List.getElem?_cons_zero] at f5
  clear hw2 HN1 HX1 HO1 HB x0 x1 x2 x3 x4 x5 x6 x7 x8 x9 xa q3 z3
  refine wp_region_sq 6 [(0, true), (1, true), (2, true), (3, true), (4, true), (5, true)] (fun w' => w'.cell? ⟨w.heap.size + 1, 3, none⟩ = some (.slice (some ⟨g, 0, none⟩) vs.length c1) ∧ VB w' w.heap.size x) (by kernel_rfl) (by kernel_rfl) ⟨f5, HX2.out.drew⟩ (fun hS => ?_)
  iterate 5 (refine sq_t (v := ?_) rfl (by rfl) ?_ ?_; rotate_left; (· (intro w hSw; (try dsimp only at hSw); go_simp; try with_reducible rfl)); try simp only [Act.put, List.setIfInBounds_toArray, List.set_cons_zero, List.set_cons_succ])
  refine sq_t (v := x.a) rfl (by rfl) (fun w' hw' => exec_load_V rfl rfl hw'.2) ?_
  simp only [wpSq, List.drop_succ_cons, List.drop_zero]
  go_wp2_with (refine wpList_stOwn (w := w2.drew) rfl rfl HO2.out i hi rfl (by first | rfl | exact addr_plain _ _) rfl x.l rfl x.l_len (infoV x) (one_V x) ?_; intro w3 HO3 ho3 hB3)
  refine NoPanic.normal ?_
  go_wp2
  go_ret
  refine ⟨_, rfl, IsR.leaf_mk (A := some ⟨g, 0, none⟩) (c := c1) (up_new (by omega)) ?_ (by simpa using n1) (by simpa using m1) (by simpa using hc1) ?_, hB3 _ _ HB2.out.drew (by omega)⟩
  · have := (ho3 _ (Ne.symm hgn)).trans HN2.out
    rw [HN.out] at this
    rw [List.length_set]
    exact this
  · have := HO3.out
    rw [splice_flat hi] at this
    have := (Reads.of_new (S := S) this).more fun _ => up_le hB.size
    simpa using this
def SetOk (d : Nat) : Prop := ∀ (i : Nat) (x : V) (vs : List V) (p : Option Addr) (S : Nat → Prop) (w : World), IsR w S d vs p → i < vs.length → vs.length ≤ 65536 →
    Calls Tryz.prog 178 #[.pointer p, .int .i64 i, x.a] w (RootOut w S d (vs.set i x))
theorem flat_set {ks : List (List V)} {k j i : Nat} {x : V} (hk : k < ks.length) (h : j + flen (ks.take k) = i) (hj : j < ks[k].length) : (ks.set k (ks[k].set j x)).flatten = ks.flatten.set i x := by
  subst h
  have h1 : (ks.set k (ks[k].set j x)).flatten = (ks.take k).flatten ++ (ks[k].set j x ++ (ks.drop (k + 1)).flatten) := by
    rw [List.set_eq_take_append_cons_drop, if_pos hk, List.flatten_append, List.flatten_cons]
  rw [h1, flat_parts hk, List.set_append_right _ _ (by rw [flen_flat]; omega), flen_flat, Nat.add_sub_cancel, List.set_append_left _ _ hj]
set_option maxRecDepth 100000 in
set_option maxHeartbeats 8000000 in
theorem set_inner (d : Nat) (ih : SetOk (d + 1)) (i : Nat) (x : V) (vs : List V) (p : Option Addr) (S : Nat → Prop) (w : World) (hp : IsR w S (d + 2) vs p) (hi : i < vs.length) (hn : vs.length ≤ 65536) :
    Calls Tryz.prog 178 #[.pointer p, .int .i64 i, x.a] w (RootOut w S (d + 2) (vs.set i x)) := by
  obtain ⟨b, A, c, ks, ps, rfl, -, hx, hb, n1, m1, k1, r1, K1⟩ := hp.bound.inner
  have hfl : flen ks = vs.length := by rw [flen_flat, hx]
  have hd1 : (((d + 2 : Nat) : Int) == 1) = false := by simp; omega
  obtain ⟨N, hN⟩ : ∃ N : Int, N = (vs.length : Int) := ⟨_, rfl⟩
  obtain ⟨D, hD⟩ : ∃ D : Int, D = ((d + 2 : Nat) : Int) := ⟨_, rfl⟩
  have HN := Lib.hid hN
  have HD := Lib.hid hD
  rw [← hN, ← hD] at hb
  rw [← hD] at hd1
  have f0 := hb.cell 0
  have f1 := hb.cell 1
  have f2 := hb.cell 2
  simp only [List.getElem?_toArray, List.getElem?_cons_succ, List.getElem?_cons_zero] at f0 f1 f2
  have hbl := hb.lt
  have R1 := Lib.hid r1
  have HK := Lib.hid K1
  have HU := Lib.hid hx
  have HF := Lib.hid hfl
  clear hp hb r1 K1 hN hD hx hfl
  unfold V.a
  go_enter Tryz.func178, Tryz.ntmps178
  go_wp2_with fail
  have g0 : (w.alloc (.cells x.l.toArray 42)).cell? ⟨b, 0, none⟩ = some (.int .i64 N) := cb ((Below.refl _ _).alloc (Nat.le_refl _) _) f0
  have g1 : (w.alloc (.cells x.l.toArray 42)).cell? ⟨b, 1, none⟩ = some (.int .i64 D) := cb ((Below.refl _ _).alloc (Nat.le_refl _) _) f1
  go_region_held3 (fun w' => w'.cell? ⟨b, 0, none⟩ = some (.int .i64 N) ∧ w'.cell? ⟨b, 1, none⟩ = some (.int .i64 D)) (first | exact ⟨g0, g1⟩ | go_keep) (fail)
  rename_i hHeld
  clear g0 g1 hHeld
  generalize hW : World.drew _ = W
  obtain ⟨hB, hz, HX, HO⟩ := boxes2d (c1 := x.l.toArray) hW.symm
  have HX := Lib.hid HX
  have HO := Lib.hid HO
  have HB := Lib.hid hB
  have a0 := cb hB f0
  have a1 := cb hB f1
  have a2 := cb hB f2
  have R1 := Lib.hid (R1.out.keeps (.of_below hB))
  have HK := Lib.hid (HK.out.keeps (.of_below hB))
  have HZ := Lib.hid hz
  clear hW hB hz f0 f1 f2
  go_wp2_with fail
  go_loop [1, 8] (fun t1 t8 => ∃ k : Nat, k < ks.length ∧ t8 = .int .i64 k ∧ flen (ks.take k) ≤ i ∧ t1 = .int .i64 ((i - flen (ks.take k) : Nat) : Int)) (fun _ t8 => (ks.length - intOf t8).toNat)
  case atStart => exact ⟨0, by omega, rfl, by simp [flen], by simp [flen]⟩
  case round =>
    obtain ⟨k, hk, rfl, hle, rfl⟩ := hrel
    obtain ⟨q, hq, ik⟩ := HK.out.at_ hk
    have HIK := Lib.hid ik
    obtain ⟨b3, u3, x3, rfl, -, hb3⟩ := ik.head
    obtain ⟨ad, rfl, cl⟩ := R1.out.ptr hq
    have f3 := hb3.cell 0
    simp only [List.getElem?_toArray, List.getElem?_cons_zero] at f3
    have HS := Lib.hid (flen_succ ks k hk)
    have HL := Lib.hid (flen_take ks (k + 1))
    have hk3 : (k : Int) < (ks.length : Int) := by omega
    obtain ⟨i2, hi2⟩ : ∃ i2, i2 = i - flen (ks.take k) := ⟨_, rfl⟩
    have HJ : Hid (i2 + flen (ks.take k) = i) := Lib.hid (by omega)
    have hjb : (i2 : Int) ≤ 65536 := by omega
    rw [← hi2]
    clear hi2 hb3 ik hq
    by_cases hge : ks[k].length ≤ i2
    · have hge' : (ks[k].length : Int) ≤ (i2 : Int) := by omega
      have hlt : k + 1 < ks.length := by
        have h1 := HS.out; have h2 := HJ.out; have h3 := HF.out
        rcases Nat.lt_or_ge (k + 1) ks.length with h | h
        · exact h
        · rw [List.take_of_length_le h] at h1; omega
      go_wp2
      go_round
      case rel => exact ⟨k + 1, hlt, by go_num, by have := HS.out; have := HJ.out; omega, by have := HS.out; have := HJ.out; rw [show i - flen (ks.take (k + 1)) = i2 - ks[k].length by omega]; go_num⟩
      case measure => simp [intOf]; omega
    · have hge' : ¬ (ks[k].length : Int) ≤ (i2 : Int) := by omega
      have hkl : ks[k].length ≤ 65536 := by have := HS.out; have := HL.out; have := HF.out; omega
      have hil : i2 < ks[k].length := by omega
      have HFS := Lib.hid (flat_set (x := x) hk HJ.out hil)
      have HFL : Hid (flen (ks.set k (ks[k].set i2 x)) = flen ks) := Lib.hid (by rw [flen_flat, HFS.out, List.length_set, flen_flat])
      generalize ks[k] = kk at *
      have h0 : (0 : Int) ≤ (k : Int) := by omega
      go_wp2_with fail
      refine (copyP _ _ _ ps _ _ R1.out (by omega)).mono ?_
      rintro e w1 ⟨v1, rfl, ho1, hb1⟩
      obtain ⟨A1, c1, rfl, hc1⟩ := own_shape ho1
      obtain ⟨g, rfl, hgW⟩ := own_some ho1 (by omega)
      have HO1 := Lib.hid ho1
      have HB1 := Lib.hid (HB.out.trans (hb1.mono HB.out.size))
      have HN1 := Lib.hid (HO.out.below hb1 HO.out.lt)
      have HX1 := Lib.hid (HX.out.below hb1 HX.out.lt)
      have HIK1 := Lib.hid (HIK.out.keeps (.of_below hb1))
      have HK1 := Lib.hid (HK.out.keeps (.of_below hb1))
      have z2 := HN1.out.cell 2
      have z3 := HN1.out.frozen 2
      have b2 := cb hb1 a2
      have bl := cb hb1 cl
      have hxl := HX1.out.lt
      have hnl := HN1.out.lt
      have hgn : g ≠ w.heap.size + 1 := by have := HZ.out; omega
      clear ho1 hb1 a0 a1 a2 cl HO HX HIK HK HB
      go_wp2_with fail
      obtain ⟨w2, hw2⟩ : ∃ w2, w2 = w1.setCell ⟨w.heap.size + 1, 2, none⟩ (.slice (some ⟨g, 0, none⟩) ks.length c1) := ⟨_, rfl⟩
      rw [← hw2]
      have hfar : Hid (Keeps (fun k => S k ∧ k < w.heap.size) w1 w2) := Lib.hid (by rw [hw2]; exact keeps_far (by simp))
      have HN2 : Hid (Blk w2 (w.heap.size + 1) 217 #[.int .i64 N, .int .i64 D, .slice (some ⟨g, 0, none⟩) ks.length c1, .slice none 0 0]) := Lib.hid (by rw [hw2]; simpa using HN1.out.set_ 2 (.slice (some ⟨g, 0, none⟩) ks.length c1))
      have HX2 : Hid (VB w2 w.heap.size x) := Lib.hid (by rw [hw2]; exact Blk.far HX1.out (by simp) _)
      have HO2 : Hid (w2.ownsRow W.heap.size 35 1 (.slice (some ⟨g, 0, none⟩) ks.length c1) ks.length (ps.map .pointer)) := Lib.hid (by rw [hw2]; exact ownsRow_setCell_other HO1.out (by simpa [Value.ownBlock] using hgn) _)
      have HB2 : Hid (Below w.heap.size w w2) := Lib.hid (by rw [hw2]; exact HB1.out.setCell (by simp) _)
      have HIK2 := Lib.hid (HIK1.out.keeps hfar.out)
      have HK2 := Lib.hid (HK1.out.keeps hfar.out)
      have c2 : w2.cell? ⟨b, 2, none⟩ = some (.slice (some ad) ks.length c) := by rw [hw2, World.cell?_setCell_other w1 _ _ _ (by simp)]; exact b2
      have hadb : Hid (ad.block < w.heap.size) := Lib.hid (by obtain ⟨ad', e, hs, _⟩ := R1.out.2 (by omega); cases e; exact hs.2)
      have cl2 : w2.cell? (ad.add k) = some (.pointer (some ⟨b3, 0, none⟩)) := by rw [hw2, World.cell?_setCell_other w1 _ _ _ (fun e => by have h1 := congrArg Addr.block e; rw [block_of_add] at h1; have h2 := hadb.out; rw [← h1] at h2; simp at h2; omega)]; exact bl
      have f5 := HN2.out.cell 2
      simp only [List.getElem?_toArray, List.getElem?_cons_succ, List.getElem?_cons_zero] at f5
      clear hw2 HN1 HX1 HO1 HB1 HIK1 HK1 z2 z3 b2 bl hfar
      refine wp_region_sq 15 [(0, true), (1, true), (2, true), (3, true), (4, true), (5, true), (6, true), (7, true), (8, true), (9, true), (10, true), (11, true), (12, true), (13, true), (14, false)] (fun w' => (w'.cell? ⟨w.heap.size + 1, 2, none⟩ = some (.slice (some ⟨g, 0, none⟩) ks.length c1) ∧ w'.cell? ⟨b, 2, none⟩ = some (.slice (some ad) ks.length c) ∧ w'.cell? (ad.add k) = some (.pointer (some ⟨b3, 0, none⟩))) ∧ VB w' w.heap.size x ∧ Below w2.heap.size w2 w') (by kernel_rfl) (by kernel_rfl) ⟨⟨f5, c2, cl2⟩, HX2.out.drew, (Below.refl _ _).drew⟩ (fun hS => ?_)
      iterate 13 (refine sq_t (v := ?_) rfl (by rfl) ?_ ?_; rotate_left; (· (intro w hSw; (try dsimp only at hSw); go_simp; try with_reducible rfl)); try simp only [Act.put, List.setIfInBounds_toArray, List.set_cons_zero, List.set_cons_succ])
      refine sq_t (v := x.a) rfl (by rfl) (fun w' hw' => exec_load_V (p := .tmp 5) (g := w.heap.size) rfl (by simp [Act.eval]) hw'.2.1) ?_
      try simp only [Act.put, List.setIfInBounds_toArray, List.set_cons_zero, List.set_cons_succ]
      refine sq_c rfl (fun K hK => ?_)
      go_simp
      refine (ih i2 x kk _ _ w2.drew (HIK2.out.keeps (.of_below (Below.refl _ _).drew)) hil hkl).mono ?_
      rintro e w4 ⟨q4, rfl, hq4, hb4⟩
      go_wp2_with fail
      have hB4 : Below w2.heap.size w2 w4 := (Below.refl w2.heap.size w2).drew.trans hb4
      refine hK.out _ _ ⟨⟨cb hB4 f5, cb hB4 c2, cb hB4 cl2⟩, Blk.below HX2.out hB4 HX2.out.lt, hB4⟩ (fun hS => ?_)
      clear hK K
      try simp only [Act.put, List.setIfInBounds_toArray, List.set_cons_zero, List.set_cons_succ]
      simp only [wpSq, List.drop_succ_cons, List.drop_zero]
      go_wp2_with (refine wpList_stOwn rfl rfl (own_below HO2.out hB4) k hk rfl (by first | rfl | exact addr_plain _ _ | simp [addr_plain]) rfl [.pointer q4] rfl rfl (by kernel_rfl) (by simp [Value.oneCell']) ?_; intro w5 HO5 ho5 hB5)
      refine NoPanic.normal ?_
      go_wp2
      go_ret
      have e1 : (vs.set i x) = (ks.set k (kk.set i2 x)).flatten := by rw [HFS.out, ← HU.out]
      have hBB := HB2.out.trans (hB4.mono HB2.out.size)
      have hk5 : Keeps (up (fun k => S k ∧ k < w.heap.size) w2.heap.size) w4 w5 := fun j hj hs => ho5 j (by
        rcases hs with ⟨_, h⟩ | h
        · have := HZ.out; omega
        · have := HO2.out.form (by omega); obtain ⟨g', cap, e5, _, h6⟩ := this; cases e5; omega)
      have hkk := (((HK2.out.keeps (.of_below hB4)).more (S' := up (fun k => S k ∧ k < w.heap.size) w2.heap.size) fun _ h => .inl h).set k hq4).keeps hk5
      refine ⟨_, rfl, ?_, hB5 _ _ hBB (by have := HZ.out; omega)⟩
      rw [e1]
      refine IsR.inner_mk (A := some ⟨g, 0, none⟩) (c := c1) (ps := ps.set k q4) (up_new (by omega)) (by omega) ?_ (by simpa using n1) (by simpa using m1) (by simpa using hc1) ?_ (hkk.more fun _ h => up_bound h HB2.out.size)
      · have h7 := (ho5 _ (Ne.symm hgn)).trans (HN2.out.below hB4 HN2.out.lt)
        rw [HN.out, HD.out] at h7
        rw [List.length_set, ← flen_flat, HFL.out, HF.out]
        exact h7
      · have h8 := HO5.out
        rw [splice_ptr (by rw [HK2.out.1]; exact hk)] at h8
        rw [List.length_set]
        exact (Reads.of_new (S := S) h8).more fun _ => up_le (by have := HZ.out; omega)
theorem set_any : ∀ d, SetOk d
  | 0 => fun _ _ _ _ _ _ h => h.elim
  | 1 => fun i x vs p S w h hi _ => set_leaf i x vs p S w h hi
  | d + 2 => fun i x vs p S w h hi hn => set_inner d (set_any (d + 1)) i x vs p S w h hi hn
set_option maxHeartbeats 2000000 in
theorem rset_bad (i : Int) (x : V) (vs : List V) (p : Option Addr) (S : Nat → Prop) (w : World) (h : IsRope w S vs p) (hi : inB i vs.length = false) :
    Calls Tryz.prog 128 #[.agg #[.pointer p], .int .i64 i, x.a] w (RopeOut w S [] 4) := by
  have H := Lib.hid h
  clear h
  unfold V.a
  go_enter Tryz.func128, Tryz.ntmps128
  go_wp2_with fail
  refine calls_at fun W hW => ?_
  obtain ⟨hB, hz, -, -, HO⟩ := boxes3 hW
  refine (has_any i vs p S _ (H.out.keeps (.of_below hB))).mono ?_
  rintro e w1 ⟨rfl, hb1⟩
  rw [hi]
  have c1 := (HO.below hb1 HO.lt).cell 0
  have f1 := (HO.below hb1 HO.lt).frozen 0
  have H1 := Lib.hid (HO.below hb1 HO.lt)
  have HB := Lib.hid (hB.trans (hb1.mono hB.size))
  clear hW HO hb1 hz hB hi
  go_wp2
  exact ret_ct (p := 6) (u := 7) rfl rfl rfl (H1.out.set_ 0 (.pointer none)) (by kernel_rfl) rfl ⟨none, rfl, .inl ⟨rfl, rfl⟩, HB.out.setCell (by simp; omega) _⟩
set_option maxHeartbeats 4000000 in
theorem rset_ok (i : Nat) (x : V) (vs : List V) (p : Option Addr) (S : Nat → Prop) (w : World) (h : IsRope w S vs p) (hi : i < vs.length) (hn : vs.length ≤ 65536) :
    Calls Tryz.prog 128 #[.agg #[.pointer p], .int .i64 i, x.a] w (RopeOut w S (vs.set i x) 0) := by
  have H := Lib.hid h.bound
  clear h
  have hin : inB i vs.length = true := by simp [inB, hi]
  unfold V.a
  go_enter Tryz.func128, Tryz.ntmps128
  go_wp2_with fail
  refine calls_at fun W hW => ?_
  obtain ⟨hB, hz, HP, HX, HO⟩ := boxes3 hW
  have KEEP : Hid (∀ W', Below W.heap.size W W' → Below w.heap.size w W' ∧ W'.cell? ⟨w.heap.size, 0, none⟩ = some (.pointer p) ∧ VB W' (w.heap.size + 1) x ∧ Blk W' (w.heap.size + 1 + 1) 37 #[.pointer none]) := Lib.hid fun W' h => ⟨hB.trans (h.mono hB.size), (HP.below h HP.lt).cell 0, HX.below h HX.lt, HO.below h HO.lt⟩
  have HZ := Lib.hid hz
  clear HP HX HO hz hW
  refine (has_any i vs p _ _ (H.out.keeps (.of_below hB))).mono ?_
  rintro e w1 ⟨rfl, hb1⟩
  rw [hin]
  have HB1 := Lib.hid hb1
  obtain ⟨hB1, cp, hx, -⟩ := KEEP.out _ hb1
  obtain ⟨x0, x1, x2, x3, x4, x5, x6, x7, x8, x9, xa⟩ := hx.cells
  obtain ⟨d, hd⟩ : ∃ d, IsR w1 (fun k => S k ∧ k < w.heap.size) d vs p := (H.out.keeps (.of_below hB1)).resolve_left (by rintro ⟨rfl, _⟩; simp at hi)
  have HD := Lib.hid hd
  clear hb1 hB hin hx hd
  go_wp2_with fail
  refine (set_any d i x vs p _ w1 HD.out hi hn).mono ?_
  rintro e w5 ⟨p5, rfl, hp5, hb5⟩
  obtain ⟨hB5, -, -, ho⟩ := KEEP.out _ (HB1.out.trans (hb5.mono HB1.out.size))
  have HP5 := Lib.hid hp5.rope
  have c5 := ho.cell 0
  have f5 := ho.frozen 0
  have HO := Lib.hid ho
  have HBB := Lib.hid hB5
  have hz1 := HB1.out.size
  clear hp5 hb5 HB1 ho hB5 x0 x1 x2 x3 x4 x5 x6 x7 x8 x9 xa cp hB1 HD
  go_wp2
  refine ret_ct (p := 6) (u := 7) rfl rfl rfl (HO.out.set_ 0 (.pointer p5)) (by kernel_rfl) rfl ⟨p5, rfl, ?_, HBB.out.setCell (by simp; omega) _⟩
  exact (HP5.out.keeps (keeps_box (by omega) (by have := HZ.out; omega))).more fun _ h => up_bound h (by have := HZ.out; omega)
end Go.Proofs.YtfcegalckjeafaaGreatDoor
namespace Go.Proofs.YtfcegalckjeafaaGreatDoor
open Go.RowKit Go.BigFrame Go.Shelf
attribute [local go_sem] Oper.semAt_some
section
variable {F : Fence} {n : Nat} {ops : Array Oper} {rest : List Oper} {o : Oper} {a : Act} {w : World} {Q : Exit → Act → World → Prop}
theorem wpListIn_ldl (hg : o.guard = none) {ty : Nat} {p : Operand} (ho : o.op = .load ty p) {ad : Addr} (hp : a.eval p = .pointer (some ad))
    (cs : List Value) (h : structB ty cs.length = true) (hc : ∀ j u, cs[j]? = some u → w.cell? (ad.add j) = some u) (hK : wpListIn F n Tryz.prog ops Q rest (a.put o.dst (.agg cs.toArray)) w) : wpListIn F n Tryz.prog ops Q (o :: rest) a w :=
  wpListIn_plain hg fun K hK' => by
    unfold Oper.wpIn
    refine ⟨by simp [Oper.about, ho], ?_⟩
    rw [Oper.semAt_plain F _ _ (by rw [ho]; intro c hc'; cases hc'), exec_load_list h ho hp hc]
    exact hK' _ _ hK
theorem wpListIn_stV (hg : o.guard = none) {p x : Operand} (ho : o.op = .store 42 p x) {g : Nat} (hp : a.eval p = .pointer (some ⟨g, 0, none⟩)) (v : V) {cur : V} (hb : VB w g cur) (hx : a.eval x = v.a)
    (h : ∀ w', Hid (VB w' g v) → (∀ k, k ≠ g → w'.heap[k]? = w.heap[k]?) → (∀ B w0, Below B w0 w → B ≤ g → Below B w0 w') → wpListIn F n Tryz.prog ops Q rest (a.put o.dst undef) w') : wpListIn F n Tryz.prog ops Q (o :: rest) a w :=
  wpListIn_plain hg fun K hK' => by
    unfold Oper.wpIn
    refine ⟨by simp [Oper.about, ho], ?_⟩
    rw [Oper.semAt_plain F _ _ (by rw [ho]; intro c hc'; cases hc')]
    have hx' : a.eval x = .agg v.l.toArray := hx
    unfold execOp
    simp only [ho, hp, hx', Instr.storeAt, Instr.sureAddr, Sem.run_bind, Sem.run_pure, Result.andThen_ok, run_storeVar_row w g _ 42 _ v.l.toArray hb (infoV v) rfl v.one]
    exact hK' _ _ (h _ (setRow_heap w g _ _ _ _ hb) (fun k hk => setRow_other w g k _ hk) (fun _ _ hb' hB => below_setRow hb' hB _))
end
/-- A round may make memory, and turn what is not of S. -/
def Kp (S : Nat → Prop) (W W' : World) : Prop := W.heap.size ≤ W'.heap.size ∧ Keeps S W W'
theorem Kp.refl {S : Nat → Prop} {W : World} : Kp S W W := ⟨Nat.le_refl _, fun _ _ _ => rfl⟩
theorem Kp.trans {S : Nat → Prop} {A B C : World} (h : Kp S A B) (k : Kp S B C) : Kp S A C := ⟨Nat.le_trans h.1 k.1, fun i hi hs => (k.2 i (Nat.lt_of_lt_of_le hi h.1) hs).trans (h.2 i hi hs)⟩
theorem Kp.of_below {S : Nat → Prop} {A B : World} (h : Below A.heap.size A B) : Kp S A B := ⟨h.size, .of_below h⟩
theorem yieldAt_any {P : Program} {l m m' : Nat} {args : Array Value} {W : World} {R : Ending → World → Prop} (h : YieldAt Fence.wide m P l args W R) : YieldAt Fence.wide m' P l args W R := by
  obtain ⟨fn, tmps, assign, body, hy, hR⟩ := h
  exact ⟨fn, tmps, assign, body, hy, hR.1, fun c cs _ => hR.2 c cs (room_wide _)⟩
/-- The first places. -/
def fins (n k : Nat) : List (Fin n) := (List.finRange n).take k
theorem fins_all (n : Nat) : fins n n = List.finRange n := List.take_of_length_le (by simp)
theorem fins_len {n k : Nat} (h : k ≤ n) : (fins n k).length = k := by simp [fins, h]
theorem fins_succ {n k : Nat} (h : k < n) : fins n (k + 1) = fins n k ++ [⟨k, h⟩] := by
  unfold fins
  rw [List.take_succ_eq_append_getElem (by simpa using h)]
  simp
/-- The cells of a round. -/
def rcells (L : List V) (i : Fin L.length) : Array Value := #[.int .i64 (i.val : Int), (L[i.val]).a]
theorem rcells_at {L : List V} {off k : Nat} {h : off + k < L.length} {v : V} (hv : L[off + k] = v) : rcells L ⟨off + k, h⟩ = #[.int .i64 ((off : Int) + (k : Int)), .agg #[.int .i64 v.sk, .int .i64 v.si, .string ⟨v.st.toArray⟩, .int .i64 v.kd, .pointer v.vec, .int .u64 v.seed, .int .i64 v.bits, .int .i64 v.n, .pointer v.dic, .int .i64 v.bel, .int .i64 v.mor]] := by
  subst hv; simp [rcells, V.a]
section
variable (n l : Nat) (S : Nat → Prop) (L : List V) (J Jx : List (Fin L.length) → World → Prop)
def EachIn (off : Nat) (vs : List V) (W : World) (e : Ending) (W' : World) : Prop := (e = .returned (.bool true) ∧ J (fins L.length (off + vs.length)) W' ∧ Kp S W W') ∨ (e = .returned (.bool false) ∧ ∃ k, Jx (fins L.length k) W')
def RoundOk : Prop := ∀ pre (x : Fin L.length) W, J pre W → pre.length < L.length → YieldAt Fence.wide 0 Tryz.prog l (rcells L x) W fun e W' => (e = .returned (.bool true) ∧ J (pre ++ [x]) W' ∧ Kp S W W') ∨ (e = .returned (.bool false) ∧ Jx (pre ++ [x]) W')
def Lives (J : List (Fin L.length) → World → Prop) : Prop := ∀ s W W', J s W → Below W.heap.size W W' → J s W'
end
set_option maxRecDepth 100000 in
set_option maxHeartbeats 4000000 in
theorem reach_leaf (n l : Nat) (S : Nat → Prop) (L : List V) (J Jx : List (Fin L.length) → World → Prop) (hY : RoundOk l S L J Jx) (hJ : Lives L J) (vs : List V) (p : Option Addr) (off : Nat) (W : World) (hp : IsR W S 1 vs p) (ho : off + vs.length ≤ L.length) (hv : ∀ i, i < vs.length → L[off + i]? = vs[i]?) (hL : L.length ≤ 65536) (h0 : J (fins L.length off) W) :
    CallsIn Fence.wide n Tryz.prog 172 #[.pointer p, .int .i64 off, .func (.yield l) #[] #[]] W (EachIn S L J Jx off vs W) := by
  obtain ⟨b, A, c, rfl, hs, hb, n1, m1, k1, r1⟩ := hp.leaf
  have f2 := hb.cell 2
  have f3 := hb.cell 3
  simp only [List.getElem?_toArray, List.getElem?_cons_succ, List.getElem?_cons_zero] at f2 f3
  have HB := Lib.hid hb
  have HR := Lib.hid r1
  have HV := Lib.hid hv
  have H0 := Lib.hid h0
  clear hp hb r1 hv h0
  refine callsIn_of_wp Tryz.func172 rfl trivial ?_ rfl
  simp only [Tryz.ntmps172, List.size_toArray, List.length_cons, List.length_nil, Nat.reduceAdd, Nat.reduceSub, Array.replicate_succ, Array.replicate_zero, List.push_toArray, List.append_toArray, List.nil_append, List.cons_append]
  gi_wp2
  gi_loopw [16] (fun t wr => ∃ k : Nat, k ≤ vs.length ∧ t = .int .i64 k ∧ Hid (J (fins L.length (off + k)) wr) ∧ Hid (Kp S W wr)) (fun t _ => vs.length - (intOf t).toNat)
  case atStart => exact ⟨0, Nat.zero_le _, rfl, H0, Kp.refl⟩
  case round =>
    obtain ⟨k, hk, rfl, hJs, hK⟩ := hrel
    by_cases hlt : k < vs.length
    · obtain ⟨v, hvk⟩ : ∃ v, vs[k]? = some v := ⟨vs[k], List.getElem?_eq_getElem hlt⟩
      obtain ⟨ad, rfl, hc⟩ := flat_cells (HR.out.keeps hK.out.2) hvk
      have hok : off + k < L.length := by omega
      have hLk : L[off + k]? = some v := (HV.out k hlt).trans hvk
      have HLv : Hid (L[off + k] = v) := Lib.hid (by rw [List.getElem?_eq_getElem hok] at hLk; simpa using hLk)
      have HC := Lib.hid hc
      have hokb : ((off : Int) + (k : Int)) ≤ 65536 := by omega
      have h0 : (0 : Int) ≤ (k : Int) := by omega
      clear hvk hc hLk
      gi_wp2_with (first | (refine wpListIn_ldl rfl (o := ⟨some 20, _, _, _, _, _⟩) rfl rfl v.l isV HC.out ?_) | (refine wpListIn_stV rfl rfl rfl v (Blk.new wr _ V.z.l.toArray) rfl ?_; intro w2 HR2 ho2 hB2; have hb2 := hB2 _ _ ((Below.refl wr.heap.size wr).alloc (Nat.le_refl _) _) (Nat.le_refl _); obtain ⟨fn, tmps, assign, body, hy, hR⟩ := yieldAt_any (m' := n - 1) (hY _ ⟨off + k, hok⟩ w2 (hJ _ _ _ hJs.out hb2) (by rw [fins_len (by omega)]; omega)); rw [rcells_at HLv.out] at hy; obtain ⟨x0, x1, x2, x3, x4, x5, x6, x7, x8, x9, xa⟩ := VB.cells HR2.out; have HK2 := Lib.hid (hK.out.trans (.of_below hb2)); clear hB2 ho2 hb2))
      clear x0 x1 x2 x3 x4 x5 x6 x7 x8 x9 xa hy
      refine ⟨by simp [Fence.wide], hR.mono ?_⟩
      rintro e W3 (⟨rfl, hJ3, hK3⟩ | ⟨rfl, hJx⟩)
      · rw [← fins_succ] at hJ3
        have HJ3 := Lib.hid hJ3
        have HK3 := Lib.hid (HK2.out.trans hK3)
        clear hJ3 hK3 hR
        gi_wp2
        go_roundw
        case rel => exact ⟨k + 1, by omega, by go_num, HJ3, HK3⟩
        case measure => simp [intOf]; omega
      · rw [← fins_succ] at hJx
        have HX := Lib.hid hJx
        clear hJx hR
        gi_wp2
        go_ret
        exact .inr ⟨rfl, _, HX.out⟩
    · obtain rfl : k = vs.length := by omega
      have g2 := cell_keeps f2 hK.out.2 hs
      gi_wp2
      gi_loopw [34] (fun t wx => wx = wr ∧ t = .int .i64 0) (fun _ _ => 0)
      case atStart => exact ⟨rfl, rfl⟩
      case round =>
        obtain ⟨rfl, rfl⟩ := hrel
        gi_wp2
        go_ret
        exact .inl ⟨rfl, hJs.out, hK.out⟩
end Go.Proofs.YtfcegalckjeafaaGreatDoor
namespace Go.Proofs.YtfcegalckjeafaaGreatDoor
open Go.RowKit Go.BigFrame Go.Shelf
/-- The table of TrailingZeros32. -/
def TabAt (w : World) : Prop := ∀ j, j < Lib.deBruijn32tab.length → w.cell? ⟨2, j, none⟩ = some (.int .u8 (Lib.deBruijn32tab.getD j 0))
theorem TabAt.below {B : Nat} {w w' : World} (h : TabAt w) (hb : Below B w w') (hB : 2 < B) : TabAt w' := fun j hj => (hb.cell (p := ⟨2, j, none⟩) hB).trans (h j hj)
theorem wp_at {P : Program} {c : Code} {Q : Exit → Act → World → Prop} {a : Act} {w : World} (h : ∀ W, W = w → c.wp P Q a W) : c.wp P Q a w := h w rfl
theorem at_zero (g j : Nat) : (⟨g, 0, none⟩ : Addr).add j = ⟨g, j, none⟩ := by cases j <;> simp [Addr.add]
end Go.Proofs.YtfcegalckjeafaaGreatDoor
