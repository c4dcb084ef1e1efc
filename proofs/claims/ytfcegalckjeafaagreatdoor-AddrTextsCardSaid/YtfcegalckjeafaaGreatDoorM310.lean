/-
  Parts of the proof that AddrBegins,AddrTexts calls on: Rr, Rs, Rt, Hd, Bs, Mx, My, Mz.
-/
import Derived.Deep.DeepAppendRoom
import Derived.Deep.LoopGhost
import Derived.Laws.BitsAllLaws
import Derived.Lib.Bytealg
import Derived.Lib.TrailingZeros
import Derived.LoopIn
import Derived.LoopNIn
import Derived.OwnWalkIn
import Derived.RangeFuncBox
import Derived.RangeFuncCalls
import Derived.RangeFuncKeeps
import Derived.RangeFuncLeaves
import Derived.Shelf.Abstract
import Derived.TacticsInMore
import Derived.Test.YtfcegalckjeafaaGreatDoorM305
import Derived.Test.YtfcegalckjeafaaGreatDoorM308
import Derived.Test.YtfcegalckjeafaaGreatDoorM309
namespace Go.Proofs.YtfcegalckjeafaaGreatDoor
open Go.RowKit Go.BigFrame
def GotOut (w : World) (x : V) (b : Bool) (e : Ending) (w' : World) : Prop := e = .returned (.tuple #[x.a, .bool b]) ∧ Below w.heap.size w w'
theorem flat_get {ks : List (List V)} {k j i : Nat} (hk : k < ks.length) (h : j + flen (ks.take k) = i) (hj : j < ks[k].length) : ks.flatten[i]? = ks[k][j]? := by
  subst h
  rw [flat_parts hk, List.getElem?_append_right (by rw [flen_flat]; omega), flen_flat, Nat.add_sub_cancel, List.getElem?_append_left hj]
set_option maxHeartbeats 2000000 in
theorem get_bad (i : Int) (vs : List V) (p : Option Addr) (S : Nat → Prop) (w : World) (h : IsRope w S vs p) (hi : inB i vs.length = false) :
    Calls Tryz.prog 102 #[.agg #[.pointer p], .int .i64 i] w (GotOut w V.z false) := by
  have H := Lib.hid h
  clear h
  go_enter Tryz.func102, Tryz.ntmps102
  go_wp2_with fail
  refine calls_at fun W hW => ?_
  obtain ⟨hB, hz, -, HO⟩ := boxes2 (t2 := 42) (c2 := V.z.l.toArray) hW
  refine (has_any i vs p S _ (H.out.keeps (.of_below hB))).mono ?_
  rintro e w1 ⟨rfl, hb1⟩
  rw [hi]
  have H1 := Lib.hid (HO.below hb1 HO.lt)
  have HB := Lib.hid (hB.trans (hb1.mono hB.size))
  have hz1 := hb1.size
  have hol := H1.out.lt
  clear hW HO hb1 hB hi
  go_wp2_with (refine wpList_stV rfl rfl rfl V.z (H1.out.alloc _) rfl ?_; intro w2 HR2 ho2 hB2)
  exact ret_ct (p := 4) (u := 5) rfl rfl rfl HR2.out (by kernel_rfl) rfl ⟨rfl, hB2 _ _ (HB.out.alloc HB.out.size _) (by omega)⟩
set_option maxRecDepth 100000 in
set_option maxHeartbeats 4000000 in
theorem get_ok (i : Nat) (x : V) (vs : List V) (p : Option Addr) (S : Nat → Prop) (w : World) (h : IsRope w S vs p) (hx : vs[i]? = some x) (hn : vs.length ≤ 65536) :
    Calls Tryz.prog 102 #[.agg #[.pointer p], .int .i64 i] w (GotOut w x true) := by
  have hi := (List.getElem?_eq_some_iff.1 hx).1
  have hin : inB i vs.length = true := by simp [inB, hi]
  have H := Lib.hid h
  have HX := Lib.hid hx
  obtain ⟨d, hd⟩ : ∃ d, IsR w S d vs p := h.resolve_left (by rintro ⟨rfl, _⟩; simp at hi)
  have HD := Lib.hid hd
  have hds := hd.shallow hn
  clear h hx hd
  go_enter Tryz.func102, Tryz.ntmps102
  go_wp2_with fail
  refine calls_at fun W hW => ?_
  obtain ⟨hB, hz, HP, HO⟩ := boxes2 (t2 := 42) (c2 := V.z.l.toArray) hW
  refine (has_any i vs p S _ (H.out.keeps (.of_below hB))).mono ?_
  rintro e w1 ⟨rfl, hb1⟩
  rw [hin]
  have H1 := Lib.hid (HO.below hb1 HO.lt)
  have hol := H1.out.lt
  have cp := (HP.below hb1 HP.lt).cell 0
  simp only [List.getElem?_toArray, List.getElem?_cons_zero] at cp
  have HB := Lib.hid (hB.trans (hb1.mono hB.size))
  have HD1 := Lib.hid (HD.out.keeps (.of_below HB.out))
  clear hW HO hb1 hB hin HP HD H
  go_wp2_with fail
  go_loopg [1, 7] d (fun g t1 t7 wx => w1 = wx ∧ ∃ (j : Nat) (us : List V) (q : Option Addr), t1 = .int .i64 j ∧ t7 = .pointer q ∧ Hid (IsR w1 S g us q) ∧ j < us.length ∧ us.length ≤ 65536 ∧ g ≤ 17 ∧ Hid (us[j]? = some x))
  case atStart => exact ⟨rfl, i, vs, p, rfl, rfl, HD1, hi, hn, hds, HX⟩
  case round =>
    obtain ⟨rfl, j, us, q, rfl, rfl, hQ, hj, hus, hg17, hX⟩ := hrel
    match gk, hQ, hg17 with
    | 0, hQ, _ => exact hQ.out.elim
    | 1, hQ, _ =>
      obtain ⟨b, A, c, rfl, -, hb, n1, m1, k1, r1⟩ := hQ.out.leaf
      obtain ⟨ad, rfl, hc⟩ := flat_cells r1 hX.out
      have f1 := hb.cell 1
      have f3 := hb.cell 3
      have HC := Lib.hid hc
      have h0 : (0 : Int) ≤ (j : Int) := by omega
      have h1 : (j : Int) < (us.length : Int) := by omega
      have HF := Lib.hid H1.out
      clear hb r1 hc hQ
      go_wp2_with (first | (refine wpList_ldl rfl (o := ⟨some 60, _, _, _, _, _⟩) rfl rfl x.l isV HC.out ?_) | (refine wpList_stV rfl rfl rfl x HF.out rfl ?_; intro w2 HR2 ho2 hB2))
      exact ret_ct (p := 4) (u := 5) rfl rfl rfl HR2.out (by kernel_rfl) rfl ⟨rfl, hB2 _ _ HB.out (by omega)⟩
    | d + 2, hQ, hg17 =>
      obtain ⟨b, A, c, ks, ps, rfl, -, hx, hb, n1, m1, k1, r1, K1⟩ := hQ.out.inner
      have hfl : flen ks = us.length := by rw [flen_flat, hx]
      have f1 := hb.cell 1
      have f2 := hb.cell 2
      simp only [List.getElem?_toArray, List.getElem?_cons_succ, List.getElem?_cons_zero] at f1 f2
      have hd1 : (1 : Int) < ((d + 2 : Nat) : Int) := by omega
      have R1 := Lib.hid r1
      have HK := Lib.hid K1
      have HU := Lib.hid hx
      have HF := Lib.hid hfl
      clear hb r1 K1 hx hfl hQ
      generalize ((d + 2 : Nat) : Int) = D at *
      go_wp2_with fail
      go_loop [1, 8] (fun t1 t8 => ∃ k : Nat, k < ks.length ∧ t8 = .int .i64 k ∧ flen (ks.take k) ≤ j ∧ t1 = .int .i64 ((j - flen (ks.take k) : Nat) : Int)) (fun _ t8 => (ks.length - intOf t8).toNat)
      case atStart => exact ⟨0, by omega, rfl, by simp [flen], by simp [flen]⟩
      case round =>
        obtain ⟨k, hk, rfl, hle, rfl⟩ := hrel
        obtain ⟨q, hq, ik⟩ := HK.out.at_ hk
        have HIK := Lib.hid ik
        obtain ⟨b3, u3, x3, rfl, -, hb3⟩ := ik.head
        obtain ⟨ad, rfl, cl⟩ := R1.out.ptr hq
        have f3 := hb3.cell 0
        simp only [List.getElem?_toArray, List.getElem?_cons_zero] at f3
        have HS := Lib.hid (flen_succ ks k hk)
        have HL := Lib.hid (flen_take ks (k + 1))
        have hk3 : (k : Int) < (ks.length : Int) := by omega
        obtain ⟨i2, hi2⟩ : ∃ i2, i2 = j - flen (ks.take k) := ⟨_, rfl⟩
        have HJ : Hid (i2 + flen (ks.take k) = j) := Lib.hid (by omega)
        have hjb : (i2 : Int) ≤ 65536 := by omega
        rw [← hi2]
        clear hi2 hb3 ik hq
        by_cases hge : ks[k].length ≤ i2
        · have hge' : (ks[k].length : Int) ≤ (i2 : Int) := by omega
          have hlt : k + 1 < ks.length := by
            have h1 := HS.out; have h2 := HJ.out; have h3 := HF.out
            rcases Nat.lt_or_ge (k + 1) ks.length with h | h
            · exact h
            · rw [List.take_of_length_le h] at h1; omega
          go_wp2
          go_round
          case rel => exact ⟨k + 1, hlt, by go_num, by have := HS.out; have := HJ.out; omega, by have := HS.out; have := HJ.out; rw [show j - flen (ks.take (k + 1)) = i2 - ks[k].length by omega]; go_num⟩
          case measure => simp [intOf]; omega
        · have hge' : ¬ (ks[k].length : Int) ≤ (i2 : Int) := by omega
          have hkl : ks[k].length ≤ 65536 := by have := HS.out; have := HL.out; have := HF.out; omega
          have hXk : Hid (ks[k][i2]? = some x) := Lib.hid (by rw [← flat_get hk HJ.out (by omega), ← HU.out]; exact hX.out)
          have hil : i2 < ks[k].length := by omega
          generalize ks[k] = kk at *
          go_wp2_with fail
          go_roundg (d + 1)
          case measure => omega
          case rel => exact ⟨rfl, i2, kk, _, rfl, rfl, HIK, hil, hkl, by omega, hXk⟩
end Go.Proofs.YtfcegalckjeafaaGreatDoor
namespace Go.Proofs.YtfcegalckjeafaaGreatDoor
open Go.RowKit Go.BigFrame
set_option maxRecDepth 100000 in
set_option maxHeartbeats 4000000 in
theorem set_leaf (i : Nat) (x : V) (vs : List V) (p : Option Addr) (S : Nat → Prop) (w : World) (hp : IsR w S 1 vs p) (hi : i < vs.length) :
    Calls Tryz.prog 178 #[.pointer p, .int .i64 i, x.a] w (RootOut w S 1 (vs.set i x)) := by
  obtain ⟨b, A, c, rfl, hs, hb, n1, m1, k1, r1⟩ := hp.leaf
  obtain ⟨N, hN⟩ : ∃ N : Int, N = (vs.length : Int) := ⟨_, rfl⟩
  have HN := Lib.hid hN
  rw [← hN] at hb
  have f0 := hb.cell 0
  have f1 := hb.cell 1
  have f3 := hb.cell 3
  simp only [List.getElem?_toArray, List.getElem?_cons_succ, List.getElem?_cons_zero] at f0 f1 f3
  have hbl := hb.lt
  have HR := Lib.hid r1
  have hi' : (i : Int) < (vs.length : Int) := by omega
  have h0 : (0 : Int) ≤ (i : Int) := by omega
  clear hp hb r1 hN
  unfold V.a
  go_enter Tryz.func178, Tryz.ntmps178
  go_wp2_with fail
  have g0 : (w.alloc (.cells x.l.toArray 42)).cell? ⟨b, 0, none⟩ = some (.int .i64 N) := cb ((Below.refl _ _).alloc (Nat.le_refl _) _) f0
  have g1 : (w.alloc (.cells x.l.toArray 42)).cell? ⟨b, 1, none⟩ = some (.int .i64 1) := cb ((Below.refl _ _).alloc (Nat.le_refl _) _) f1
  go_region_held3 (fun w' => w'.cell? ⟨b, 0, none⟩ = some (.int .i64 N) ∧ w'.cell? ⟨b, 1, none⟩ = some (.int .i64 1)) (first | exact ⟨g0, g1⟩ | go_keep) (fail)
  rename_i hHeld
  clear g0 g1
  go_wp2_with fail
  refine calls_at fun W hW => ?_
  obtain ⟨hB, hz, HX, HO⟩ := boxes2d (c1 := x.l.toArray) hW
  refine (copyV _ _ _ vs _ _ (HR.out.keeps (.of_below hB)) (by omega)).mono ?_
  rintro e w1 ⟨v1, rfl, ho1, hb1⟩
  obtain ⟨A1, c1, rfl, hc1⟩ := own_shape ho1
  obtain ⟨g, rfl⟩ : ∃ g, A1 = some ⟨g, 0, none⟩ := by
    rcases ho1.2 with ⟨h, h2⟩ | ⟨g, cap, cur, h, _⟩
    · omega
    · injection h with h1; exact ⟨g, h1⟩
  have hgW : W.heap.size ≤ g := own_base ho1 rfl
  have HO1 := Lib.hid ho1
  have HB := Lib.hid (hB.trans (hb1.mono hB.size))
  have HN1 := Lib.hid (HO.below hb1 HO.lt)
  obtain ⟨x0, x1, x2, x3, x4, x5, x6, x7, x8, x9, xa⟩ := VB.cells (HX.below hb1 HX.lt : VB w1 w.heap.size x)
  have q3 := HN1.out.cell 3
  have z3 := HN1.out.frozen 3
  have hgn : g ≠ w.heap.size + 1 := by omega
  have hz1 := hb1.size
  have HX1 := Lib.hid (Blk.below HX hb1 HX.lt)
  have hWs := hB.size
  clear hW HX HO hb1 ho1 hHeld
  go_wp2_with fail
  obtain ⟨w2, hw2⟩ : ∃ w2, w2 = w1.setCell ⟨w.heap.size + 1, 3, none⟩ (.slice (some ⟨g, 0, none⟩) vs.length c1) := ⟨_, rfl⟩
  rw [← hw2]
  have hxl := HX1.out.lt
  have hnl := HN1.out.lt
  have HN2 : Hid (Blk w2 (w.heap.size + 1) 217 #[.int .i64 N, .int .i64 1, .slice none 0 0, .slice (some ⟨g, 0, none⟩) vs.length c1]) := Lib.hid (by rw [hw2]; simpa using HN1.out.set_ 3 (.slice (some ⟨g, 0, none⟩) vs.length c1))
  have HX2 : Hid (VB w2 w.heap.size x) := Lib.hid (by rw [hw2]; exact Blk.far HX1.out (by simp) _)
  have HO2 : Hid (w2.ownsRow W.heap.size 42 11 (.slice (some ⟨g, 0, none⟩) vs.length c1) vs.length (flat vs)) := Lib.hid (by rw [hw2]; exact ownsRow_setCell_other HO1.out (by simpa [Value.ownBlock] using hgn) _)
  have HB2 : Hid (Below w.heap.size w w2) := Lib.hid (by rw [hw2]; exact HB.out.setCell (by simp) _)
  have f5 := HN2.out.cell 3
  simp only [List.getElem?_toArray, List.getElem?_cons_succ, List.getElem?_cons_zero] at f5
  clear hw2 HN1 HX1 HO1 HB x0 x1 x2 x3 x4 x5 x6 x7 x8 x9 xa q3 z3
  refine wp_region_sq 6 [(0, true), (1, true), (2, true), (3, true), (4, true), (5, true)] (fun w' => w'.cell? ⟨w.heap.size + 1, 3, none⟩ = some (.slice (some ⟨g, 0, none⟩) vs.length c1) ∧ VB w' w.heap.size x) (by kernel_rfl) (by kernel_rfl) ⟨f5, HX2.out.drew⟩ (fun hS => ?_)
  iterate 5 (refine sq_t (v := ?_) rfl (by rfl) ?_ ?_; rotate_left; (· (intro w hSw; (try dsimp only at hSw); go_simp; try with_reducible rfl)); try simp only [Act.put, List.setIfInBounds_toArray])
  refine sq_t (v := x.a) rfl (by rfl) (fun w' hw' => exec_load_V rfl rfl hw'.2) ?_
  simp only [wpSq, List.drop_succ_cons, List.drop_zero]
  go_wp2_with (refine wpList_stOwn (w := w2.drew) rfl rfl HO2.out i hi rfl (by first | rfl | exact addr_plain _ _) rfl x.l rfl x.l_len (infoV x) (one_V x) ?_; intro w3 HO3 ho3 hB3)
  refine NoPanic.normal ?_
  go_wp2
  go_ret
  refine ⟨_, rfl, IsR.leaf_mk (A := some ⟨g, 0, none⟩) (c := c1) (up_new (by omega)) ?_ (by simpa using n1) (by simpa using m1) (by simpa using hc1) ?_, hB3 _ _ HB2.out.drew (by omega)⟩
  · have := (ho3 _ (Ne.symm hgn)).trans HN2.out
    rw [HN.out] at this
    rw [List.length_set]
    exact this
  · have := HO3.out
    rw [splice_flat hi] at this
    have := (Reads.of_new (S := S) this).more fun _ => up_le hB.size
    simpa using this
def SetOk (d : Nat) : Prop := ∀ (i : Nat) (x : V) (vs : List V) (p : Option Addr) (S : Nat → Prop) (w : World), IsR w S d vs p → i < vs.length → vs.length ≤ 65536 →
    Calls Tryz.prog 178 #[.pointer p, .int .i64 i, x.a] w (RootOut w S d (vs.set i x))
theorem flat_set {ks : List (List V)} {k j i : Nat} {x : V} (hk : k < ks.length) (h : j + flen (ks.take k) = i) (hj : j < ks[k].length) : (ks.set k (ks[k].set j x)).flatten = ks.flatten.set i x := by
  subst h
  have h1 : (ks.set k (ks[k].set j x)).flatten = (ks.take k).flatten ++ (ks[k].set j x ++ (ks.drop (k + 1)).flatten) := by
    rw [List.set_eq_take_append_cons_drop, if_pos hk, List.flatten_append, List.flatten_cons]
  rw [h1, flat_parts hk, List.set_append_right _ _ (by rw [flen_flat]; omega), flen_flat, Nat.add_sub_cancel, List.set_append_left _ _ hj]
set_option maxRecDepth 100000 in
set_option maxHeartbeats 8000000 in
theorem set_inner (d : Nat) (ih : SetOk (d + 1)) (i : Nat) (x : V) (vs : List V) (p : Option Addr) (S : Nat → Prop) (w : World) (hp : IsR w S (d + 2) vs p) (hi : i < vs.length) (hn : vs.length ≤ 65536) :
    Calls Tryz.prog 178 #[.pointer p, .int .i64 i, x.a] w (RootOut w S (d + 2) (vs.set i x)) := by
  obtain ⟨b, A, c, ks, ps, rfl, -, hx, hb, n1, m1, k1, r1, K1⟩ := hp.bound.inner
  have hfl : flen ks = vs.length := by rw [flen_flat, hx]
  have hd1 : (((d + 2 : Nat) : Int) == 1) = false := by simp; omega
  obtain ⟨N, hN⟩ : ∃ N : Int, N = (vs.length : Int) := ⟨_, rfl⟩
  obtain ⟨D, hD⟩ : ∃ D : Int, D = ((d + 2 : Nat) : Int) := ⟨_, rfl⟩
  have HN := Lib.hid hN
  have HD := Lib.hid hD
  rw [← hN, ← hD] at hb
  rw [← hD] at hd1
  have f0 := hb.cell 0
  have f1 := hb.cell 1
  have f2 := hb.cell 2
  simp only [List.getElem?_toArray, List.getElem?_cons_succ, List.getElem?_cons_zero] at f0 f1 f2
  have hbl := hb.lt
  have R1 := Lib.hid r1
  have HK := Lib.hid K1
  have HU := Lib.hid hx
  have HF := Lib.hid hfl
  clear hp hb r1 K1 hN hD hx hfl
  unfold V.a
  go_enter Tryz.func178, Tryz.ntmps178
  go_wp2_with fail
  have g0 : (w.alloc (.cells x.l.toArray 42)).cell? ⟨b, 0, none⟩ = some (.int .i64 N) := cb ((Below.refl _ _).alloc (Nat.le_refl _) _) f0
  have g1 : (w.alloc (.cells x.l.toArray 42)).cell? ⟨b, 1, none⟩ = some (.int .i64 D) := cb ((Below.refl _ _).alloc (Nat.le_refl _) _) f1
  go_region_held3 (fun w' => w'.cell? ⟨b, 0, none⟩ = some (.int .i64 N) ∧ w'.cell? ⟨b, 1, none⟩ = some (.int .i64 D)) (first | exact ⟨g0, g1⟩ | go_keep) (fail)
  rename_i hHeld
  clear g0 g1 hHeld
  generalize hW : World.drew _ = W
  obtain ⟨hB, hz, HX, HO⟩ := boxes2d (c1 := x.l.toArray) hW.symm
  have HX := Lib.hid HX
  have HO := Lib.hid HO
  have HB := Lib.hid hB
  have a0 := cb hB f0
  have a1 := cb hB f1
  have a2 := cb hB f2
  have R1 := Lib.hid (R1.out.keeps (.of_below hB))
  have HK := Lib.hid (HK.out.keeps (.of_below hB))
  have HZ := Lib.hid hz
  clear hW hB hz f0 f1 f2
  go_wp2_with fail
  go_loop [1, 8] (fun t1 t8 => ∃ k : Nat, k < ks.length ∧ t8 = .int .i64 k ∧ flen (ks.take k) ≤ i ∧ t1 = .int .i64 ((i - flen (ks.take k) : Nat) : Int)) (fun _ t8 => (ks.length - intOf t8).toNat)
  case atStart => exact ⟨0, by omega, rfl, by simp [flen], by simp [flen]⟩
  case round =>
    obtain ⟨k, hk, rfl, hle, rfl⟩ := hrel
    obtain ⟨q, hq, ik⟩ := HK.out.at_ hk
    have HIK := Lib.hid ik
    obtain ⟨b3, u3, x3, rfl, -, hb3⟩ := ik.head
    obtain ⟨ad, rfl, cl⟩ := R1.out.ptr hq
    have f3 := hb3.cell 0
    simp only [List.getElem?_toArray, List.getElem?_cons_zero] at f3
    have HS := Lib.hid (flen_succ ks k hk)
    have HL := Lib.hid (flen_take ks (k + 1))
    have hk3 : (k : Int) < (ks.length : Int) := by omega
    obtain ⟨i2, hi2⟩ : ∃ i2, i2 = i - flen (ks.take k) := ⟨_, rfl⟩
    have HJ : Hid (i2 + flen (ks.take k) = i) := Lib.hid (by omega)
    have hjb : (i2 : Int) ≤ 65536 := by omega
    rw [← hi2]
    clear hi2 hb3 ik hq
    by_cases hge : ks[k].length ≤ i2
    · have hge' : (ks[k].length : Int) ≤ (i2 : Int) := by omega
      have hlt : k + 1 < ks.length := by
        have h1 := HS.out; have h2 := HJ.out; have h3 := HF.out
        rcases Nat.lt_or_ge (k + 1) ks.length with h | h
        · exact h
        · rw [List.take_of_length_le h] at h1; omega
      go_wp2
      go_round
      case rel => exact ⟨k + 1, hlt, by go_num, by have := HS.out; have := HJ.out; omega, by have := HS.out; have := HJ.out; rw [show i - flen (ks.take (k + 1)) = i2 - ks[k].length by omega]; go_num⟩
      case measure => simp [intOf]; omega
    · have hge' : ¬ (ks[k].length : Int) ≤ (i2 : Int) := by omega
      have hkl : ks[k].length ≤ 65536 := by have := HS.out; have := HL.out; have := HF.out; omega
      have hil : i2 < ks[k].length := by omega
      have HFS := Lib.hid (flat_set (x := x) hk HJ.out hil)
      have HFL : Hid (flen (ks.set k (ks[k].set i2 x)) = flen ks) := Lib.hid (by rw [flen_flat, HFS.out, List.length_set, flen_flat])
      generalize ks[k] = kk at *
      have h0 : (0 : Int) ≤ (k : Int) := by omega
      go_wp2_with fail
      refine (copyP _ _ _ ps _ _ R1.out (by omega)).mono ?_
      rintro e w1 ⟨v1, rfl, ho1, hb1⟩
      obtain ⟨A1, c1, rfl, hc1⟩ := own_shape ho1
      obtain ⟨g, rfl, hgW⟩ := own_some ho1 (by omega)
      have HO1 := Lib.hid ho1
      have HB1 := Lib.hid (HB.out.trans (hb1.mono HB.out.size))
      have HN1 := Lib.hid (HO.out.below hb1 HO.out.lt)
      have HX1 := Lib.hid (HX.out.below hb1 HX.out.lt)
      have HIK1 := Lib.hid (HIK.out.keeps (.of_below hb1))
      have HK1 := Lib.hid (HK.out.keeps (.of_below hb1))
      have z2 := HN1.out.cell 2
      have z3 := HN1.out.frozen 2
      have b2 := cb hb1 a2
      have bl := cb hb1 cl
      have hxl := HX1.out.lt
      have hnl := HN1.out.lt
      have hgn : g ≠ w.heap.size + 1 := by have := HZ.out; omega
      clear ho1 hb1 a0 a1 a2 cl HO HX HIK HK HB
      go_wp2_with fail
      obtain ⟨w2, hw2⟩ : ∃ w2, w2 = w1.setCell ⟨w.heap.size + 1, 2, none⟩ (.slice (some ⟨g, 0, none⟩) ks.length c1) := ⟨_, rfl⟩
      rw [← hw2]
      have hfar : Hid (Keeps (fun k => S k ∧ k < w.heap.size) w1 w2) := Lib.hid (by rw [hw2]; exact keeps_far (by simp))
      have HN2 : Hid (Blk w2 (w.heap.size + 1) 217 #[.int .i64 N, .int .i64 D, .slice (some ⟨g, 0, none⟩) ks.length c1, .slice none 0 0]) := Lib.hid (by rw [hw2]; simpa using HN1.out.set_ 2 (.slice (some ⟨g, 0, none⟩) ks.length c1))
      have HX2 : Hid (VB w2 w.heap.size x) := Lib.hid (by rw [hw2]; exact Blk.far HX1.out (by simp) _)
      have HO2 : Hid (w2.ownsRow W.heap.size 35 1 (.slice (some ⟨g, 0, none⟩) ks.length c1) ks.length (ps.map .pointer)) := Lib.hid (by rw [hw2]; exact ownsRow_setCell_other HO1.out (by simpa [Value.ownBlock] using hgn) _)
      have HB2 : Hid (Below w.heap.size w w2) := Lib.hid (by rw [hw2]; exact HB1.out.setCell (by simp) _)
      have HIK2 := Lib.hid (HIK1.out.keeps hfar.out)
      have HK2 := Lib.hid (HK1.out.keeps hfar.out)
      have c2 : w2.cell? ⟨b, 2, none⟩ = some (.slice (some ad) ks.length c) := by rw [hw2, World.cell?_setCell_other w1 _ _ _ (by simp)]; exact b2
      have hadb : Hid (ad.block < w.heap.size) := Lib.hid (by obtain ⟨ad', e, hs, _⟩ := R1.out.2 (by omega); cases e; exact hs.2)
      have cl2 : w2.cell? (ad.add k) = some (.pointer (some ⟨b3, 0, none⟩)) := by rw [hw2, World.cell?_setCell_other w1 _ _ _ (fun e => by have h1 := congrArg Addr.block e; rw [block_of_add] at h1; have h2 := hadb.out; rw [← h1] at h2; simp at h2; omega)]; exact bl
      have f5 := HN2.out.cell 2
      simp only [List.getElem?_toArray, List.getElem?_cons_succ, List.getElem?_cons_zero] at f5
      clear hw2 HN1 HX1 HO1 HB1 HIK1 HK1 z2 z3 b2 bl hfar
      refine wp_region_sq 15 [(0, true), (1, true), (2, true), (3, true), (4, true), (5, true), (6, true), (7, true), (8, true), (9, true), (10, true), (11, true), (12, true), (13, true), (14, false)] (fun w' => (w'.cell? ⟨w.heap.size + 1, 2, none⟩ = some (.slice (some ⟨g, 0, none⟩) ks.length c1) ∧ w'.cell? ⟨b, 2, none⟩ = some (.slice (some ad) ks.length c) ∧ w'.cell? (ad.add k) = some (.pointer (some ⟨b3, 0, none⟩))) ∧ VB w' w.heap.size x ∧ Below w2.heap.size w2 w') (by kernel_rfl) (by kernel_rfl) ⟨⟨f5, c2, cl2⟩, HX2.out.drew, (Below.refl _ _).drew⟩ (fun hS => ?_)
      iterate 13 (refine sq_t (v := ?_) rfl (by rfl) ?_ ?_; rotate_left; (· (intro w hSw; (try dsimp only at hSw); go_simp; try with_reducible rfl)); try simp only [Act.put, List.setIfInBounds_toArray])
      refine sq_t (v := x.a) rfl (by rfl) (fun w' hw' => exec_load_V (p := .tmp 5) (g := w.heap.size) rfl (by simp [Act.eval]) hw'.2.1) ?_
      try simp only [Act.put]
      refine sq_c rfl (fun K hK => ?_)
      go_simp
      refine (ih i2 x kk _ _ w2.drew (HIK2.out.keeps (.of_below (Below.refl _ _).drew)) hil hkl).mono ?_
      rintro e w4 ⟨q4, rfl, hq4, hb4⟩
      go_wp2_with fail
      have hB4 : Below w2.heap.size w2 w4 := (Below.refl w2.heap.size w2).drew.trans hb4
      refine hK.out _ _ ⟨⟨cb hB4 f5, cb hB4 c2, cb hB4 cl2⟩, Blk.below HX2.out hB4 HX2.out.lt, hB4⟩ (fun hS => ?_)
      clear hK K
      try simp only [Act.put, List.setIfInBounds_toArray, List.set_cons_zero, List.set_cons_succ]
      simp only [wpSq, List.drop_succ_cons, List.drop_zero]
      go_wp2_with (refine wpList_stOwn rfl rfl (own_below HO2.out hB4) k hk rfl (by first | rfl | exact addr_plain _ _ | simp) rfl [.pointer q4] rfl rfl (by kernel_rfl) (by simp [Value.oneCell']) ?_; intro w5 HO5 ho5 hB5)
      refine NoPanic.normal ?_
      go_wp2
      go_ret
      have e1 : (vs.set i x) = (ks.set k (kk.set i2 x)).flatten := by rw [HFS.out, ← HU.out]
      have hBB := HB2.out.trans (hB4.mono HB2.out.size)
      have hk5 : Keeps (up (fun k => S k ∧ k < w.heap.size) w2.heap.size) w4 w5 := fun j hj hs => ho5 j (by
        rcases hs with ⟨_, h⟩ | h
        · have := HZ.out; omega
        · have := HO2.out.form (by omega); obtain ⟨g', cap, e5, _, h6⟩ := this; cases e5; omega)
      have hkk := (((HK2.out.keeps (.of_below hB4)).more (S' := up (fun k => S k ∧ k < w.heap.size) w2.heap.size) fun _ h => .inl h).set k hq4).keeps hk5
      refine ⟨_, rfl, ?_, hB5 _ _ hBB (by have := HZ.out; omega)⟩
      rw [e1]
      refine IsR.inner_mk (A := some ⟨g, 0, none⟩) (c := c1) (ps := ps.set k q4) (up_new (by omega)) (by omega) ?_ (by simpa using n1) (by simpa using m1) (by simpa using hc1) ?_ (hkk.more fun _ h => up_bound h HB2.out.size)
      · have h7 := (ho5 _ (Ne.symm hgn)).trans (HN2.out.below hB4 HN2.out.lt)
        rw [HN.out, HD.out] at h7
        rw [List.length_set, ← flen_flat, HFL.out, HF.out]
        exact h7
      · have h8 := HO5.out
        rw [splice_ptr (by rw [HK2.out.1]; exact hk)] at h8
        rw [List.length_set]
        exact (Reads.of_new (S := S) h8).more fun _ => up_le (by have := HZ.out; omega)
theorem set_any : ∀ d, SetOk d
  | 0 => fun _ _ _ _ _ _ h => h.elim
  | 1 => fun i x vs p S w h hi _ => set_leaf i x vs p S w h hi
  | d + 2 => fun i x vs p S w h hi hn => set_inner d (set_any (d + 1)) i x vs p S w h hi hn
set_option maxHeartbeats 2000000 in
theorem rset_bad (i : Int) (x : V) (vs : List V) (p : Option Addr) (S : Nat → Prop) (w : World) (h : IsRope w S vs p) (hi : inB i vs.length = false) :
    Calls Tryz.prog 128 #[.agg #[.pointer p], .int .i64 i, x.a] w (RopeOut w S [] 4) := by
  have H := Lib.hid h
  clear h
  unfold V.a
  go_enter Tryz.func128, Tryz.ntmps128
  go_wp2_with fail
  refine calls_at fun W hW => ?_
  obtain ⟨hB, hz, -, -, HO⟩ := boxes3 hW
  refine (has_any i vs p S _ (H.out.keeps (.of_below hB))).mono ?_
  rintro e w1 ⟨rfl, hb1⟩
  rw [hi]
  have c1 := (HO.below hb1 HO.lt).cell 0
  have f1 := (HO.below hb1 HO.lt).frozen 0
  have H1 := Lib.hid (HO.below hb1 HO.lt)
  have HB := Lib.hid (hB.trans (hb1.mono hB.size))
  clear hW HO hb1 hz hB hi
  go_wp2
  exact ret_ct (p := 6) (u := 7) rfl rfl rfl (H1.out.set_ 0 (.pointer none)) (by kernel_rfl) rfl ⟨none, rfl, .inl ⟨rfl, rfl⟩, HB.out.setCell (by simp; omega) _⟩
set_option maxHeartbeats 4000000 in
theorem rset_ok (i : Nat) (x : V) (vs : List V) (p : Option Addr) (S : Nat → Prop) (w : World) (h : IsRope w S vs p) (hi : i < vs.length) (hn : vs.length ≤ 65536) :
    Calls Tryz.prog 128 #[.agg #[.pointer p], .int .i64 i, x.a] w (RopeOut w S (vs.set i x) 0) := by
  have H := Lib.hid h.bound
  clear h
  have hin : inB i vs.length = true := by simp [inB, hi]
  unfold V.a
  go_enter Tryz.func128, Tryz.ntmps128
  go_wp2_with fail
  refine calls_at fun W hW => ?_
  obtain ⟨hB, hz, HP, HX, HO⟩ := boxes3 hW
  have KEEP : Hid (∀ W', Below W.heap.size W W' → Below w.heap.size w W' ∧ W'.cell? ⟨w.heap.size, 0, none⟩ = some (.pointer p) ∧ VB W' (w.heap.size + 1) x ∧ Blk W' (w.heap.size + 1 + 1) 37 #[.pointer none]) := Lib.hid fun W' h => ⟨hB.trans (h.mono hB.size), (HP.below h HP.lt).cell 0, HX.below h HX.lt, HO.below h HO.lt⟩
  have HZ := Lib.hid hz
  clear HP HX HO hz hW
  refine (has_any i vs p _ _ (H.out.keeps (.of_below hB))).mono ?_
  rintro e w1 ⟨rfl, hb1⟩
  rw [hin]
  have HB1 := Lib.hid hb1
  obtain ⟨hB1, cp, hx, -⟩ := KEEP.out _ hb1
  obtain ⟨x0, x1, x2, x3, x4, x5, x6, x7, x8, x9, xa⟩ := hx.cells
  obtain ⟨d, hd⟩ : ∃ d, IsR w1 (fun k => S k ∧ k < w.heap.size) d vs p := (H.out.keeps (.of_below hB1)).resolve_left (by rintro ⟨rfl, _⟩; simp at hi)
  have HD := Lib.hid hd
  clear hb1 hB hin hx hd
  go_wp2_with fail
  refine (set_any d i x vs p _ w1 HD.out hi hn).mono ?_
  rintro e w5 ⟨p5, rfl, hp5, hb5⟩
  obtain ⟨hB5, -, -, ho⟩ := KEEP.out _ (HB1.out.trans (hb5.mono HB1.out.size))
  have HP5 := Lib.hid hp5.rope
  have c5 := ho.cell 0
  have f5 := ho.frozen 0
  have HO := Lib.hid ho
  have HBB := Lib.hid hB5
  have hz1 := HB1.out.size
  clear hp5 hb5 HB1 ho hB5 x0 x1 x2 x3 x4 x5 x6 x7 x8 x9 xa cp hB1 HD
  go_wp2
  refine ret_ct (p := 6) (u := 7) rfl rfl rfl (HO.out.set_ 0 (.pointer p5)) (by kernel_rfl) rfl ⟨p5, rfl, ?_, HBB.out.setCell (by simp; omega) _⟩
  exact (HP5.out.keeps (keeps_box (by omega) (by have := HZ.out; omega))).more fun _ h => up_bound h (by have := HZ.out; omega)
end Go.Proofs.YtfcegalckjeafaaGreatDoor
namespace Go.Proofs.YtfcegalckjeafaaGreatDoor
open Go.RowKit Go.BigFrame Go.Shelf
attribute [local go_sem] Oper.semAt_some
section
variable {F : Fence} {n : Nat} {ops : Array Oper} {rest : List Oper} {o : Oper} {a : Act} {w : World} {Q : Exit → Act → World → Prop}
theorem wpListIn_ldl (hg : o.guard = none) {ty : Nat} {p : Operand} (ho : o.op = .load ty p) {ad : Addr} (hp : a.eval p = .pointer (some ad))
    (cs : List Value) (h : structB ty cs.length = true) (hc : ∀ j u, cs[j]? = some u → w.cell? (ad.add j) = some u) (hK : wpListIn F n Tryz.prog ops Q rest (a.put o.dst (.agg cs.toArray)) w) : wpListIn F n Tryz.prog ops Q (o :: rest) a w :=
  wpListIn_plain hg fun K hK' => by
    unfold Oper.wpIn
    refine ⟨by simp [Oper.about, ho], ?_⟩
    rw [Oper.semAt_plain F _ _ (by rw [ho]; intro c hc'; cases hc'), exec_load_list h ho hp hc]
    exact hK' _ _ hK
theorem wpListIn_stV (hg : o.guard = none) {p x : Operand} (ho : o.op = .store 42 p x) {g : Nat} (hp : a.eval p = .pointer (some ⟨g, 0, none⟩)) (v : V) {cur : V} (hb : VB w g cur) (hx : a.eval x = v.a)
    (h : ∀ w', Hid (VB w' g v) → (∀ k, k ≠ g → w'.heap[k]? = w.heap[k]?) → (∀ B w0, Below B w0 w → B ≤ g → Below B w0 w') → wpListIn F n Tryz.prog ops Q rest (a.put o.dst undef) w') : wpListIn F n Tryz.prog ops Q (o :: rest) a w :=
  wpListIn_plain hg fun K hK' => by
    unfold Oper.wpIn
    refine ⟨by simp [Oper.about, ho], ?_⟩
    rw [Oper.semAt_plain F _ _ (by rw [ho]; intro c hc'; cases hc')]
    have hx' : a.eval x = .agg v.l.toArray := hx
    unfold execOp
    simp only [ho, hp, hx', Instr.storeAt, Instr.sureAddr, Sem.run_bind, Sem.run_pure, Result.andThen_ok, run_storeVar_row w g _ 42 _ v.l.toArray hb (infoV v) rfl v.one]
    exact hK' _ _ (h _ (setRow_heap w g _ _ _ _ hb) (fun k hk => setRow_other w g k _ hk) (fun _ _ hb' hB => below_setRow hb' hB _))
end
/-- A round may make memory, and turn what is not of S. -/
def Kp (S : Nat → Prop) (W W' : World) : Prop := W.heap.size ≤ W'.heap.size ∧ Keeps S W W'
theorem Kp.refl {S : Nat → Prop} {W : World} : Kp S W W := ⟨Nat.le_refl _, fun _ _ _ => rfl⟩
theorem Kp.trans {S : Nat → Prop} {A B C : World} (h : Kp S A B) (k : Kp S B C) : Kp S A C := ⟨Nat.le_trans h.1 k.1, fun i hi hs => (k.2 i (Nat.lt_of_lt_of_le hi h.1) hs).trans (h.2 i hi hs)⟩
theorem Kp.of_below {S : Nat → Prop} {A B : World} (h : Below A.heap.size A B) : Kp S A B := ⟨h.size, .of_below h⟩
theorem yieldAt_any {P : Program} {l m m' : Nat} {args : Array Value} {W : World} {R : Ending → World → Prop} (h : YieldAt Fence.wide m P l args W R) : YieldAt Fence.wide m' P l args W R := by
  obtain ⟨fn, tmps, assign, body, hy, hR⟩ := h
  exact ⟨fn, tmps, assign, body, hy, hR.1, fun c cs _ => hR.2 c cs (room_wide _)⟩
/-- The first places. -/
def fins (n k : Nat) : List (Fin n) := (List.finRange n).take k
theorem fins_all (n : Nat) : fins n n = List.finRange n := List.take_of_length_le (by simp)
theorem fins_len {n k : Nat} (h : k ≤ n) : (fins n k).length = k := by simp [fins, h]
theorem fins_succ {n k : Nat} (h : k < n) : fins n (k + 1) = fins n k ++ [⟨k, h⟩] := by
  unfold fins
  rw [List.take_succ_eq_append_getElem (by simpa using h)]
  simp
/-- The cells of a round. -/
def rcells (L : List V) (i : Fin L.length) : Array Value := #[.int .i64 (i.val : Int), (L[i.val]).a]
theorem rcells_at {L : List V} {off k : Nat} {h : off + k < L.length} {v : V} (hv : L[off + k] = v) : rcells L ⟨off + k, h⟩ = #[.int .i64 ((off : Int) + (k : Int)), .agg #[.int .i64 v.sk, .int .i64 v.si, .string ⟨v.st.toArray⟩, .int .i64 v.kd, .pointer v.vec, .int .u64 v.seed, .int .i64 v.bits, .int .i64 v.n, .pointer v.dic, .int .i64 v.bel, .int .i64 v.mor]] := by
  subst hv; simp [rcells, V.a]
section
variable (n l : Nat) (S : Nat → Prop) (L : List V) (J Jx : List (Fin L.length) → World → Prop)
def EachIn (off : Nat) (vs : List V) (W : World) (e : Ending) (W' : World) : Prop := (e = .returned (.bool true) ∧ J (fins L.length (off + vs.length)) W' ∧ Kp S W W') ∨ (e = .returned (.bool false) ∧ ∃ k, Jx (fins L.length k) W')
def RoundOk : Prop := ∀ pre (x : Fin L.length) W, J pre W → pre.length < L.length → YieldAt Fence.wide 0 Tryz.prog l (rcells L x) W fun e W' => (e = .returned (.bool true) ∧ J (pre ++ [x]) W' ∧ Kp S W W') ∨ (e = .returned (.bool false) ∧ Jx (pre ++ [x]) W')
def Lives (J : List (Fin L.length) → World → Prop) : Prop := ∀ s W W', J s W → Below W.heap.size W W' → J s W'
end
set_option maxRecDepth 100000 in
set_option maxHeartbeats 4000000 in
theorem reach_leaf (n l : Nat) (S : Nat → Prop) (L : List V) (J Jx : List (Fin L.length) → World → Prop) (hY : RoundOk l S L J Jx) (hJ : Lives L J) (vs : List V) (p : Option Addr) (off : Nat) (W : World) (hp : IsR W S 1 vs p) (ho : off + vs.length ≤ L.length) (hv : ∀ i, i < vs.length → L[off + i]? = vs[i]?) (hL : L.length ≤ 65536) (h0 : J (fins L.length off) W) :
    CallsIn Fence.wide n Tryz.prog 172 #[.pointer p, .int .i64 off, .func (.yield l) #[] #[]] W (EachIn S L J Jx off vs W) := by
  obtain ⟨b, A, c, rfl, hs, hb, n1, m1, k1, r1⟩ := hp.leaf
  have f2 := hb.cell 2
  have f3 := hb.cell 3
  simp only [List.getElem?_toArray, List.getElem?_cons_succ, List.getElem?_cons_zero] at f2 f3
  have HB := Lib.hid hb
  have HR := Lib.hid r1
  have HV := Lib.hid hv
  have H0 := Lib.hid h0
  clear hp hb r1 hv h0
  refine callsIn_of_wp Tryz.func172 rfl trivial ?_ rfl
  simp only [Tryz.ntmps172, List.size_toArray, List.length_cons, List.length_nil, Nat.reduceAdd, Nat.reduceSub, Array.replicate_succ, Array.replicate_zero, List.push_toArray, List.append_toArray, List.nil_append, List.cons_append]
  gi_wp2
  gi_loopw [16] (fun t wr => ∃ k : Nat, k ≤ vs.length ∧ t = .int .i64 k ∧ Hid (J (fins L.length (off + k)) wr) ∧ Hid (Kp S W wr)) (fun t _ => vs.length - (intOf t).toNat)
  case atStart => exact ⟨0, Nat.zero_le _, rfl, H0, Kp.refl⟩
  case round =>
    obtain ⟨k, hk, rfl, hJs, hK⟩ := hrel
    by_cases hlt : k < vs.length
    · obtain ⟨v, hvk⟩ : ∃ v, vs[k]? = some v := ⟨vs[k], List.getElem?_eq_getElem hlt⟩
      obtain ⟨ad, rfl, hc⟩ := flat_cells (HR.out.keeps hK.out.2) hvk
      have hok : off + k < L.length := by omega
      have hLk : L[off + k]? = some v := (HV.out k hlt).trans hvk
      have HLv : Hid (L[off + k] = v) := Lib.hid (by rw [List.getElem?_eq_getElem hok] at hLk; simpa using hLk)
      have HC := Lib.hid hc
      have hokb : ((off : Int) + (k : Int)) ≤ 65536 := by omega
      have h0 : (0 : Int) ≤ (k : Int) := by omega
      clear hvk hc hLk
      gi_wp2_with (first | (refine wpListIn_ldl rfl (o := ⟨some 20, _, _, _, _, _⟩) rfl rfl v.l isV HC.out ?_) | (refine wpListIn_stV rfl rfl rfl v (Blk.new wr _ V.z.l.toArray) rfl ?_; intro w2 HR2 ho2 hB2; have hb2 := hB2 _ _ ((Below.refl wr.heap.size wr).alloc (Nat.le_refl _) _) (Nat.le_refl _); obtain ⟨fn, tmps, assign, body, hy, hR⟩ := yieldAt_any (m' := n - 1) (hY _ ⟨off + k, hok⟩ w2 (hJ _ _ _ hJs.out hb2) (by rw [fins_len (by omega)]; omega)); rw [rcells_at HLv.out] at hy; obtain ⟨x0, x1, x2, x3, x4, x5, x6, x7, x8, x9, xa⟩ := VB.cells HR2.out; have HK2 := Lib.hid (hK.out.trans (.of_below hb2)); clear hB2 ho2 hb2))
      clear x0 x1 x2 x3 x4 x5 x6 x7 x8 x9 xa hy
      refine ⟨by simp [Fence.wide], hR.mono ?_⟩
      rintro e W3 (⟨rfl, hJ3, hK3⟩ | ⟨rfl, hJx⟩)
      · rw [← fins_succ] at hJ3
        have HJ3 := Lib.hid hJ3
        have HK3 := Lib.hid (HK2.out.trans hK3)
        clear hJ3 hK3 hR
        gi_wp2
        go_roundw
        case rel => exact ⟨k + 1, by omega, by go_num, HJ3, HK3⟩
        case measure => simp [intOf]; omega
      · rw [← fins_succ] at hJx
        have HX := Lib.hid hJx
        clear hJx hR
        gi_wp2
        go_ret
        exact .inr ⟨rfl, _, HX.out⟩
    · obtain rfl : k = vs.length := by omega
      have g2 := cell_keeps f2 hK.out.2 hs
      gi_wp2
      gi_loopw [34] (fun t wx => wx = wr ∧ t = .int .i64 0) (fun _ _ => 0)
      case atStart => exact ⟨rfl, rfl⟩
      case round =>
        obtain ⟨rfl, rfl⟩ := hrel
        gi_wp2
        go_ret
        exact .inl ⟨rfl, hJs.out, hK.out⟩
end Go.Proofs.YtfcegalckjeafaaGreatDoor
namespace Go.Proofs.YtfcegalckjeafaaGreatDoor
open Go.RowKit Go.BigFrame Go.Shelf
/-- The table of TrailingZeros32. -/
def TabAt (w : World) : Prop := ∀ j, j < Lib.deBruijn32tab.length → w.cell? ⟨2, j, none⟩ = some (.int .u8 (Lib.deBruijn32tab.getD j 0))
theorem TabAt.below {B : Nat} {w w' : World} (h : TabAt w) (hb : Below B w w') (hB : 2 < B) : TabAt w' := fun j hj => (hb.cell (p := ⟨2, j, none⟩) hB).trans (h j hj)
theorem wp_at {P : Program} {c : Code} {Q : Exit → Act → World → Prop} {a : Act} {w : World} (h : ∀ W, W = w → c.wp P Q a W) : c.wp P Q a w := h w rfl
theorem at_zero (g j : Nat) : (⟨g, 0, none⟩ : Addr).add j = ⟨g, j, none⟩ := by cases j <;> simp [Addr.add]
end Go.Proofs.YtfcegalckjeafaaGreatDoor
namespace Go.Proofs.YtfcegalckjeafaaGreatDoor
open Go.RowKit Go.BigFrame
/-- Pairs by rising keys. -/
def Srt (ps : List PR) : Prop := ∀ (i j : Nat) (p q : PR), i < j → ps[i]? = some p → ps[j]? = some q → p.key < q.key
end Go.Proofs.YtfcegalckjeafaaGreatDoor
namespace Go.Proofs.YtfcegalckjeafaaGreatDoor
open Go.RowKit Go.BigFrame
/-- Five bits of a sum. -/
def chunk (s : Nat) (l : Int) : Nat := if l < 0 then 0 else if 13 ≤ l then 0 else s / 2 ^ (5 * l.toNat) % 32
end Go.Proofs.YtfcegalckjeafaaGreatDoor
namespace Go.Proofs.YtfcegalckjeafaaGreatDoor
open Go.RowKit Go.BigFrame
/-- A word of 64 bits. -/
def U (x : Int) : Prop := 0 ≤ x ∧ x < 18446744073709551616
def mend (h : Int) : Int := bits .xor .u64 (IntKind.u64.wrap (bits .xor .u64 h (h / 4294967296) * 15485907386658061715)) (IntKind.u64.wrap (bits .xor .u64 h (h / 4294967296) * 15485907386658061715) / 4294967296)
theorem U.bits (op : BinOp) (a b : Int) : U (Go.bits op .u64 a b) := by
  have h : ∀ n : Int, U (IntKind.u64.wrap n) := fun n => by rw [IntKind.wrap_u64]; exact ⟨Int.emod_nonneg _ (by decide), Int.emod_lt_of_pos _ (by decide)⟩
  unfold Go.bits
  split <;> exact h _
set_option maxHeartbeats 1000000 in
theorem mend_any (h : Int) (hh : U h) (w : World) : Calls Tryz.prog 215 #[.int .u64 h] w fun e w' => e = .returned (.int .u64 (mend h)) ∧ w' = w := by
  obtain ⟨h1, h2⟩ := hh
  go_enter Tryz.func215, Tryz.ntmps215
  go_wp2
  go_ret
  exact ⟨rfl, rfl⟩
def mrot (h : Int) : Int := bits .or .u64 (IntKind.u64.wrap (h * 2147483648)) (h / 8589934592)
def mstep (h x : Int) : Int := IntKind.u64.wrap (mrot (IntKind.u64.wrap (bits .xor .u64 h x * 11400714819323198485)) + 15485907386658061715)
theorem U.wrap (n : Int) : U (IntKind.u64.wrap n) := by rw [IntKind.wrap_u64]; exact ⟨Int.emod_nonneg _ (by decide), Int.emod_lt_of_pos _ (by decide)⟩
set_option maxHeartbeats 1000000 in
theorem mrot_any (h : Int) (hh : U h) (w : World) : Calls Tryz.prog 228 #[.int .u64 h, .int .i64 31] w fun e w' => e = .returned (.int .u64 (mrot h)) ∧ w' = w := by
  obtain ⟨h1, h2⟩ := hh
  have h3 : bits .and .u64 31 63 = 31 := by kernel_rfl
  go_enter Tryz.func228, Tryz.ntmps228
  go_wp2
  go_ret
  exact ⟨rfl, rfl⟩
set_option maxHeartbeats 1000000 in
theorem mstep_any (h x : Int) (hh : U h) (hx : U x) (w : World) : Calls Tryz.prog 213 #[.int .u64 h, .int .u64 x] w fun e w' => e = .returned (.int .u64 (mstep h x)) ∧ w' = w := by
  obtain ⟨h1, h2⟩ := hh
  obtain ⟨h3, h4⟩ := hx
  have HU := Lib.hid (U.wrap (bits .xor .u64 h x * 11400714819323198485))
  go_enter Tryz.func213, Tryz.ntmps213
  go_wp2_with fail
  refine (mrot_any _ HU.out _).mono ?_
  rintro e w1 ⟨rfl, rfl⟩
  have HM := Lib.hid (U.bits .or (IntKind.u64.wrap (IntKind.u64.wrap (bits .xor .u64 h x * 11400714819323198485) * 2147483648)) (IntKind.u64.wrap (bits .xor .u64 h x * 11400714819323198485) / 8589934592))
  go_wp2
  go_ret
  exact ⟨rfl, rfl⟩
end Go.Proofs.YtfcegalckjeafaaGreatDoor
namespace Go.Proofs.YtfcegalckjeafaaGreatDoor
open Go.RowKit Go.BigFrame
/-- Eight bytes at a place, t of them in. -/
def wst (s : List UInt8) (i : Nat) : Nat → Int
  | 0 => 0
  | t + 1 => if h : i + t < s.length then bits .or .u64 (IntKind.u64.wrap (wst s i t * 256)) (s[i + t].toNat : Int) else IntKind.u64.wrap (wst s i t * 256)
theorem U.wst (s : List UInt8) (i : Nat) : ∀ t, U (wst s i t)
  | 0 => ⟨by simp [Proofs.YtfcegalckjeafaaGreatDoor.wst], by simp [Proofs.YtfcegalckjeafaaGreatDoor.wst]⟩
  | t + 1 => by
    unfold Proofs.YtfcegalckjeafaaGreatDoor.wst
    split
    · exact U.bits _ _ _
    · exact U.wrap _
set_option maxRecDepth 100000 in
set_option maxHeartbeats 2000000 in
theorem word_any (s : List UInt8) (i : Nat) (w : World) (hi : i ≤ 1152921504606846976) (hs : s.length ≤ 1152921504606846976) : Calls Tryz.prog 214 #[sv s, .int .i64 i] w fun e w' => e = .returned (.int .u64 (wst s i 8)) ∧ w' = w := by
  simp only [sv]
  go_enter Tryz.func214, Tryz.ntmps214
  go_wp2
  go_loopw [5, 7] (fun x t wr => wr = w ∧ ∃ k : Nat, k ≤ 8 ∧ t = .int .i64 k ∧ x = .int .u64 (wst s i k)) (fun _ t _ => 8 - (intOf t).toNat)
  case atStart => exact ⟨rfl, 0, by omega, rfl, rfl⟩
  case round =>
    obtain ⟨rfl, k, hk, rfl, rfl⟩ := hrel
    obtain ⟨u1, u2⟩ := U.wst s i k
    by_cases h8 : k < 8
    · have h9 : (k : Int) < 8 := by omega
      by_cases hlt : i + k < s.length
      · have e1 : wst s i (k + 1) = bits .or .u64 (IntKind.u64.wrap (wst s i k * 256)) (s[i + k].toNat : Int) := by rw [wst, dif_pos hlt]
        have E1 := Lib.hid e1
        have b1 := UInt8.toNat_lt s[i + k]
        have e2 : s[i + k]? = some s[i + k] := List.getElem?_eq_getElem hlt
        have h10 : (i : Int) + (k : Int) < (s.length : Int) := by omega
        clear e1
        generalize s[i + k] = b at *
        generalize wst s i k = q at *
        go_wp2
        refine ⟨⟨trivial, k + 1, by omega, by go_num, ?_⟩, by simp [intOf]; omega⟩
        rw [E1.out]
        have e3 : (IntKind.u64.wrap (b.toNat : Int)) = (b.toNat : Int) := by rw [IntKind.wrap_u64]; omega
        have e4 : ∀ h, (⟨s.toArray⟩ : ByteArray)[i + k]'h = b := fun h => by
          have h5 := List.getElem?_eq_some_iff.1 e2
          obtain ⟨_, h6⟩ := h5
          rw [← h6]; rfl
        rw [e4, e3]
      · have e1 : wst s i (k + 1) = IntKind.u64.wrap (wst s i k * 256) := by rw [wst, dif_neg hlt]
        have E1 := Lib.hid e1
        have h10 : (s.length : Int) ≤ (i : Int) + (k : Int) := by omega
        clear e1
        generalize wst s i k = q at *
        go_wp2
        go_roundw
        case rel => exact ⟨trivial, k + 1, by omega, by go_num, by rw [E1.out]⟩
        case measure => simp [intOf]; omega
    · obtain rfl : k = 8 := by omega
      go_wp2
      go_ret
      exact ⟨rfl, rfl⟩
/-- A text's sum, t words in. -/
def tst (c : Int) (s : List UInt8) : Nat → Int
  | 0 => mstep c (s.length : Int)
  | t + 1 => mstep (tst c s t) (wst s (8 * t) 8)
theorem U.mstep (h x : Int) : U (mstep h x) := U.wrap _
theorem U.tst (c : Int) (s : List UInt8) (t : Nat) : U (tst c s t) := by cases t <;> exact U.wrap _
def mtext (c : Int) (s : List UInt8) : Int := mend (tst c s ((s.length + 7) / 8))
theorem U.mtext (c : Int) (s : List UInt8) : U (mtext c s) := by
  unfold Proofs.YtfcegalckjeafaaGreatDoor.mtext mend
  exact U.bits _ _ _
set_option maxRecDepth 100000 in
set_option maxHeartbeats 2000000 in
theorem text_any (c : Int) (s : List UInt8) (w : World) (hc : U c) (hs : s.length ≤ 1152921504606846968) : Calls Tryz.prog 184 #[.int .u64 c, sv s] w fun e w' => e = .returned (.int .u64 (mtext c s)) ∧ w' = w := by
  have HC := Lib.hid hc
  obtain ⟨c1, c2⟩ := hc
  have l1 : (0 : Int) ≤ (s.length : Int) := by omega
  have l2 : (s.length : Int) ≤ 1152921504606846968 := by omega
  have HL : Hid (U (s.length : Int)) := Lib.hid ⟨by omega, by omega⟩
  simp only [sv]
  go_enter Tryz.func184, Tryz.ntmps184
  go_wp2_with fail
  refine (mstep_any _ _ HC.out HL.out _).mono ?_
  rintro e w1 ⟨rfl, rfl⟩
  go_wp2
  go_loopw [5, 6] (fun x i wr => wr = w1 ∧ ∃ t : Nat, t ≤ (s.length + 7) / 8 ∧ i = .int .i64 ((8 * t : Nat) : Int) ∧ x = .int .u64 (tst c s t)) (fun _ i _ => s.length + 8 - (intOf i).toNat)
  case atStart => exact ⟨rfl, 0, by omega, rfl, rfl⟩
  case round =>
    obtain ⟨rfl, t, ht, rfl, rfl⟩ := hrel
    have HT := Lib.hid (U.tst c s t)
    obtain ⟨u1, u2⟩ := U.tst c s t
    by_cases hlt : 8 * t < s.length
    · have h9 : ((8 * t : Nat) : Int) < (s.length : Int) := by omega
      have HW := Lib.hid (word_any s (8 * t) wr (by omega) (by omega))
      have E1 : Hid (tst c s (t + 1) = mstep (tst c s t) (wst s (8 * t) 8)) := Lib.hid rfl
      have HQ := Lib.hid (U.wst s (8 * t) 8)
      have h10 : (((8 * t : Nat) : Int) + 8) = ((8 * (t + 1) : Nat) : Int) := by omega
      have H11 : Hid (s.length + 8 - 8 * (t + 1) < s.length + 8 - 8 * t) := Lib.hid (by omega)
      have H12 : Hid (t + 1 ≤ (s.length + 7) / 8) := Lib.hid (by omega)
      have H13 : Hid ((8 * t : Nat) = 8 * t) := Lib.hid rfl
      obtain ⟨m, hm⟩ : ∃ m, m = 8 * t := ⟨_, rfl⟩
      have HM := Lib.hid hm
      rw [← hm] at h9 HW HQ h10 ⊢
      simp only [sv] at HW
      have m1 : (m : Int) ≤ 1152921504606846968 := by omega
      clear h10 hlt hm
      go_wp2_with fail
      refine HW.out.mono ?_
      rintro e w2 ⟨rfl, rfl⟩
      obtain ⟨v1, v2⟩ := HQ.out
      go_wp2_with fail
      refine (mstep_any _ _ HT.out HQ.out _).mono ?_
      rintro e w3 ⟨rfl, rfl⟩
      go_wp2
      go_roundw
      case rel => exact ⟨trivial, t + 1, H12.out, by rw [HM.out]; go_num, by rw [E1.out, HM.out]⟩
      case measure => have := H11.out; have := HM.out; simp [intOf]; omega
    · obtain rfl : t = (s.length + 7) / 8 := by omega
      have h9 : (s.length : Int) ≤ ((8 * ((s.length + 7) / 8) : Nat) : Int) := by omega
      generalize hm : 8 * ((s.length + 7) / 8) = m at *
      go_wp2_with fail
      refine (mend_any _ HT.out _).mono ?_
      rintro e w2 ⟨rfl, rfl⟩
      go_wp2
      go_ret
      exact ⟨rfl, rfl⟩
end Go.Proofs.YtfcegalckjeafaaGreatDoor
