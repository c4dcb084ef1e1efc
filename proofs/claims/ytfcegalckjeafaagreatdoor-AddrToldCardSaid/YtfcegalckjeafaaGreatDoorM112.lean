/-
  Parts of the proof that AddrTold,AddrBegins calls on: Rn.
-/
import Derived.IntWalk
import Derived.Test.YtfcegalckjeafaaGreatDoorM111
namespace Go.Proofs.YtfcegalckjeafaaGreatDoor
open Go.RowKit Go.BigFrame
/-- A rope alone. -/
def RopeOut1 (w : World) (S : Nat → Prop) (vs : List V) (e : Ending) (w' : World) : Prop := ∃ p, e = .returned (.agg #[.pointer p]) ∧ IsRope w' (up S w.heap.size) vs p ∧ Below w.heap.size w w'
set_option maxHeartbeats 4000000 in
theorem of_any (A : Option Addr) (c : Nat) (vs : List V) (S : Nat → Prop) (w : World) (hr : Reads w S 11 A vs.length (flat vs)) (hc : vs.length ≤ c) (hn : vs.length ≤ 32768) :
    Calls Tryz.prog 136 #[.slice A vs.length c] w (RopeOut1 w S vs) := by
  have HR := Lib.hid (hr.bound (by omega))
  clear hr
  obtain ⟨n, hnn⟩ : ∃ n, n = vs.length := ⟨_, rfl⟩
  have HN := Lib.hid hnn
  rw [← hnn] at HR hc hn ⊢
  clear hnn
  go_enter Tryz.func136, Tryz.ntmps136
  go_wp2_with fail
  go_loopw [4] (fun t wr => ∃ (k : Nat) (p : Option Addr), t = .int .i64 k ∧ k ≤ 32800 ∧ Hid (IsRope wr (up (fun k => S k ∧ k < w.heap.size) (w.heap.size + 1 + 1)) (vs.take k) p) ∧ Hid (Blk wr (w.heap.size + 1) 37 #[.pointer p]) ∧ Hid (Blk wr w.heap.size 37 #[.pointer none]) ∧ Hid (Below w.heap.size w wr)) (fun t _ => (n + 16 - intOf t).toNat)
  case atStart =>
    obtain ⟨hB, hz, HO, HP⟩ := boxes2 (rfl : (w.alloc (.cells #[.pointer none] 37)).alloc (.cells #[.pointer none] 37) = _)
    exact ⟨0, none, rfl, by omega, Lib.hid (.inl ⟨rfl, rfl⟩), Lib.hid HP, Lib.hid HO, Lib.hid hB⟩
  case round =>
    obtain ⟨k, p, rfl, hk, HQ, HP, HO, HB⟩ := hrel
    have hPl := HP.out.lt
    by_cases hlt : k < n
    · have f0 := HP.out.cell 0
      have f1 := HP.out.frozen 0
      simp only [List.getElem?_toArray, List.getElem?_cons_zero] at f0
      have hck : ¬ c = k := by omega
      have hpl : Hid (vs.take k ++ (vs.drop k).take 16 = vs.take (k + 16)) := Lib.hid (by rw [List.take_add])
      obtain ⟨L, hL, hL1, hLk, hL16, hM⟩ : ∃ L : Nat, Hid (((vs.drop k).take 16).length = L) ∧ 1 ≤ L ∧ k + L ≤ n ∧ L ≤ 16 ∧ (if (n : Int) < (k : Int) + 16 then (n : Int) else (k : Int) + 16) = ((k + L : Nat) : Int) := by
        refine ⟨min 16 (n - k), Lib.hid (by rw [List.length_take, List.length_drop, HN.out]), by omega, by omega, by omega, ?_⟩
        split <;> omega
      have F : Hid (∀ w', Below w.heap.size w w' → Reads w' (fun k => S k ∧ k < w.heap.size) 11 (A.map fun x => x.add (k * 11)) L (flat ((vs.drop k).take 16))) := Lib.hid fun w' hb => by
        have h1 := (HR.out.keeps (.of_below hb)).cut (k := k) (by omega) hc
        rw [if_neg hck, flat_drop] at h1
        have h2 := h1.take_ (k := L) (by omega)
        rw [flat_take] at h2
        have h3 := hL.out
        rw [List.length_take] at h3
        rw [show (vs.drop k).take L = (vs.drop k).take 16 by rw [← h3, List.take_eq_take_iff]; omega] at h2
        exact h2
      have hl3 : (vs.take k).length + ((vs.drop k).take 16).length ≤ 65536 := by have := List.length_take_le k vs; have := List.length_take_le 16 (vs.drop k); omega
      obtain ⟨M, hMM⟩ : ∃ M : Int, M = ((k + L : Nat) : Int) := ⟨_, rfl⟩
      rw [← hMM] at hM
      have b1 : (0 : Int) ≤ M := by omega
      have b5 : M ≤ (c : Int) := by omega
      have o1 : L ≤ 65536 := by omega
      have b2 : M.toNat = k + L := by omega
      have b3 : IntKind.i64.wrap ((k : Int) + 16) = (k : Int) + 16 := IntWalk.i64_in _ (by omega)
      have hz := HB.out.size
      clear hMM
      go_wp2_with fail
      refine wp_region_sq 13 [(0, true), (1, true), (2, true), (3, true), (4, true), (5, true), (6, true), (7, true), (8, true), (9, true), (10, false), (11, false), (12, false)] (fun w' => w'.cell? ⟨w.heap.size + 1, 0, none⟩ = some (.pointer p) ∧ Below wr.heap.size wr w') (by kernel_rfl) (by kernel_rfl) ⟨f0, (Below.refl _ _).drew⟩ (fun hS => ?_)
      iterate 10 (refine sq_t (v := ?_) rfl (by rfl) ?_ ?_; rotate_left; (· (intro w hSw; (try dsimp only at hSw); go_simp; try with_reducible rfl)); try simp only [Act.put, List.setIfInBounds_toArray, List.set_cons_zero, List.set_cons_succ])
      clear b2 b3 hM
      refine sq_c rfl (fun K hK => ?_)
      go_simp
      refine (copyV _ _ _ ((vs.drop k).take 16) _ _ (F.out _ (HB.out.trans (Below.mono (Below.refl _ _).drew hz))) o1).mono ?_
      rintro e w1 ⟨v1, rfl, ho1, hb1⟩
      obtain ⟨A1, c1, rfl, hc1⟩ := own_shape ho1
      go_wp2_with fail
      have hB1 : Below wr.heap.size wr w1 := (Below.refl _ _).drew.trans hb1
      refine hK.out _ _ ⟨cb hB1 f0, hB1⟩ (fun hS => ?_)
      clear hK K
      try simp only [Act.put, List.setIfInBounds_toArray, List.set_cons_zero, List.set_cons_succ]
      have hz2 : w.heap.size + 1 + 1 ≤ wr.heap.size := hPl
      have HO1 := Lib.hid (show w1.ownsRow wr.heap.size 42 11 _ _ _ from ho1)
      clear ho1 hb1 f1
      refine sq_c rfl (fun K hK => ?_)
      go_simp
      refine (leaf_at hL A1 c1 (up (fun k => S k ∧ k < w.heap.size) (w.heap.size + 1 + 1)) w1 ((Reads.of_new HO1.out).more fun _ => up_le hz2) hL1 hL16 hc1).mono ?_
      rintro e w2 ⟨p2, rfl, hp2, hb2⟩
      go_wp2_with fail
      have hB2 := hB1.trans (hb2.mono hB1.size)
      refine hK.out _ _ ⟨cb hB2 f0, hB2⟩ (fun hS => ?_)
      clear hK K
      try simp only [Act.put, List.setIfInBounds_toArray, List.set_cons_zero, List.set_cons_succ]
      have HP2 := Lib.hid (hp2.more fun _ h => up_up h (Nat.le_trans hz2 hB1.size)).rope
      clear hp2 hb2
      refine sq_c rfl (fun K hK => ?_)
      go_simp
      refine (join_any (vs.take k) _ p p2 _ w2 (HQ.out.keeps (.of_below hB2)) HP2.out hl3).mono ?_
      rintro e w3 ⟨p3, rfl, hp3, hb3⟩
      go_wp2_with fail
      have hB3 := hB2.trans (hb3.mono hB2.size)
      refine hK.out _ _ ⟨cb hB3 f0, hB3⟩ (fun hS => ?_)
      clear hK K
      try simp only [Act.put, List.setIfInBounds_toArray, List.set_cons_zero, List.set_cons_succ]
      have HP3 := Lib.hid (hp3.more fun _ h => up_up h (Nat.le_trans hz2 hB2.size))
      have HW3 := Lib.hid (HP.out.below hB3 hPl)
      have f3 := HW3.out.frozen 0
      have c3 := HW3.out.cell 0
      have HO3 := Lib.hid (HO.out.below hB3 HO.out.lt)
      have HB3 := Lib.hid (HB.out.trans (hB3.mono hz))
      clear hp3 hb3 hB1 hB2 hB3 f0 HO1 HP2 F HQ
      simp only [wpSq, List.drop_succ_cons, List.drop_zero]
      go_wp2_with fail
      refine NoPanic.normal ?_
      have HQ4 := Lib.hid (HP3.out.keeps (keeps_box (w := w3) (u := .pointer p3) (o := 0) (B := w.heap.size + 1 + 1) (g := w.heap.size + 1) (by omega) (by omega)))
      have HW4 := Lib.hid (HW3.out.set_ 0 (.pointer p3))
      have HO4 := Lib.hid (HO3.out.far (p := ⟨w.heap.size + 1, 0, none⟩) (by simp) (.pointer p3))
      have HB4 := Lib.hid (HB3.out.setCell (p := ⟨w.heap.size + 1, 0, none⟩) (by simp) (.pointer p3))
      clear f3 c3 HW3 HO3 HB3 HP3
      go_wp2_with fail
      go_roundw
      case rel => exact ⟨k + 16, p3, by go_num, by omega, by rw [← hpl.out]; exact HQ4, HW4, HO4, HB4⟩
      case measure => simp [intOf]; omega
    · have f0 := HP.out.cell 0
      have c0 := HO.out.cell 0
      have f1 := HO.out.frozen 0
      have hnk : Hid (vs.take k = vs) := Lib.hid (List.take_of_length_le (by rw [← HN.out]; omega))
      go_wp2
      refine ret_c (p := 2) rfl rfl rfl (HO.out.set_ 0 (.pointer p)) (by kernel_rfl) ⟨p, rfl, ?_, HB.out.setCell (Nat.le_refl _) _⟩
      have h1 := HQ.out.keeps (keeps_box (w := wr) (u := .pointer p) (o := 0) (B := w.heap.size + 1 + 1) (g := w.heap.size) (by omega) (by omega))
      rw [hnk.out] at h1
      exact h1.more fun _ h => up_bound h (by omega)
end Go.Proofs.YtfcegalckjeafaaGreatDoor
