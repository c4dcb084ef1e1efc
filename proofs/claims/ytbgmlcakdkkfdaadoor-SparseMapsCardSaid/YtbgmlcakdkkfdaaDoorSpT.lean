/-
  THE CONTRACT of a row's iterator: 'func(yield) { left := r.bits; for _, x := range r.l { i := TrailingZeros32(left); if !yield(i, x) { return }; left &^= 1 << i } }': the row's pairs by rising places, or a beginning of them. After the worked text GgSlicesIterAtTheDump.
-/
import Derived.Test.YtbgmlcakdkkfdaaDoorSpS
import Derived.Test.YtbgmlcakdkkfdaaDoorSpQ
import Derived.RangeFuncBox
import Derived.RangeFuncLeaves
import Derived.RangeFuncKeeps
import Derived.RangeFuncCalls
import Derived.Shelf.Abstract
import Derived.OwnWalkIn
import Derived.TacticsInMore
import Derived.LoopNIn
import Derived.LoopIn
namespace Go.Proofs.YtbgmlcakdkkfdaaDoor
open Go.RowKit Go.BigFrame Go.Shelf
attribute [local go_sem] Oper.semAt_some

theorem drp_facts (m : List (Option Int)) (hm : m.length = 32) (k i : Nat) (x : Int) (h : (Sp.prs m)[k]? = some (i, x)) :
    i < 32 ∧ Sp.bitsL (Sp.drp k m) < 4294967296 ∧ Sp.bitsL (Sp.drp k m) ≠ 0 ∧ Lib.ctz 32 (Sp.bitsL (Sp.drp k m)) = i ∧
    bits .andNot .u32 (Sp.bitsL (Sp.drp k m) : Int) ((2 : Int) ^ i % 4294967296) = (Sp.bitsL (Sp.drp (k + 1) m) : Int) ∧ (Sp.vals m)[k]? = some x := by
  have hf : Sp.firstM (Sp.drp k m) = some (i, x) := (Sp.first_drp k m).trans h
  obtain ⟨h1, h2, h3, h4, h5⟩ := Sp.firstM_some _ i x hf
  have hl : (Sp.drp k m).length = 32 := (Sp.drp_len k m).trans hm
  have hb := Sp.bitsL_lt (Sp.drp k m)
  rw [hl] at hb h4
  refine ⟨h4, hb, h5, by rw [Lib.ctz, if_neg h5, Sp.ctz_first 32 _ i x h1 h2 (by omega)], ?_, ?_⟩
  · rw [bits_cut_pow _ _ hb h4, Sp.drp_succ k m i x h, Sp.bits_cut (Sp.drp k m) i (by rw [hl]; exact h4) 32 (by rw [hl]; exact Nat.le_refl _)]
  · rw [← Sp.prs_snd, List.getElem?_map, h]; rfl

set_option maxRecDepth 100000 in
set_option maxHeartbeats 2000000 in
theorem all1_in (n : Nat) (hn : 1 ≤ n) (l Bs n₀ : Nat) (m : List (Option Int)) (A : Option Addr) (c : Nat) (hm : m.length = 32) (hlen : (Sp.vals m).length ≤ 32) (h0n : 0 < n₀) (J Jx : List (Nat × Int) → World → Prop)
    (hY : ∀ pre x W, J pre W → pre.length < (Sp.vals m).length → YieldAt Fence.wide (n - 1) Tryd.prog l #[.int .i64 (x.1 : Int), .int .i64 x.2] W fun e W' =>
      (e = .returned (.bool true) ∧ J (pre ++ [x]) W' ∧ Below n₀ W W') ∨ (e = .returned (.bool false) ∧ Jx (pre ++ [x]) W'))
    (W : World) (hb0 : W.cell? ⟨Bs, 0, none⟩ = some (.int .u32 (Sp.bitsL m))) (hb1 : W.cell? ⟨Bs, 1, none⟩ = some (.slice A (Sp.vals m).length c))
    (hr : Reads W (fun k => k < n₀) 1 A (Sp.vals m).length ((Sp.vals m).map (Value.int .i64))) (hT : TabAt W) (h0 : J [] W) :
    CallsIn Fence.wide n Tryd.prog 35 #[.func (.yield l) #[] #[], .pointer (some ⟨Bs, 0, none⟩)] W fun e W' => (∃ v, e = .returned v) ∧
      ((∃ ys, ys = Sp.prs m ∧ J ys W') ∨ (∃ pre, pre <+: Sp.prs m ∧ Jx pre W')) := by
  have HT := Lib.hid hT
  have HR := Lib.hid hr
  have HM := Lib.hid hm
  have hlen63 : ((Sp.vals m).length : Int) ≤ 32 := by omega
  clear hT hr hm
  refine callsIn_of_wp Tryd.func35 rfl trivial ?_ rfl
  simp only [Tryd.ntmps35, List.size_toArray, List.length_cons, List.length_nil, Nat.reduceAdd, Nat.reduceSub, Array.replicate_succ, Array.replicate_zero, List.push_toArray, List.append_toArray, List.nil_append, List.cons_append]
  gi_wp2
  gi_loopw [3, 12] (fun s3 i wr => ∃ k : Nat, k ≤ (Sp.vals m).length ∧ i = .int .i64 k ∧ s3 = .int .u32 (Sp.bitsL (Sp.drp k m)) ∧ Hid (J ((Sp.prs m).take k) wr) ∧ Hid (Below n₀ W wr)) (fun _ i _ => (Sp.vals m).length - (intOf i).toNat)
  case atStart => exact ⟨0, Nat.zero_le _, rfl, by simp [Sp.drp], by simpa [Hid] using h0, Below.refl _ _⟩
  case round =>
    obtain ⟨k, hk, rfl, rfl, hJs, hB⟩ := hrel
    by_cases hlt : k < (Sp.vals m).length
    · have hpl : k < (Sp.prs m).length := by rw [Sp.prs_len]; exact hlt
      obtain ⟨i, x, hix⟩ : ∃ i x, (Sp.prs m)[k]? = some (i, x) := ⟨_, _, List.getElem?_eq_getElem hpl⟩
      obtain ⟨hi, hbl, hnz, hctz, hcut, hval⟩ := drp_facts m HM.out k i x hix
      obtain ⟨ad, u, rfl, had, hu, hcell⟩ := (HR.out.below hB.out (fun _ h => h)).at_ hlt
      rw [List.getElem?_map, hval] at hu
      obtain rfl : Value.int .i64 x = u := by simpa using hu
      obtain ⟨fn, tmps, assign, body, hy, hR⟩ := hY _ (i, x) wr hJs.out (by rw [List.length_take]; omega)
      dsimp only at hy
      have HTZ := Lib.hid (tz_any _ hbl hnz wr (HT.out.below hB.out h0n))
      rw [hctz] at HTZ
      have HC := Lib.hid hcut
      have HX := Lib.hid hix
      clear hu hval hbl hnz hctz hcut hix hpl had HR
      gi_wp2_with (refine ⟨trivial, ?_⟩; gi_at_call 36; refine (callsIn_wide.2 HTZ.out).mono ?_; rintro e w' ⟨rfl, rfl⟩)
      have hpre : (Sp.prs m).take k ++ [(i, x)] = (Sp.prs m).take (k + 1) := by rw [List.take_add_one, HX.out]; rfl
      refine hR.mono ?_
      rintro e W3 (⟨rfl, hJ3, hk3⟩ | ⟨rfl, hJx3⟩)
      · rw [hpre] at hJ3
        have HJ3 := Lib.hid hJ3
        have HB3 := Lib.hid (hB.out.trans hk3)
        have hi1 : (i : Int) < 32 := by omega
        have e5 := HC.out
        clear hJ3 hk3 hpre hy hJs hB HTZ hR
        gi_wp2
        go_roundw
        case rel => exact ⟨k + 1, by omega, by simp, rfl, HJ3, HB3⟩
        case measure => simp [intOf]; omega
      · rw [hpre] at hJx3
        gi_wp2
        refine bodyPost_ret (results_none rfl _ _ _) rfl ?_
        exact ⟨⟨_, rfl⟩, .inr ⟨_, List.take_prefix _ _, hJx3⟩⟩
    · obtain rfl : k = (Sp.vals m).length := by omega
      gi_wp2
      go_end0
      exact ⟨⟨_, rfl⟩, .inl ⟨_, rfl, by have := hJs.out; rwa [← Sp.prs_len, List.take_length] at this⟩⟩

set_option maxHeartbeats 1000000 in
theorem all_any (A : Value) (b : Value) (w : World) :
    Calls Tryd.prog 19 #[.agg #[b, A]] w fun e w' => e = .returned (.func (.func 35) #[] #[.pointer (some ⟨w.heap.size, 0, none⟩)]) ∧ w' = w.alloc (.cells #[b, A] 26) := by
  go_enter Tryd.func19, Tryd.ntmps19
  go_wp2
  go_ret
  exact ⟨rfl, rfl⟩

/-- The value that All hands back goes through the row's pairs. -/
theorem all_stops (n : Nat) (hn : 1 ≤ n) (Bs n₀ : Nat) (m : List (Option Int)) (A : Option Addr) (c : Nat) (w : World) (hm : m.length = 32) (hlen : (Sp.vals m).length ≤ 32) (h0n : 0 < n₀) (hBs : Bs < w.heap.size) (hn₀ : n₀ ≤ w.heap.size)
    (hb : Blk w Bs 26 #[.int .u32 (Sp.bitsL m), .slice A (Sp.vals m).length c]) (hr : Reads w (fun k => k < n₀) 1 A (Sp.vals m).length ((Sp.vals m).map (Value.int .i64))) (hT : TabAt w) :
    SeqStopsK Fence.wide n Tryd.prog 35 #[.pointer (some ⟨Bs, 0, none⟩)] (fun x : Nat × Int => #[Value.int .i64 (x.1 : Int), Value.int .i64 x.2]) (Below n₀) (fun ys => ys = Sp.prs m) (fun pre => pre <+: Sp.prs m) (Sp.vals m).length w := fun l J Jx W hW _ _ hY h0 => by
  have hB := hb.below hW hBs
  exact all1_in n hn l Bs n₀ m A c hm hlen h0n J Jx hY W (hB.cell 0) (hB.cell 1) (hr.below hW (fun k hk => Nat.lt_of_lt_of_le hk hn₀)) (hT.below hW (by omega)) h0
end Go.Proofs.YtbgmlcakdkkfdaaDoor
