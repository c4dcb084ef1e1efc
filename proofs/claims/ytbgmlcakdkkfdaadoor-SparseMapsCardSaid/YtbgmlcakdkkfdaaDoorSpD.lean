/-
  THE WALK of sparse's Cut.
-/
import Derived.Test.YtbgmlcakdkkfdaaDoorSpB
import Derived.Laws.BitsAllLaws
import Derived.Laws.ResultCell
namespace Go.Proofs.YtbgmlcakdkkfdaaDoor
open Go.RowKit Go.BigFrame

theorem bits_cut_pow (b i : Nat) (hb : b < 4294967296) (hi : i < 32) : bits .andNot .u32 (b : Int) ((2 : Int) ^ i % 4294967296) = ((b &&& (2 ^ 32 - 1 - 2 ^ i) : Nat) : Int) := by
  rw [pow_mod32 i hi, u32_andNot_nat _ _ hb (pow_lt32 i hi)]

set_option maxHeartbeats 1000000 in
theorem cut_yes (m : List (Option Int)) (i : Nat) (y : Int) (A : Option Addr) (c : Nat) (w : World) (hm : m.length = 32) (hi : i < 32) (hx : Sp.at_ m i = some y)
    (hc : (Sp.vals m).length ≤ c) (S : Nat → Prop) (hS : ∀ k, S k → k < w.heap.size) (hr : Reads w S 1 A (Sp.vals m).length ((Sp.vals m).map (Value.int .i64))) :
    Calls Tryd.prog 18 #[.agg #[.int .u32 (Sp.bitsL m), .slice A (Sp.vals m).length c], .int .i64 i] w (RowOut w S (m.set i none)) := by
  obtain ⟨i0, hi0, hz0, hz1, hz2⟩ := info_parts int_info
  have hb := Sp.bitsL_lt m
  rw [hm] at hb
  have hrk := Sp.rank_le m i (by omega)
  have hlt := Sp.rank_lt m i (by omega) y hx
  have hl32 := Sp.vals_len_le m
  have hi' : ¬ ((i : Int) > 31) := by omega
  have HSS := Lib.hid hS
  clear hS
  obtain ⟨F, hF⟩ : ∃ F, F = ((Sp.vals m).map (Value.int .i64)).take (Sp.rank m i * 1) := ⟨_, rfl⟩
  obtain ⟨T, hT⟩ : ∃ T, T = ((Sp.vals m).map (Value.int .i64)).drop ((Sp.rank m i + 1) * 1) := ⟨_, rfl⟩
  have lF : F.length = Sp.rank m i := by rw [hF]; simp; omega
  have lT : T.length = (Sp.vals m).length - (Sp.rank m i + 1) := by rw [hT]; simp
  have oF : ∀ v ∈ F, v.oneCell' = true := fun v hv => by rw [hF] at hv; have := List.mem_of_mem_take hv; simp at this; obtain ⟨y, _, rfl⟩ := this; rfl
  have oT : ∀ v ∈ T, v.oneCell' = true := fun v hv => by rw [hT] at hv; have := List.mem_of_mem_drop hv; simp at this; obtain ⟨y, _, rfl⟩ := this; rfl
  have rF : Reads w S 1 A (Sp.rank m i) F := by rw [hF]; exact hr.take_ hrk
  have HF := Lib.hid hF
  have HT' := Lib.hid hT
  have LF := Lib.hid lF
  have LT := Lib.hid lT
  have OF := Lib.hid oF
  have OT := Lib.hid oT
  clear hF hT lF lT oF oT
  have HM := Lib.hid hm
  have HX := Lib.hid hx
  have HT := Lib.hid (show (Sp.bitsL m).testBit i = true by rw [Sp.testBit_bitsL, hx]; rfl)
  have hN : (Sp.vals m).length ≤ 32 := by omega
  clear hm hx
  go_enter Tryd.func18, Tryd.ntmps18
  go_wp2_with fail
  refine (has_yes _ _ _ _ hb hi HT.out).mono ?_
  rintro e w1 ⟨rfl, hb1⟩
  have hBk1 : Blk w1 w.heap.size 26 #[.int .u32 (Sp.bitsL m), .slice A (Sp.vals m).length c] := Blk.below ((Blk.new w _ _).alloc _) hb1 (by simp <;> omega)
  have hRk1 : Blk w1 (w.heap.size + 1) 26 #[.int .u32 0, .slice none 0 0] := Blk.below (by simpa using (Blk.new (w.alloc (.cells #[.int .u32 (Sp.bitsL m), .slice A (Sp.vals m).length c] 26)) 26 #[.int .u32 0, .slice none 0 0])) hb1 (by simp <;> omega)
  have hs1 : w.heap.size + 1 < w1.heap.size := hRk1.lt
  have hB1 : Below w.heap.size w w1 := (((Below.refl _ _).alloc (Nat.le_refl _) _).alloc (by simp) _).trans (hb1.mono (by simp <;> omega))
  clear hb1
  have q1 := hBk1.two
  go_wp2_with fail
  clear q1
  refine (rank_any _ _ _ _ HM.out hi).mono ?_
  rintro e w2 ⟨rfl, hb2⟩
  have hBk2 := hBk1.below hb2 (by omega)
  have hRk2 := hRk1.below hb2 (by omega)
  have hs2 : w.heap.size + 1 < w2.heap.size := hRk2.lt
  have hB2 := hB1.trans (hb2.mono (by omega))
  clear hb2 hBk1 hRk1 hB1 hs1
  have q2 := hBk2.two
  obtain ⟨Z, hZ⟩ : ∃ Z, Z = (madeCells (Value.int IntKind.i64 0).cells (((Sp.vals m).length - 1) * 1)).toList := ⟨_, rfl⟩
  have LZ := Lib.hid (show Z.length = (Sp.vals m).length - 1 by rw [hZ]; simp [size_madeCells])
  have HZ := Lib.hid hZ
  clear hZ
  go_wp2_with (first
    | (at_make; go_must (refine wpList_make_full _ rfl _ _ 23 rfl w2.heap.size 3 i0 (.int .i64 0) 1 Tryd.underlying23 hi0 hz0 hz1 .i64 .i64 _ _ ((Sp.vals m).length - 1) rfl rfl (by omega) (by omega) (by rw [hz2]; omega) (by simp only [maxLen]; omega) (Nat.le_refl _) ?_); intro w3 hown3 hg3; have HG3 := Lib.hid (ownsRow_whole hown3).1; rw [← HZ.out] at HG3; clear hown3; have hb3 := (Below.refl w2.heap.size w2).grown hg3 (Nat.le_refl _) (by simp); clear hg3; have q3 := (hBk2.below hb3 (by omega)).two)
    | (refine wpList_copy_cells rfl (.tmp 20) (.tmp 24) _ _ rfl 3 i0 1 Tryd.underlying23 hi0 hz1 _ _ _ _ _ _ (Sp.rank m i) rfl rfl (by simp [Nat.min_def] <;> omega) w2.heap.size 0 Z 3 HG3.out F S (rF.below (hB2.trans (hb3.mono (by omega))) HSS.out) (fun _ => rfl) (by rw [LF.out, LZ.out]; omega) OF.out w.heap.size w (hB2.trans (hb3.mono (by omega))) (by omega) ?_; intro w4 HG4 ho4 hB4))
  have hBk5 : Blk w4 w.heap.size 26 #[.int .u32 (Sp.bitsL m), .slice A (Sp.vals m).length c] := (ho4 _ (by omega)).trans (hBk2.below hb3 (by omega))
  have hRk5 : Blk w4 (w.heap.size + 1) 26 #[.int .u32 0, .slice none 0 0] := (ho4 _ (by omega)).trans (hRk2.below hb3 (by omega))
  have hs5 : w2.heap.size < w4.heap.size := Blk.lt HG4.out
  clear ho4 q3 hb3 HG3 q2 hBk2 hRk2 hB2
  have q5 := hBk5.two
  have e1 : IntKind.i64.wrap ((Sp.rank m i : Nat) + 1 : Int) = (Sp.rank m i : Nat) + 1 := IntWalk.i64_in _ (by omega)
  have e2 : (0 : Int) ≤ (Sp.rank m i : Nat) + 1 := by omega
  have e3 : ((Sp.rank m i : Nat) : Int) + 1 ≤ (Sp.vals m).length := by omega
  have e6 : Sp.rank m i ≤ (Sp.vals m).length - 1 := by omega
  have e4 : ((Sp.rank m i : Nat) + 1 : Int).toNat = Sp.rank m i + 1 := by omega
  have rT : Reads w4.drew S 1 (if c = Sp.rank m i + 1 then A else Option.map (fun x => x.add (Sp.rank m i + 1)) A) ((Sp.vals m).length - (Sp.rank m i + 1)) T := by
    have h := (hr.cut (k := Sp.rank m i + 1) hlt hc).below hB4.drew HSS.out
    rw [HT'.out]
    simpa only [Nat.mul_one] using h
  have hdp : 0 < (Sp.vals m).length - (Sp.rank m i + 1) → (if (Sp.vals m).length - 1 = Sp.rank m i then some (⟨w2.heap.size, 0, none⟩ : Addr) else some ⟨w2.heap.size, Sp.rank m i, none⟩) = some ⟨w2.heap.size, Sp.rank m i, none⟩ := fun h => if_neg (by omega)
  have hfit : Sp.rank m i + T.length ≤ (splice Z 0 F).length := by
    rw [length_splice _ _ _ (by rw [LF.out, LZ.out]; omega), LZ.out, LT.out]; omega
  have RT := Lib.hid rT
  have HDP := Lib.hid hdp
  have HFIT := Lib.hid hfit
  clear rT hdp hfit
  go_region_law (refine step_copy_cells rfl (.tmp 28) (.tmp 33) _ _ rfl 3 i0 1 Tryd.underlying23 hi0 hz1 _ _ _ _ _ _ ((Sp.vals m).length - (Sp.rank m i + 1)) rfl rfl (by simp [Nat.min_def] <;> omega) w2.heap.size (Sp.rank m i) _ 3 HG4.out T S RT.out HDP.out HFIT.out OT.out w.heap.size w hB4.drew (by omega) ?_; intro w6 HG6 ho6 hB6)
  have hBk6 : Blk w6 w.heap.size 26 #[.int .u32 (Sp.bitsL m), .slice A (Sp.vals m).length c] := (ho6 _ (by omega)).trans hBk5
  have hRk6 : Blk w6 (w.heap.size + 1) 26 #[.int .u32 0, .slice none 0 0] := (ho6 _ (by omega)).trans hRk5
  clear q5 ho6
  have q6 := hBk6.two
  have r6 := hRk6.two
  generalize (if (Sp.vals m).length - 1 = Sp.rank m i then some (⟨w2.heap.size, 0, none⟩ : Addr) else some ⟨w2.heap.size, Sp.rank m i, none⟩) = p1
  generalize (if c = Sp.rank m i + 1 then A else Option.map (fun x => (⟨x.block, x.off + (Sp.rank m i + 1), none⟩ : Addr)) A) = p2
  clear RT HDP
  have e5 : bits .andNot .u32 (Sp.bitsL m : Int) ((2 : Int) ^ i % 4294967296) = (Sp.bitsL (m.set i none) : Int) := by
    rw [bits_cut_pow _ _ hb hi, Sp.bits_cut m i (by rw [HM.out]; exact hi) 32 (by rw [HM.out]; exact Nat.le_refl _)]
  go_wp2
  have hRk7 := (hRk6.set_ 0 (.int .u32 (Sp.bitsL (m.set i none)))).set_ 1 (.slice (some ⟨w2.heap.size, 0, none⟩) ((Sp.vals m).length - 1) ((Sp.vals m).length - 1))
  have HG7 := (Blk.far (Blk.far (w := w6) HG6.out (p := ⟨w.heap.size + 1, 0, none⟩) (by simp; omega) (.int .u32 (Sp.bitsL (m.set i none)))) (p := ⟨w.heap.size + 1, 1, none⟩) (by simp; omega) (.slice (some ⟨w2.heap.size, 0, none⟩) ((Sp.vals m).length - 1) ((Sp.vals m).length - 1)))
  have hB7 := (hB6.setCell (p := ⟨w.heap.size + 1, 0, none⟩) (by simp) (.int .u32 (Sp.bitsL (m.set i none)))).setCell (p := ⟨w.heap.size + 1, 1, none⟩) (by simp) (.slice (some ⟨w2.heap.size, 0, none⟩) ((Sp.vals m).length - 1) ((Sp.vals m).length - 1))
  refine bodyPost_ret (v := .agg #[.int .u32 (Sp.bitsL (m.set i none)), .slice (some ⟨w2.heap.size, 0, none⟩) ((Sp.vals m).length - 1) ((Sp.vals m).length - 1)]) (results_cell_row rfl _ _ _ _ _ _ _ rfl hRk7 Tryd.underlying26 rfl (by kernel_rfl)) rfl ⟨_, rfl, ?_, hB7⟩
  have hv := Sp.vals_set m i (by rw [HM.out]; exact hi) none
  rw [HX.out] at hv
  refine row_made (fun k hk => Nat.lt_of_lt_of_le (HSS.out k hk) hB7.size) (by omega) (by rw [List.length_set]; exact HM.out) HG7 ?_ ?_
  · rw [← LF.out, splice_two Z F T (by rw [LZ.out, LT.out, LF.out]; omega), hv, HF.out, HT'.out]
    simp [List.map_take, List.map_drop]
  · rw [hv]; simp; omega

/-- Cut where there is nothing. -/
theorem cut_no (m : List (Option Int)) (i : Int) (A : Option Addr) (c : Nat) (w : World) (hm : m.length = 32) (hi : i < 0 ∨ 32 ≤ i ∨ (Sp.bitsL m).testBit i.toNat = false)
    (hc : (Sp.vals m).length ≤ c) (S : Nat → Prop) (hS : ∀ k, S k → k < w.heap.size) (hr : Reads w S 1 A (Sp.vals m).length ((Sp.vals m).map (Value.int .i64))) :
    Calls Tryd.prog 18 #[.agg #[.int .u32 (Sp.bitsL m), .slice A (Sp.vals m).length c], .int .i64 i] w (RowOut w S m) := by
  have hb := Sp.bitsL_lt m
  rw [hm] at hb
  have HM := Lib.hid hm
  have HI := Lib.hid hi
  clear hm hi
  go_enter Tryd.func18, Tryd.ntmps18
  go_wp2_with fail
  refine (has_no _ _ _ _ hb HI.out).mono ?_
  rintro e w1 ⟨rfl, hb1⟩
  have hBk1 : Blk w1 w.heap.size 26 #[.int .u32 (Sp.bitsL m), .slice A (Sp.vals m).length c] := Blk.below ((Blk.new w _ _).alloc _) hb1 (by simp <;> omega)
  have hRk1 : Blk w1 (w.heap.size + 1) 26 #[.int .u32 0, .slice none 0 0] := Blk.below (by simpa using (Blk.new (w.alloc (.cells #[.int .u32 (Sp.bitsL m), .slice A (Sp.vals m).length c] 26)) 26 #[.int .u32 0, .slice none 0 0])) hb1 (by simp <;> omega)
  have hB1 : Below w.heap.size w w1 := (((Below.refl _ _).alloc (Nat.le_refl _) _).alloc (by simp) _).trans (hb1.mono (by simp <;> omega))
  clear hb1
  have q1 := hBk1.two
  have r1 := hRk1.two
  go_wp2
  have hRk7 := (hRk1.set_ 0 (.int .u32 (Sp.bitsL m))).set_ 1 (.slice A (Sp.vals m).length c)
  have hB7 := (hB1.setCell (p := ⟨w.heap.size + 1, 0, none⟩) (by simp) (.int .u32 (Sp.bitsL m))).setCell (p := ⟨w.heap.size + 1, 1, none⟩) (by simp) (.slice A (Sp.vals m).length c)
  refine bodyPost_ret (v := .agg #[.int .u32 (Sp.bitsL m), .slice A (Sp.vals m).length c]) (results_cell_row rfl _ _ _ _ _ _ _ rfl hRk7 Tryd.underlying26 rfl (by kernel_rfl)) rfl ⟨_, rfl, ⟨HM.out, fun k hk => by rcases hk with h | h; exact Nat.lt_of_lt_of_le (hS k h) hB7.size; exact h.2, A, c, rfl, hc, (hr.below hB7 hS).more fun _ h => .inl h⟩, hB7⟩

theorem cut_any (m : List (Option Int)) (i : Int) (v : Value) (w : World) (S : Nat → Prop) (hv : RowIn w S m v) :
    Calls Tryd.prog 18 #[v, .int .i64 i] w (RowOut w S (Sp.cutM m i)) := by
  obtain ⟨hm, hS, A, c, rfl, hc, hr⟩ := hv
  by_cases hi : 0 ≤ i ∧ i < 32
  · rw [Sp.cutM, if_pos hi]
    obtain ⟨n, rfl⟩ := Int.eq_ofNat_of_zero_le hi.1
    rw [Int.toNat_natCast]
    cases hx : Sp.at_ m n with
    | none =>
      rw [Sp.set_same m n hx (by omega)]
      exact cut_no m n A c w hm (.inr (.inr (by rw [Int.toNat_natCast, Sp.testBit_bitsL, hx]; rfl))) hc S hS hr
    | some y => exact cut_yes m n y A c w hm (by omega) hx hc S hS hr
  · rw [Sp.cutM, if_neg hi]
    exact cut_no m i A c w hm (by omega) hc S hS hr

/-- Of: the zero row, and ErrArg. -/
theorem of_no (b n c : Nat) (A : Option Addr) (w : World) (hb : b < 4294967296) (h : Lib.onesCount b ≠ n) :
    Calls Tryd.prog 10 #[.int .u32 b, .slice A n c] w fun e w' => e = .returned (.tuple #[.agg #[.int .u32 0, .slice none 0 0], .int .i64 1]) ∧ Below w.heap.size w w' := by
  have hne : ((Lib.onesCount b : Int) != (n : Int)) = true := by simp; omega
  clear h
  go_enter Tryd.func10, Tryd.ntmps10
  go_wp2_with (go_at_call 28; refine (ones_any _ _ hb).mono ?_; rintro e w1 ⟨rfl, k, rfl⟩)
  refine bodyPost_ret (v := .tuple #[.agg #[.int .u32 0, .slice none 0 0], .int .i64 1]) (by rw [results_cell_tmp rfl]; simp [go_sem]) rfl ⟨rfl, ?_⟩
  exact ((below_drewN ((Below.refl _ _).alloc (Nat.le_refl _) _) _).setCell (by simp) _).setCell (by simp) _

def OfOut (w : World) (m : List (Option Int)) (e : Ending) (w' : World) : Prop := ∃ v, e = .returned (.tuple #[v, .int .i64 0]) ∧ RowIn w' (Sx (fun _ => False) w w') m v ∧ Below w.heap.size w w'

set_option maxHeartbeats 1000000 in
theorem of_yes (b c : Nat) (l : List Int) (A : Option Addr) (w : World) (hb : b < 4294967296) (h : Lib.onesCount b = l.length) (S : Nat → Prop) (hS : ∀ k, S k → k < w.heap.size) (hr : Reads w S 1 A l.length (l.map (Value.int .i64))) :
    Calls Tryd.prog 10 #[.int .u32 b, .slice A l.length c] w (OfOut w (Sp.ofBits 32 b l)) := by
  obtain ⟨i0, hi0, hz0, hz1, hz2⟩ := info_parts int_info
  have hpop : Lib.popAux 32 b = l.length := by
    rw [← h, Lib.onesCount, show (64 : Nat) = 32 + 32 by rfl, Sp.popAux_add0 32 32 b hb]
  obtain ⟨hbits, hvals⟩ := Sp.ofBits_spec 32 b l hb hpop
  have hlen := Sp.ofBits_len 32 b l
  have hn : l.length ≤ 32 := by have := Sp.vals_len_le (Sp.ofBits 32 b l); rw [hvals, hlen] at this; exact this
  have hne : ((Lib.onesCount b : Int) != (l.length : Int)) = false := by simp; omega
  have HB := Lib.hid hbits
  have HV := Lib.hid hvals
  have HL := Lib.hid hlen
  clear hbits hvals hlen hpop h
  have HSS := Lib.hid hS
  clear hS
  obtain ⟨F, hF⟩ : ∃ F, F = l.map (Value.int .i64) := ⟨_, rfl⟩
  have oF : ∀ v ∈ F, v.oneCell' = true := fun v hv => by rw [hF] at hv; simp at hv; obtain ⟨y, _, rfl⟩ := hv; rfl
  have lF : F.length = l.length := by rw [hF]; simp
  rw [← hF] at hr
  have OF := Lib.hid oF
  have LF := Lib.hid lF
  have HF := Lib.hid hF
  clear oF lF hF
  go_enter Tryd.func10, Tryd.ntmps10
  go_wp2_with fail
  refine (ones_any _ _ hb).mono ?_
  rintro e w1 ⟨rfl, k, rfl⟩
  obtain ⟨w1, hw1⟩ : ∃ w1, w1 = (w.alloc (.cells #[.int .u32 0, .slice none 0 0] 26)).drewN k := ⟨_, rfl⟩
  rw [← hw1]
  have hRk1 : Blk w1 w.heap.size 26 #[.int .u32 0, .slice none 0 0] := by rw [hw1]; exact (Blk.new w _ _).drewN k
  have hB1 : Below w.heap.size w w1 := by rw [hw1]; exact below_drewN ((Below.refl _ _).alloc (Nat.le_refl _) _) _
  have hs1 := hRk1.lt
  clear hw1
  obtain ⟨Z, hZ⟩ : ∃ Z, Z = (madeCells (Value.int IntKind.i64 0).cells (l.length * 1)).toList := ⟨_, rfl⟩
  have LZ := Lib.hid (show Z.length = l.length by rw [hZ]; simp [size_madeCells])
  have HZ := Lib.hid hZ
  clear hZ
  go_wp2_with (first
    | (at_make; go_must (refine wpList_make_full _ rfl _ _ 23 rfl w1.heap.size 3 i0 (.int .i64 0) 1 Tryd.underlying23 hi0 hz0 hz1 .i64 .i64 _ _ l.length rfl rfl (by simp) (by simp) (by rw [hz2]; omega) (by simp only [maxLen]; omega) (Nat.le_refl _) ?_); intro w3 hown3 hg3; have HG3 := Lib.hid (ownsRow_whole hown3).1; rw [← HZ.out] at HG3; clear hown3; have hb3 := (Below.refl w1.heap.size w1).grown hg3 (Nat.le_refl _) (by simp); clear hg3)
    | (refine wpList_copy_cells rfl (.tmp 16) (.tmp 17) _ _ rfl 3 i0 1 Tryd.underlying23 hi0 hz1 _ _ _ _ _ _ l.length rfl rfl (by simp) w1.heap.size 0 Z 3 HG3.out F S (hr.below (hB1.trans (hb3.mono (by omega))) HSS.out) (fun _ => rfl) (by rw [LF.out, LZ.out]; omega) OF.out w.heap.size w (hB1.trans (hb3.mono (by omega))) (by omega) ?_; intro w4 HG4 ho4 hB4; have hRk4 : Blk w4 w.heap.size 26 #[.int .u32 0, .slice none 0 0] := (ho4 _ (by omega)).trans (hRk1.below hb3 (by omega)); have r4 := hRk4.two))
  have hRk7 := (hRk4.set_ 0 (.int .u32 b)).set_ 1 (.slice (some ⟨w1.heap.size, 0, none⟩) l.length l.length)
  have HG7 := (Blk.far (Blk.far (w := w4) HG4.out (p := ⟨w.heap.size, 0, none⟩) (by simp; omega) (.int .u32 b)) (p := ⟨w.heap.size, 1, none⟩) (by simp; omega) (.slice (some ⟨w1.heap.size, 0, none⟩) l.length l.length))
  have hB7 := (hB4.setCell (p := ⟨w.heap.size, 0, none⟩) (by simp) (.int .u32 b)).setCell (p := ⟨w.heap.size, 1, none⟩) (by simp) (.slice (some ⟨w1.heap.size, 0, none⟩) l.length l.length)
  have hin := row_made (w0 := w) (S := fun _ => False) (m := Sp.ofBits 32 b l) (n := l.length) (fun k hk => hk.elim) (by omega) HL.out HG7 (by
    have h3 := splice_two Z F [] (by rw [LZ.out, LF.out]; simp)
    simp only [splice, List.take_zero, List.nil_append, List.append_nil, Nat.zero_add] at h3 ⊢
    rw [HV.out, LF.out, List.drop_eq_nil_of_le (by rw [LZ.out]; exact Nat.le_refl _), List.append_nil]; exact HF.out) (by rw [HV.out])
  rw [HB.out] at hin
  exact bodyPost_ret (v := .tuple #[.agg #[.int .u32 b, .slice (some ⟨w1.heap.size, 0, none⟩) l.length l.length], .int .i64 0]) (results_cell_row_tmp (fn := Tryd.f10) (p := 4) (u := 5) rfl _ _ _ _ _ _ rfl hRk7 Tryd.underlying26 rfl (by kernel_rfl)) rfl ⟨_, rfl, hin, hB7⟩

end Go.Proofs.YtbgmlcakdkkfdaaDoor
