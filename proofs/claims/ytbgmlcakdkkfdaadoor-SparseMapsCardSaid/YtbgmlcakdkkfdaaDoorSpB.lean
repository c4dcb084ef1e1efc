/-
  THE WALKS of sparse's Set and Cut.
-/
import Derived.Test.YtbgmlcakdkkfdaaDoorSpA
import Derived.Test.YtbgmlcakdkkfdaaDoorLaws
import Derived.Deep.DeepMust
import Derived.IntWalk
import Derived.Deep.RegionLaw
namespace Go.Proofs.YtbgmlcakdkkfdaaDoor
open Go.RowKit Go.BigFrame

def RowOut (w : World) (S : Nat → Prop) (m : List (Option Int)) (e : Ending) (w' : World) : Prop := ∃ v, e = .returned v ∧ RowIn w' (Sx S w w') m v ∧ Below w.heap.size w w'

theorem pow_lt32 (i : Nat) (hi : i < 32) : 2 ^ i < 4294967296 := Nat.lt_of_lt_of_eq (Nat.pow_lt_pow_right (by omega) hi) (by decide)
theorem pow_mod32 (i : Nat) (hi : i < 32) : ((2 : Int) ^ i % 4294967296) = ((2 ^ i : Nat) : Int) := by
  have h1 := pow_lt32 i hi
  have h3 : ((2 ^ i : Nat) : Int) = (2 : Int) ^ i := by rw [Int.natCast_pow]; rfl
  rw [← h3]
  generalize 2 ^ i = p at *
  omega
theorem bits_or_pow (b i : Nat) (hb : b < 4294967296) (hi : i < 32) : bits .or .u32 (b : Int) ((2 : Int) ^ i % 4294967296) = ((b ||| 2 ^ i : Nat) : Int) := by
  rw [pow_mod32 i hi, bits_or_nat _ _ hb (pow_lt32 i hi)]
/-- A row that lies in a block of its own. -/
theorem row_made {w0 w : World} {S : Nat → Prop} {m : List (Option Int)} {g n t : Nat} {cs : List Value} (hS : ∀ k, S k → k < w.heap.size) (hg0 : w0.heap.size ≤ g) (hm : m.length = 32) (hg : w.heap[g]? = some (.cells cs.toArray t (0, 0))) (hc : cs = (Sp.vals m).map (Value.int .i64)) (hn : n = (Sp.vals m).length) :
    RowIn w (Sx S w0 w) m (.agg #[.int .u32 (Sp.bitsL m), .slice (some ⟨g, 0, none⟩) n n]) := by
  subst hn
  have hlt := Blk.lt (cs := cs.toArray) hg
  refine ⟨hm, fun k hk => by rcases hk with h | h; exact hS k h; exact h.2, some ⟨g, 0, none⟩, _, rfl, Nat.le_refl _, by simp, fun _ => ⟨_, rfl, .inr ⟨hg0, hlt⟩, fun j u hu => ?_⟩⟩
  have : (⟨g, 0, none⟩ : Addr).add j = ⟨g, j, none⟩ := by unfold Addr.add; split <;> simp_all
  rw [this, Blk.cell (cs := cs.toArray) hg]
  simpa [hc] using hu

theorem int_info : (Tryd.prog.info? 3).map (fun i => (i.zero, i.size, i.bytes)) = some (some (.int .i64 0), 1, 8) := by kernel_rfl

set_option maxHeartbeats 1000000 in
theorem set_no (m : List (Option Int)) (i : Nat) (x : Int) (A : Option Addr) (c : Nat) (w : World) (hm : m.length = 32) (hi : i < 32) (hx : Sp.at_ m i = none)
    (hc : (Sp.vals m).length ≤ c) (S : Nat → Prop) (hS : ∀ k, S k → k < w.heap.size) (hr : Reads w S 1 A (Sp.vals m).length ((Sp.vals m).map (Value.int .i64))) :
    Calls Tryd.prog 25 #[.agg #[.int .u32 (Sp.bitsL m), .slice A (Sp.vals m).length c], .int .i64 i, .int .i64 x] w (RowOut w S (m.set i (some x))) := by
  obtain ⟨i0, hi0, hz0, hz1, hz2⟩ := info_parts int_info
  have hb := Sp.bitsL_lt m
  rw [hm] at hb
  have hrk := Sp.rank_le m i (by omega)
  have hl32 := Sp.vals_len_le m
  have hi' : ¬ ((i : Int) > 31) := by omega
  have HSS := Lib.hid hS
  clear hS
  obtain ⟨F, hF⟩ : ∃ F, F = ((Sp.vals m).map (Value.int .i64)).take (Sp.rank m i * 1) := ⟨_, rfl⟩
  obtain ⟨T, hT⟩ : ∃ T, T = ((Sp.vals m).map (Value.int .i64)).drop (Sp.rank m i * 1) := ⟨_, rfl⟩
  have lF : F.length = Sp.rank m i := by rw [hF]; simp; omega
  have lT : T.length = (Sp.vals m).length - Sp.rank m i := by rw [hT]; simp
  have oF : ∀ v ∈ F, v.oneCell' = true := fun v hv => by rw [hF] at hv; have := List.mem_of_mem_take hv; simp at this; obtain ⟨y, _, rfl⟩ := this; rfl
  have oT : ∀ v ∈ T, v.oneCell' = true := fun v hv => by rw [hT] at hv; have := List.mem_of_mem_drop hv; simp at this; obtain ⟨y, _, rfl⟩ := this; rfl
  have rF : Reads w S 1 A (Sp.rank m i) F := by rw [hF]; exact hr.take_ hrk
  have HF := Lib.hid hF
  have HT' := Lib.hid hT
  have LF := Lib.hid lF
  have LT := Lib.hid lT
  have OF := Lib.hid oF
  have OT := Lib.hid oT
  clear hF hT lF lT oF oT
  have HM := Lib.hid hm
  have HX := Lib.hid hx
  have HT := Lib.hid (show (Sp.bitsL m).testBit i = false by rw [Sp.testBit_bitsL, hx]; rfl)
  have hN : (Sp.vals m).length ≤ 32 := by omega
  clear hm hx
  go_enter Tryd.func25, Tryd.ntmps25
  go_wp2_with fail
  go_region_held3 (fun w' => w'.cell? ⟨w.heap.size, 0, none⟩ = some (.int .u32 (Sp.bitsL m)) ∧ w'.cell? ⟨w.heap.size, 1, none⟩ = some (.slice A (Sp.vals m).length c))
    (first | go_keep | (go_split_ands; refine ⟨?_, ?_⟩ <;> (rw [hb1.cell (by simp <;> omega)]; assumption)))
    (first | (go_at_call 33; refine (rank_any _ _ _ _ HM.out hi).mono ?_; rintro e w1 ⟨rfl, hb1⟩))
  have hBk1 : Blk w1 w.heap.size 26 #[.int .u32 (Sp.bitsL m), .slice A (Sp.vals m).length c] := Blk.below (((Blk.new w _ _).alloc _).drew) hb1 (by simp <;> omega)
  have hRk1 : Blk w1 (w.heap.size + 1) 26 #[.int .u32 0, .slice none 0 0] := Blk.below (by simpa using (Blk.new (w.alloc (.cells #[.int .u32 (Sp.bitsL m), .slice A (Sp.vals m).length c] 26)) 26 #[.int .u32 0, .slice none 0 0]).drew) hb1 (by simp <;> omega)
  have hs1 : w.heap.size + 1 < w1.heap.size := hRk1.lt
  have hB1 : Below w.heap.size w w1 := (((Below.refl _ _).alloc (Nat.le_refl _) _).alloc (by simp) _).trans (below_drewl (hb1.mono (by simp <;> omega)))
  clear hb1
  have q1 := hBk1.two
  go_wp2_with fail
  clear q1
  refine (has_no _ _ _ _ hb (.inr (.inr (by rw [Int.toNat_natCast]; exact HT.out)))).mono ?_
  rintro e w2 ⟨rfl, hb2⟩
  have hBk2 := hBk1.below hb2 (by omega)
  have hRk2 := hRk1.below hb2 (by omega)
  have hs2 : w.heap.size + 1 < w2.heap.size := hRk2.lt
  have hB2 := hB1.trans (hb2.mono (by omega))
  clear hb2 hBk1 hRk1 hB1 hs1
  have q2 := hBk2.two
  obtain ⟨Z, hZ⟩ : ∃ Z, Z = (madeCells (Value.int IntKind.i64 0).cells (((Sp.vals m).length + 1) * 1)).toList := ⟨_, rfl⟩
  have LZ := Lib.hid (show Z.length = (Sp.vals m).length + 1 by rw [hZ]; simp [size_madeCells])
  have HZ := Lib.hid hZ
  clear hZ
  go_wp2_with (first
    | (at_make; go_must (refine wpList_make_full _ rfl _ _ 23 rfl w2.heap.size 3 i0 (.int .i64 0) 1 Tryd.underlying23 hi0 hz0 hz1 .i64 .i64 _ _ ((Sp.vals m).length + 1) rfl rfl (by simp) (by simp) (by rw [hz2]; omega) (by simp only [maxLen]; omega) (Nat.le_refl _) ?_); intro w3 hown3 hg3; have HG3 := Lib.hid (ownsRow_whole hown3).1; rw [← HZ.out] at HG3; clear hown3; have hb3 := (Below.refl w2.heap.size w2).grown hg3 (Nat.le_refl _) (by simp); clear hg3; have q3 := (hBk2.below hb3 (by omega)).two)
    | (refine wpList_copy_cells rfl (.tmp 34) (.tmp 38) _ _ rfl 3 i0 1 Tryd.underlying23 hi0 hz1 _ _ _ _ _ _ (Sp.rank m i) rfl rfl (by simp [Nat.min_def] <;> omega) w2.heap.size 0 Z 3 HG3.out F S (rF.below (hB2.trans (hb3.mono (by omega))) HSS.out) (fun _ => rfl) (by rw [LF.out, LZ.out]; omega) OF.out w.heap.size w (hB2.trans (hb3.mono (by omega))) (by omega) ?_; intro w4 HG4 ho4 hB4; have x4 := Blk.at_ HG4.out (Sp.rank m i) (by rw [length_splice _ _ _ (by rw [LF.out, LZ.out]; omega), LZ.out]; omega)))
  obtain ⟨w5, hw5⟩ : ∃ w5, w5 = w4.setCell ⟨w2.heap.size, Sp.rank m i, none⟩ (.int .i64 x) := ⟨_, rfl⟩
  rw [← hw5]
  have HG5 := Lib.hid (heap_set HG4.out (Sp.rank m i) (.int .i64 x))
  rw [← hw5] at HG5
  have hBk5 : Blk w5 w.heap.size 26 #[.int .u32 (Sp.bitsL m), .slice A (Sp.vals m).length c] := by rw [hw5]; exact Blk.far ((ho4 _ (by omega)).trans (hBk2.below hb3 (by omega))) (by simp; omega) _
  have hRk5 : Blk w5 (w.heap.size + 1) 26 #[.int .u32 0, .slice none 0 0] := by rw [hw5]; exact Blk.far ((ho4 _ (by omega)).trans (hRk2.below hb3 (by omega))) (by simp; omega) _
  have hB5 : Below w.heap.size w w5 := by rw [hw5]; exact hB4.setCell (by simp; omega) _
  have hs5 : w2.heap.size < w5.heap.size := Blk.lt HG5.out
  clear HG4 ho4 hB4 x4 q3 hb3 HG3 hw5 q2 hBk2 hRk2 hB2
  have q5 := hBk5.two
  have e1 : IntKind.i64.wrap ((Sp.rank m i : Nat) + 1 : Int) = (Sp.rank m i : Nat) + 1 := IntWalk.i64_in _ (by omega)
  have e2 : (0 : Int) ≤ (Sp.rank m i : Nat) + 1 := by omega
  have e3 : ((Sp.rank m i : Nat) : Int) ≤ (Sp.vals m).length := by omega
  have e4 : ((Sp.rank m i : Nat) + 1 : Int).toNat = Sp.rank m i + 1 := by omega
  have rT : Reads w5.drew S 1 (if c = Sp.rank m i then A else Option.map (fun x => x.add (Sp.rank m i)) A) ((Sp.vals m).length - Sp.rank m i) T := by
    have h := (hr.cut hrk hc).below hB5.drew HSS.out
    rw [HT'.out]
    simpa only [Nat.mul_one] using h
  have hdp : 0 < (Sp.vals m).length - Sp.rank m i → (if (Sp.vals m).length = Sp.rank m i then some (⟨w2.heap.size, 0, none⟩ : Addr) else some ⟨w2.heap.size, Sp.rank m i + 1, none⟩) = some ⟨w2.heap.size, Sp.rank m i + 1, none⟩ := fun h => if_neg (by omega)
  have hfit : Sp.rank m i + 1 + T.length ≤ ((splice Z 0 F).set (Sp.rank m i) (Value.int .i64 x)).length := by
    rw [List.length_set, length_splice _ _ _ (by rw [LF.out, LZ.out]; omega), LZ.out, LT.out]; omega
  have RT := Lib.hid rT
  have HDP := Lib.hid hdp
  have HFIT := Lib.hid hfit
  clear rT hdp hfit
  go_region_law (refine step_copy_cells rfl (.tmp 47) (.tmp 51) _ _ rfl 3 i0 1 Tryd.underlying23 hi0 hz1 _ _ _ _ _ _ ((Sp.vals m).length - Sp.rank m i) rfl rfl (by simp) w2.heap.size (Sp.rank m i + 1) _ 3 HG5.out T S RT.out HDP.out HFIT.out OT.out w.heap.size w hB5.drew (by omega) ?_; intro w6 HG6 ho6 hB6)
  have hBk6 : Blk w6 w.heap.size 26 #[.int .u32 (Sp.bitsL m), .slice A (Sp.vals m).length c] := (ho6 _ (by omega)).trans hBk5
  have hRk6 : Blk w6 (w.heap.size + 1) 26 #[.int .u32 0, .slice none 0 0] := (ho6 _ (by omega)).trans hRk5
  clear q5 ho6
  have q6 := hBk6.two
  have r6 := hRk6.two
  generalize (if (Sp.vals m).length = Sp.rank m i then some (⟨w2.heap.size, 0, none⟩ : Addr) else some ⟨w2.heap.size, Sp.rank m i + 1, none⟩) = p1
  generalize (if c = Sp.rank m i then A else Option.map (fun x => x.add (Sp.rank m i)) A) = p2
  clear RT HDP
  have e5 : bits .or .u32 (Sp.bitsL m : Int) ((2 : Int) ^ i % 4294967296) = (Sp.bitsL (m.set i (some x)) : Int) := by
    rw [bits_or_pow _ _ hb hi, Sp.bits_set m i (by rw [HM.out]; exact hi)]
  go_wp2
  have hRk7 := (hRk6.set_ 0 (.int .u32 (Sp.bitsL (m.set i (some x))))).set_ 1 (.slice (some ⟨w2.heap.size, 0, none⟩) ((Sp.vals m).length + 1) ((Sp.vals m).length + 1))
  have HG7 := (Blk.far (Blk.far (w := w6) HG6.out (p := ⟨w.heap.size + 1, 0, none⟩) (by simp; omega) (.int .u32 (Sp.bitsL (m.set i (some x))))) (p := ⟨w.heap.size + 1, 1, none⟩) (by simp; omega) (.slice (some ⟨w2.heap.size, 0, none⟩) ((Sp.vals m).length + 1) ((Sp.vals m).length + 1)))
  have hB7 := (hB6.setCell (p := ⟨w.heap.size + 1, 0, none⟩) (by simp) (.int .u32 (Sp.bitsL (m.set i (some x))))).setCell (p := ⟨w.heap.size + 1, 1, none⟩) (by simp) (.slice (some ⟨w2.heap.size, 0, none⟩) ((Sp.vals m).length + 1) ((Sp.vals m).length + 1))
  refine bodyPost_ret (v := .agg #[.int .u32 (Sp.bitsL (m.set i (some x))), .slice (some ⟨w2.heap.size, 0, none⟩) ((Sp.vals m).length + 1) ((Sp.vals m).length + 1)]) (results_cell_row rfl _ _ _ _ _ _ _ rfl hRk7 Tryd.underlying26 rfl (by kernel_rfl)) rfl ⟨_, rfl, ?_, hB7⟩
  have hv := Sp.vals_set m i (by rw [HM.out]; exact hi) (some x)
  rw [HX.out] at hv
  refine row_made (fun k hk => Nat.lt_of_lt_of_le (HSS.out k hk) hB7.size) (by omega) (by rw [List.length_set]; exact HM.out) HG7 ?_ ?_
  · rw [splice_put Z F T _ _ LF.out (by rw [LZ.out, LT.out]; omega), hv, HF.out, HT'.out]
    simp [List.map_take, List.map_drop]
  · rw [hv]; simp; omega

set_option maxHeartbeats 1000000 in
theorem set_yes (m : List (Option Int)) (i : Nat) (x y : Int) (A : Option Addr) (c : Nat) (w : World) (hm : m.length = 32) (hi : i < 32) (hx : Sp.at_ m i = some y)
    (hc : (Sp.vals m).length ≤ c) (S : Nat → Prop) (hS : ∀ k, S k → k < w.heap.size) (hr : Reads w S 1 A (Sp.vals m).length ((Sp.vals m).map (Value.int .i64))) :
    Calls Tryd.prog 25 #[.agg #[.int .u32 (Sp.bitsL m), .slice A (Sp.vals m).length c], .int .i64 i, .int .i64 x] w (RowOut w S (m.set i (some x))) := by
  obtain ⟨i0, hi0, hz0, hz1, hz2⟩ := info_parts int_info
  have hb := Sp.bitsL_lt m
  rw [hm] at hb
  have hrk := Sp.rank_le m i (by omega)
  have hlt := Sp.rank_lt m i (by omega) y hx
  have hl32 := Sp.vals_len_le m
  have hi' : ¬ ((i : Int) > 31) := by omega
  have HSS := Lib.hid hS
  clear hS
  obtain ⟨F, hF⟩ : ∃ F, F = ((Sp.vals m).map (Value.int .i64)).take (Sp.rank m i * 1) := ⟨_, rfl⟩
  obtain ⟨T, hT⟩ : ∃ T, T = ((Sp.vals m).map (Value.int .i64)).drop ((Sp.rank m i + 1) * 1) := ⟨_, rfl⟩
  have lF : F.length = Sp.rank m i := by rw [hF]; simp; omega
  have lT : T.length = (Sp.vals m).length - (Sp.rank m i + 1) := by rw [hT]; simp
  have oF : ∀ v ∈ F, v.oneCell' = true := fun v hv => by rw [hF] at hv; have := List.mem_of_mem_take hv; simp at this; obtain ⟨y, _, rfl⟩ := this; rfl
  have oT : ∀ v ∈ T, v.oneCell' = true := fun v hv => by rw [hT] at hv; have := List.mem_of_mem_drop hv; simp at this; obtain ⟨y, _, rfl⟩ := this; rfl
  have rF : Reads w S 1 A (Sp.rank m i) F := by rw [hF]; exact hr.take_ hrk
  have HF := Lib.hid hF
  have HT' := Lib.hid hT
  have LF := Lib.hid lF
  have LT := Lib.hid lT
  have OF := Lib.hid oF
  have OT := Lib.hid oT
  clear hF hT lF lT oF oT
  have HM := Lib.hid hm
  have HX := Lib.hid hx
  have HT := Lib.hid (show (Sp.bitsL m).testBit i = true by rw [Sp.testBit_bitsL, hx]; rfl)
  have hN : (Sp.vals m).length ≤ 32 := by omega
  clear hm hx
  go_enter Tryd.func25, Tryd.ntmps25
  go_wp2_with fail
  go_region_held3 (fun w' => w'.cell? ⟨w.heap.size, 0, none⟩ = some (.int .u32 (Sp.bitsL m)) ∧ w'.cell? ⟨w.heap.size, 1, none⟩ = some (.slice A (Sp.vals m).length c))
    (first | go_keep | (go_split_ands; refine ⟨?_, ?_⟩ <;> (rw [hb1.cell (by simp <;> omega)]; assumption)))
    (first | (go_at_call 33; refine (rank_any _ _ _ _ HM.out hi).mono ?_; rintro e w1 ⟨rfl, hb1⟩))
  have hBk1 : Blk w1 w.heap.size 26 #[.int .u32 (Sp.bitsL m), .slice A (Sp.vals m).length c] := Blk.below (((Blk.new w _ _).alloc _).drew) hb1 (by simp <;> omega)
  have hRk1 : Blk w1 (w.heap.size + 1) 26 #[.int .u32 0, .slice none 0 0] := Blk.below (by simpa using (Blk.new (w.alloc (.cells #[.int .u32 (Sp.bitsL m), .slice A (Sp.vals m).length c] 26)) 26 #[.int .u32 0, .slice none 0 0]).drew) hb1 (by simp <;> omega)
  have hs1 : w.heap.size + 1 < w1.heap.size := hRk1.lt
  have hB1 : Below w.heap.size w w1 := (((Below.refl _ _).alloc (Nat.le_refl _) _).alloc (by simp) _).trans (below_drewl (hb1.mono (by simp <;> omega)))
  clear hb1
  have q1 := hBk1.two
  go_wp2_with fail
  clear q1
  refine (has_yes _ _ _ _ hb hi HT.out).mono ?_
  rintro e w2 ⟨rfl, hb2⟩
  have hBk2 := hBk1.below hb2 (by omega)
  have hRk2 := hRk1.below hb2 (by omega)
  have hs2 : w.heap.size + 1 < w2.heap.size := hRk2.lt
  have hB2 := hB1.trans (hb2.mono (by omega))
  clear hb2 hBk1 hRk1 hB1 hs1
  have q2 := hBk2.two
  obtain ⟨Z, hZ⟩ : ∃ Z, Z = (madeCells (Value.int IntKind.i64 0).cells (((Sp.vals m).length) * 1)).toList := ⟨_, rfl⟩
  have LZ := Lib.hid (show Z.length = (Sp.vals m).length by rw [hZ]; simp [size_madeCells])
  have HZ := Lib.hid hZ
  clear hZ
  go_wp2_with (first
    | (at_make; go_must (refine wpList_make_full _ rfl _ _ 23 rfl w2.heap.size 3 i0 (.int .i64 0) 1 Tryd.underlying23 hi0 hz0 hz1 .i64 .i64 _ _ ((Sp.vals m).length) rfl rfl (by simp) (by simp) (by rw [hz2]; omega) (by simp only [maxLen]; omega) (Nat.le_refl _) ?_); intro w3 hown3 hg3; have HG3 := Lib.hid (ownsRow_whole hown3).1; rw [← HZ.out] at HG3; clear hown3; have hb3 := (Below.refl w2.heap.size w2).grown hg3 (Nat.le_refl _) (by simp); clear hg3; have q3 := (hBk2.below hb3 (by omega)).two)
    | (refine wpList_copy_cells rfl (.tmp 34) (.tmp 38) _ _ rfl 3 i0 1 Tryd.underlying23 hi0 hz1 _ _ _ _ _ _ (Sp.rank m i) rfl rfl (by simp [Nat.min_def] <;> omega) w2.heap.size 0 Z 3 HG3.out F S (rF.below (hB2.trans (hb3.mono (by omega))) HSS.out) (fun _ => rfl) (by rw [LF.out, LZ.out]; omega) OF.out w.heap.size w (hB2.trans (hb3.mono (by omega))) (by omega) ?_; intro w4 HG4 ho4 hB4; have x4 := Blk.at_ HG4.out (Sp.rank m i) (by rw [length_splice _ _ _ (by rw [LF.out, LZ.out]; omega), LZ.out]; omega)))
  obtain ⟨w5, hw5⟩ : ∃ w5, w5 = w4.setCell ⟨w2.heap.size, Sp.rank m i, none⟩ (.int .i64 x) := ⟨_, rfl⟩
  rw [← hw5]
  have HG5 := Lib.hid (heap_set HG4.out (Sp.rank m i) (.int .i64 x))
  rw [← hw5] at HG5
  have hBk5 : Blk w5 w.heap.size 26 #[.int .u32 (Sp.bitsL m), .slice A (Sp.vals m).length c] := by rw [hw5]; exact Blk.far ((ho4 _ (by omega)).trans (hBk2.below hb3 (by omega))) (by simp; omega) _
  have hRk5 : Blk w5 (w.heap.size + 1) 26 #[.int .u32 0, .slice none 0 0] := by rw [hw5]; exact Blk.far ((ho4 _ (by omega)).trans (hRk2.below hb3 (by omega))) (by simp; omega) _
  have hB5 : Below w.heap.size w w5 := by rw [hw5]; exact hB4.setCell (by simp; omega) _
  have hs5 : w2.heap.size < w5.heap.size := Blk.lt HG5.out
  clear HG4 ho4 hB4 x4 q3 hb3 HG3 hw5 q2 hBk2 hRk2 hB2
  have q5 := hBk5.two
  have e1 : IntKind.i64.wrap ((Sp.rank m i : Nat) + 1 : Int) = (Sp.rank m i : Nat) + 1 := IntWalk.i64_in _ (by omega)
  have e2 : (0 : Int) ≤ (Sp.rank m i : Nat) + 1 := by omega
  have e3 : ((Sp.rank m i : Nat) : Int) + 1 ≤ (Sp.vals m).length := by omega
  have e4 : ((Sp.rank m i : Nat) + 1 : Int).toNat = Sp.rank m i + 1 := by omega
  have rT : Reads w5.drew S 1 (if c = Sp.rank m i + 1 then A else Option.map (fun x => x.add (Sp.rank m i + 1)) A) ((Sp.vals m).length - (Sp.rank m i + 1)) T := by
    have h := (hr.cut (k := Sp.rank m i + 1) hlt hc).below hB5.drew HSS.out
    rw [HT'.out]
    simpa only [Nat.mul_one] using h
  have hdp : 0 < (Sp.vals m).length - (Sp.rank m i + 1) → (if (Sp.vals m).length = Sp.rank m i + 1 then some (⟨w2.heap.size, 0, none⟩ : Addr) else some ⟨w2.heap.size, Sp.rank m i + 1, none⟩) = some ⟨w2.heap.size, Sp.rank m i + 1, none⟩ := fun h => if_neg (by omega)
  have hfit : Sp.rank m i + 1 + T.length ≤ ((splice Z 0 F).set (Sp.rank m i) (Value.int .i64 x)).length := by
    rw [List.length_set, length_splice _ _ _ (by rw [LF.out, LZ.out]; omega), LZ.out, LT.out]; omega
  have RT := Lib.hid rT
  have HDP := Lib.hid hdp
  have HFIT := Lib.hid hfit
  clear rT hdp hfit
  go_region_law (refine step_copy_cells rfl (.tmp 47) (.tmp 51) _ _ rfl 3 i0 1 Tryd.underlying23 hi0 hz1 _ _ _ _ _ _ ((Sp.vals m).length - (Sp.rank m i + 1)) rfl rfl (by simp) w2.heap.size (Sp.rank m i + 1) _ 3 HG5.out T S RT.out HDP.out HFIT.out OT.out w.heap.size w hB5.drew (by omega) ?_; intro w6 HG6 ho6 hB6)
  have hBk6 : Blk w6 w.heap.size 26 #[.int .u32 (Sp.bitsL m), .slice A (Sp.vals m).length c] := (ho6 _ (by omega)).trans hBk5
  have hRk6 : Blk w6 (w.heap.size + 1) 26 #[.int .u32 0, .slice none 0 0] := (ho6 _ (by omega)).trans hRk5
  clear q5 ho6
  have q6 := hBk6.two
  have r6 := hRk6.two
  generalize (if (Sp.vals m).length = Sp.rank m i + 1 then some (⟨w2.heap.size, 0, none⟩ : Addr) else some ⟨w2.heap.size, Sp.rank m i + 1, none⟩) = p1
  generalize (if c = Sp.rank m i + 1 then A else Option.map (fun x => (⟨x.block, x.off + (Sp.rank m i + 1), none⟩ : Addr)) A) = p2
  clear RT HDP
  have e5 : bits .or .u32 (Sp.bitsL m : Int) ((2 : Int) ^ i % 4294967296) = (Sp.bitsL (m.set i (some x)) : Int) := by
    rw [bits_or_pow _ _ hb hi, Sp.bits_set m i (by rw [HM.out]; exact hi)]
  go_wp2
  have hRk7 := (hRk6.set_ 0 (.int .u32 (Sp.bitsL (m.set i (some x))))).set_ 1 (.slice (some ⟨w2.heap.size, 0, none⟩) ((Sp.vals m).length) ((Sp.vals m).length))
  have HG7 := (Blk.far (Blk.far (w := w6) HG6.out (p := ⟨w.heap.size + 1, 0, none⟩) (by simp; omega) (.int .u32 (Sp.bitsL (m.set i (some x))))) (p := ⟨w.heap.size + 1, 1, none⟩) (by simp; omega) (.slice (some ⟨w2.heap.size, 0, none⟩) ((Sp.vals m).length) ((Sp.vals m).length)))
  have hB7 := (hB6.setCell (p := ⟨w.heap.size + 1, 0, none⟩) (by simp) (.int .u32 (Sp.bitsL (m.set i (some x))))).setCell (p := ⟨w.heap.size + 1, 1, none⟩) (by simp) (.slice (some ⟨w2.heap.size, 0, none⟩) ((Sp.vals m).length) ((Sp.vals m).length))
  refine bodyPost_ret (v := .agg #[.int .u32 (Sp.bitsL (m.set i (some x))), .slice (some ⟨w2.heap.size, 0, none⟩) ((Sp.vals m).length) ((Sp.vals m).length)]) (results_cell_row rfl _ _ _ _ _ _ _ rfl hRk7 Tryd.underlying26 rfl (by kernel_rfl)) rfl ⟨_, rfl, ?_, hB7⟩
  have hv := Sp.vals_set m i (by rw [HM.out]; exact hi) (some x)
  rw [HX.out] at hv
  refine row_made (fun k hk => Nat.lt_of_lt_of_le (HSS.out k hk) hB7.size) (by omega) (by rw [List.length_set]; exact HM.out) HG7 ?_ ?_
  · rw [splice_put Z F T _ _ LF.out (by rw [LZ.out, LT.out]; omega), hv, HF.out, HT'.out]
    simp [List.map_take, List.map_drop]
  · rw [hv]; simp; omega

end Go.Proofs.YtbgmlcakdkkfdaaDoor
