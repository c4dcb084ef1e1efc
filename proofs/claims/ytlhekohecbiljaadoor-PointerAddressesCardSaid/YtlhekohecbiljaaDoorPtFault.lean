/-
  THE CONTRACTS of package fault at an error of one place, and of placketlaw13.At.
-/
import Derived.Test.YtlhekohecbiljaaDoorPtAs2
import Derived.Test.YtlhekohecbiljaaDoorWords
import Derived.Test.YtlhekohecbiljaaDoorLaws
import Derived.WalkSpells
import Derived.WalkLawsBesides
import Derived.BigQuiet
import Derived.Lib.Hide
import Derived.RangeFuncBox
namespace Go.Proofs.YtlhekohecbiljaaDoor
open Go.RowKit Go.BigFrame Go.Extern.Stop Go.Stop

/-- The package variable of errors, as start-up lays it. -/
def ErrT (w : World) : Prop := w.cell? ⟨0, 0, none⟩ = some (.iface 96 (.agg #[.pointer (some ⟨4, 24, none⟩)]))
theorem ErrT.below {B : Nat} {w w' : World} (h : ErrT w) (hb : Below B w w') (hB : 0 < B) : ErrT w' := (hb.cell (p := ⟨0, 0, none⟩) hB).trans h
/-- An error of one place. -/
def ErrAt (w : World) (v : Value) (a c : Int) : Prop := c ≠ 0 ∧ ∃ b, v = .iface 59 (.pointer (some ⟨b, 0, none⟩)) ∧ Blk w b 61 #[.int .i64 a, .iface 27 (.int .i64 c)]
theorem ErrAt.below {w w' : World} {v : Value} {a c : Int} (h : ErrAt w v a c) (hb : Below w.heap.size w w') : ErrAt w' v a c := by
  obtain ⟨h0, b, h1, h2⟩ := h
  exact ⟨h0, b, h1, h2.below hb h2.lt⟩

set_option maxHeartbeats 1000000 in
theorem new_zero (a : Int) (w : World) : Calls Tryd.prog 26 #[.int .i64 0, .int .i64 a] w fun e w' => e = .returned .nilIface ∧ w' = w := by
  go_enter Tryd.func26, Tryd.ntmps26
  go_wp2
  go_ret
  exact ⟨rfl, rfl⟩
set_option maxHeartbeats 1000000 in
theorem new_err (c a : Int) (w : World) (hc : c ≠ 0) : Calls Tryd.prog 26 #[.int .i64 c, .int .i64 a] w fun e w' => ∃ v, e = .returned v ∧ ErrAt w' v a c ∧ Below w.heap.size w w' := by
  have hc0 : (c == 0) = false := by simp [hc]
  go_enter Tryd.func26, Tryd.ntmps26
  go_wp2
  go_ret
  exact ⟨_, rfl, ⟨hc, _, rfl, Blk.new w _ _⟩, (Below.refl _ _).alloc (Nat.le_refl _) _⟩

/-- One new cell, as a slice. -/
theorem reads_one (w : World) (t : TypeId) (u : Value) : Reads (w.alloc (.cells #[u] t)) (fun j => j = w.heap.size) 1 (some ⟨w.heap.size, 0, none⟩) 1 [u] := ⟨by simp, fun _ => ⟨_, rfl, rfl, fun j x hj => by
  cases j with
  | zero => simp at hj; subst hj; exact (Blk.new w t #[u]).cell 0
  | succ j => simp at hj⟩⟩
theorem info_int_ : (Tryd.prog.info? 3).map (fun i => (i.zero, i.size, i.bytes)) = some (some (.int .i64 0), 1, 8) := by kernel_rfl

set_option maxRecDepth 100000 in
set_option maxHeartbeats 4000000 in
theorem where_nil (w : World) : Calls Tryd.prog 40 #[.nilIface] w fun e w' => e = .returned (.slice none 0 0) ∧ Below w.heap.size w w' := by
  go_enter Tryd.func40, Tryd.ntmps40
  go_wp2
  refine wp_loop_rounds 1 ?_
  rw [rounds_succ]
  go_wp2
  go_ret
  exact ⟨rfl, (Below.refl _ _).alloc (Nat.le_refl _) _⟩

set_option maxRecDepth 100000 in
set_option maxHeartbeats 4000000 in
theorem where_err (v : Value) (a c : Int) (w : World) (hv : ErrAt w v a c) (hE : ErrT w) (hg : 0 < w.heap.size) :
    Calls Tryd.prog 40 #[v] w fun e w' => ∃ g cap, e = .returned (.slice (some ⟨g, 0, none⟩) 1 cap) ∧ w'.cell? ⟨g, 0, none⟩ = some (.int .i64 a) ∧ Below w.heap.size w w' := by
  obtain ⟨hc, b, rfl, hb⟩ := hv
  obtain ⟨i0, hi, hz0, hz1, hz2⟩ := info_parts info_int_
  go_enter Tryd.func40, Tryd.ntmps40
  go_wp2
  refine wp_loop_rounds 2 ?_
  rw [rounds_succ]
  go_wp2_with fail
  have hB0 : Below w.heap.size w (w.alloc (.cells #[.pointer none] 59)) := (Below.refl _ _).alloc (Nat.le_refl _) _
  have hf0 : Blk (w.alloc (.cells #[.pointer none] 59)) w.heap.size 59 #[.pointer none] := Blk.new w _ _
  have hb0 := hb.below hB0 hb.lt
  have hE0 := hE.below hB0 hg
  have hbl := hb.lt
  have hz0' : (w.alloc (.cells #[.pointer none] 59)).heap.size = w.heap.size + 1 := by simp
  generalize w.alloc (.cells #[.pointer none] 59) = w0 at *
  refine (as_59 ⟨b, 0, none⟩ ⟨w.heap.size, 0, none⟩ (.pointer none) w0 hE0 (by omega) (hf0.cell 0) (hf0.frozen 0) hf0.lt).mono ?_
  rintro e w1 ⟨rfl, w2, hb2, rfl⟩
  have hf3 : Blk (w2.setCell ⟨w.heap.size, 0, none⟩ (.pointer (some ⟨b, 0, none⟩))) w.heap.size 59 #[.pointer (some ⟨b, 0, none⟩)] := by
    have := (hf0.below hb2 hf0.lt).set_ 0 (.pointer (some ⟨b, 0, none⟩))
    simpa using this
  have hb3 := (hb0.below hb2 hb0.lt).far (p := ⟨w.heap.size, 0, none⟩) (by simp; omega) (.pointer (some ⟨b, 0, none⟩))
  have hB3 := (hB0.trans (hb2.mono (by omega))).setCell (p := ⟨w.heap.size, 0, none⟩) (Nat.le_refl _) (.pointer (some ⟨b, 0, none⟩))
  have hE3 := hE.below hB3 hg
  have hz3 := hB3.size
  have hf3l := hf3.lt
  generalize w2.setCell ⟨w.heap.size, 0, none⟩ (.pointer (some ⟨b, 0, none⟩)) = w3 at *
  clear hf0 hb0 hE0 hb2 hE hb
  have c0 : w3.cell? ⟨w.heap.size, 0, none⟩ = some (.pointer (some ⟨b, 0, none⟩)) := hf3.cell 0
  have c1 : w3.cell? ⟨b, 0, none⟩ = some (.int .i64 a) := hb3.cell 0
  have c2 : w3.cell? ⟨b, 1, none⟩ = some (.iface 27 (.int .i64 c)) := hb3.cell 1
  have HI := Lib.hid hi
  have HZ0 := Lib.hid hz0
  have HZ1 := Lib.hid hz1
  have HZ2 := Lib.hid hz2
  have HB3 := Lib.hid hB3
  have HE3 := Lib.hid hE3
  have HF3 := Lib.hid hf3
  have Hb3 := Lib.hid hb3
  clear hi hz0 hz1 hz2 hB3 hE3 hf3 hb3 hz0' hB0
  go_wp2_with (at_builtin; refine wpList_append_any _ rfl (.tmp 16) (.tmp 21) 65 rfl w.heap.size 3 i0 (.int .i64 0) 1 8 Tryd.underlying65 HI.out HZ0.out HZ1.out HZ2.out rfl (by omega) (.slice none 0 0) 0 [] rfl (World.ownsRow_nil _ _ _ _) (fun j => j = w3.heap.size) (some ⟨w3.heap.size, 0, none⟩) 1 1 [.int .i64 a] rfl (reads_one w3 _ _) (by simp [Value.oneCell']) (by simp only [maxLen]; omega) (by omega) (by simp; omega) ?_; intro v' w4 hown' hg' hat'; obtain ⟨g', cap', rfl⟩ := ownsRow_succ hown'; have hB4 : Below w3.heap.size w3 w4 := ((Below.refl _ _).alloc (Nat.le_refl _) _).grown hg' (by simp) (fun k e => by cases e); have HOWN := Lib.hid hown'; have c5 : w4.cell? ⟨b, 1, none⟩ = some (.iface 27 (.int .i64 c)) := (hB4.cell (p := ⟨b, 1, none⟩) Hb3.out.lt).trans c2; have c6 : w4.cell? ⟨w.heap.size, 0, none⟩ = some (.pointer (some ⟨b, 0, none⟩)) := (hB4.cell (p := ⟨w.heap.size, 0, none⟩) hf3l).trans c0; have HB4 := Lib.hid hB4; clear hown' hg' hat' hB4 c0 c1 c2)
  have HE4 := Lib.hid (HE3.out.below HB4.out (by omega))
  have HF4 := Lib.hid (HF3.out.below HB4.out hf3l)
  have hz4 := HB4.out.size
  rw [rounds_succ]
  go_wp2_with fail
  refine (as_27_59 c ⟨w.heap.size, 0, none⟩ (.pointer (some ⟨b, 0, none⟩)) w4 HE4.out (by omega) c6 (HF4.out.frozen 0) HF4.out.lt).mono ?_
  rintro e w5 ⟨rfl, hb5⟩
  obtain ⟨ad, u, e1, hs, hu, hcell⟩ := (Reads.of_own HOWN.out).at_ (k := 0) (by omega)
  simp at e1 hu
  subst e1 hu
  have hc5 : w5.cell? ⟨g', 0, none⟩ = some (.int .i64 a) := (hb5.cell (p := ⟨g', 0, none⟩) hs.2).trans hcell
  have HB5 := Lib.hid ((HB3.out.trans (HB4.out.mono hz3)).trans (hb5.mono (by omega)))
  clear hcell hs hb5 HOWN c5 c6
  go_wp2_with fail
  go_ret
  exact ⟨_, _, rfl, hc5, HB5.out⟩

set_option maxHeartbeats 1000000 in
theorem last_nil (w : World) : Calls Tryd.prog 31 #[.nilIface] w fun e w' => e = .returned (.tuple #[.int .i64 0, .bool false]) ∧ Below w.heap.size w w' := by
  go_enter Tryd.func31, Tryd.ntmps31
  go_wp2_with fail
  refine (where_nil w).mono ?_
  rintro e w1 ⟨rfl, hb⟩
  go_wp2
  go_ret2
  exact ⟨rfl, hb⟩
set_option maxHeartbeats 1000000 in
theorem last_err (v : Value) (a c : Int) (w : World) (hv : ErrAt w v a c) (hE : ErrT w) (hg : 0 < w.heap.size) :
    Calls Tryd.prog 31 #[v] w fun e w' => e = .returned (.tuple #[.int .i64 a, .bool true]) ∧ Below w.heap.size w w' := by
  have HV := Lib.hid hv
  have HE := Lib.hid hE
  clear hv hE
  go_enter Tryd.func31, Tryd.ntmps31
  go_wp2_with fail
  refine (where_err v a c w HV.out HE.out hg).mono ?_
  rintro e w1 ⟨g, cap, rfl, hc, hb⟩
  go_wp2
  go_ret2
  exact ⟨rfl, hb⟩
set_option maxHeartbeats 1000000 in
theorem code_err (v : Value) (a c : Int) (w : World) (hv : ErrAt w v a c) (hE : ErrT w) (hg : 0 < w.heap.size) :
    Calls Tryd.prog 32 #[v] w fun e w' => e = .returned (.int .i64 c) ∧ Below w.heap.size w w' := by
  obtain ⟨hc, b, rfl, hb⟩ := hv
  have HE := Lib.hid hE
  have HB := Lib.hid hb
  clear hb hE
  go_enter Tryd.func32, Tryd.ntmps32
  go_wp2_with fail
  have hB0 : Below w.heap.size w (w.alloc (.cells #[.int .i64 0] 27)) := (Below.refl _ _).alloc (Nat.le_refl _) _
  have hf0 : Blk (w.alloc (.cells #[.int .i64 0] 27)) w.heap.size 27 #[.int .i64 0] := Blk.new w _ _
  have hb0 := HB.out.below hB0 HB.out.lt
  have hE0 := HE.out.below hB0 hg
  have hz0' := hf0.lt
  generalize w.alloc (.cells #[.int .i64 0] 27) = w0 at *
  refine (as_59_27 b c ⟨w.heap.size, 0, none⟩ (.int .i64 0) w0 hE0 (by omega) (hf0.cell 0) (hf0.frozen 0) hf0.lt (hb0.cell 1) hb0.lt).mono ?_
  rintro e w1 ⟨rfl, w2, hb2, rfl⟩
  have hf3 : (w2.setCell ⟨w.heap.size, 0, none⟩ (.int .i64 c)).cell? ⟨w.heap.size, 0, none⟩ = some (.int .i64 c) := by
    have := ((hf0.below hb2 hf0.lt).set_ 0 (.int .i64 c)).cell 0
    simpa using this
  have HB3 := Lib.hid ((hB0.trans (hb2.mono (by omega))).setCell (p := ⟨w.heap.size, 0, none⟩) (Nat.le_refl _) (.int .i64 c))
  generalize w2.setCell ⟨w.heap.size, 0, none⟩ (.int .i64 c) = w3 at *
  clear hf0 hb0 hE0 hb2 hB0
  go_wp2
  go_ret
  exact ⟨rfl, HB3.out⟩
set_option maxHeartbeats 1000000 in
theorem at_nil (a : Int) (w : World) : Calls Tryd.prog 14 #[.nilIface, .int .i64 a, .int .i64 0] w fun e w' => e = .returned (.bool true) ∧ Below w.heap.size w w' := by
  go_enter Tryd.func14, Tryd.ntmps14
  go_wp2
  go_ret
  exact ⟨rfl, Below.refl _ _⟩
set_option maxHeartbeats 1000000 in
theorem at_err (v : Value) (a c : Int) (w : World) (hv : ErrAt w v a c) (hE : ErrT w) (hg : 0 < w.heap.size) :
    Calls Tryd.prog 14 #[v, .int .i64 a, .int .i64 c] w fun e w' => e = .returned (.bool true) ∧ Below w.heap.size w w' := by
  have HV := Lib.hid hv
  have HE := Lib.hid hE
  obtain ⟨hc, b, rfl, -⟩ := hv
  have hc0 : (c == 0) = false := by simp [hc]
  clear hE
  go_enter Tryd.func14, Tryd.ntmps14
  go_wp2_with fail
  refine (last_err _ a c w HV.out HE.out hg).mono ?_
  rintro e w1 ⟨rfl, hb1⟩
  have HV1 := Lib.hid (HV.out.below hb1)
  have HE1 := Lib.hid (HE.out.below hb1 hg)
  have hz1 := hb1.size
  go_wp2_with fail
  refine (code_err _ a c w1 HV1.out HE1.out (by omega)).mono ?_
  rintro e w2 ⟨rfl, hb2⟩
  have HB2 := Lib.hid (hb1.trans (hb2.mono hz1))
  clear hb1 hb2
  go_wp2
  go_ret
  exact ⟨rfl, HB2.out⟩
end Go.Proofs.YtlhekohecbiljaaDoor
