/-
  Parts of the proof that AddrTold,AddrBegins calls on: Tb, Tc, Td, Te, HeadTail, Ro.
-/
import Derived.Deep.RegionHeld3
import Derived.OrdersHeld
import Derived.StillTail
import Derived.Test.YtfcegalckjeafaaGreatDoorM103
namespace Go.Proofs.YtfcegalckjeafaaGreatDoor
open Go.RowKit Go.BigFrame
def lettersV : Value := .agg #[.int .u8 34, .int .u8 34, .int .u8 92, .int .u8 92, .int .u8 10, .int .u8 110, .int .u8 9, .int .u8 116, .int .u8 13, .int .u8 114]
set_option maxRecDepth 100000 in
theorem letters_any (w : World) : Calls Tryz.prog 146 #[] w fun e w' => e = .returned lettersV ∧ Below w.heap.size w w' := by
  go_enter Tryz.func146, Tryz.ntmps146
  go_wp2
  have hb := Blk.new w 196 #[.int .u8 34, .int .u8 34, .int .u8 92, .int .u8 92, .int .u8 10, .int .u8 110, .int .u8 9, .int .u8 116, .int .u8 13, .int .u8 114]
  have c0 := hb.cell 0
  have c1 := hb.cell 1
  have c2 := hb.cell 2
  have c3 := hb.cell 3
  have c4 := hb.cell 4
  have c5 := hb.cell 5
  have c6 := hb.cell 6
  have c7 := hb.cell 7
  have c8 := hb.cell 8
  have c9 := hb.cell 9
  simp only [List.getElem?_toArray, List.getElem?_cons_succ, List.getElem?_cons_zero] at c0 c1 c2 c3 c4 c5 c6 c7 c8 c9
  refine bodyPost_ret (v := lettersV) ?_ rfl ⟨rfl, (Below.refl _ _).alloc (Nat.le_refl _) _⟩
  generalize w.alloc (.cells _ _) = W at *
  simp [results, Tryz.f146, go_sem, c0, c1, c2, c3, c4, c5, c6, c7, c8, c9, lettersV]
/-- What a digit says, as the program has it: a byte and whether it is one. -/
def hexR (c : UInt8) : Value := match hexv c with | some m => .tuple #[.int .u8 m, .bool true] | none => .tuple #[.int .u8 0, .bool false]
def VOut (w : World) (v : Value) (e : Ending) (w' : World) : Prop := e = .returned v ∧ w' = w
theorem ret_v {a b : Value} (h : a = b) : Ending.returned a = .returned b := by rw [h]
def nib (n : Int) : Value := if 48 ≤ n ∧ n ≤ 57 then .tuple #[.int .u8 (n - 48), .bool true] else if 97 ≤ n ∧ n ≤ 102 then .tuple #[.int .u8 (n - 87), .bool true] else .tuple #[.int .u8 0, .bool false]
theorem nibble_any (n : Int) (h0 : 0 ≤ n) (h1 : n < 256) (w : World) : Calls Tryz.prog 227 #[.int .u8 n] w (VOut w (nib n)) := by
  obtain ⟨R, hR⟩ : ∃ R, R = nib n := ⟨_, rfl⟩
  rw [← hR]
  have HR := Lib.hid hR
  clear hR
  by_cases a : 48 ≤ n
  · by_cases b : n ≤ 57
    · go_enter Tryz.func227, Tryz.ntmps227
      go_wp2
      go_ret2
      exact ⟨ret_v (by rw [HR.out, nib, if_pos ⟨a, b⟩]; rfl), rfl⟩
    · by_cases c : 97 ≤ n
      · by_cases d : n ≤ 102
        · go_enter Tryz.func227, Tryz.ntmps227
          go_wp2
          go_ret2
          exact ⟨ret_v (by rw [HR.out, nib, if_neg (by omega), if_pos ⟨c, d⟩]; simp; omega), rfl⟩
        · go_enter Tryz.func227, Tryz.ntmps227
          go_wp2
          go_ret2
          exact ⟨ret_v (by rw [HR.out, nib, if_neg (by omega), if_neg (by omega)]; rfl), rfl⟩
      · go_enter Tryz.func227, Tryz.ntmps227
        go_wp2
        go_ret2
        exact ⟨ret_v (by rw [HR.out, nib, if_neg (by omega), if_neg (by omega)]; rfl), rfl⟩
  · have c : ¬ 97 ≤ n := by omega
    go_enter Tryz.func227, Tryz.ntmps227
    go_wp2
    go_ret2
    exact ⟨ret_v (by rw [HR.out, nib, if_neg (by omega), if_neg (by omega)]; rfl), rfl⟩
theorem hexR_nib (c : UInt8) : hexR c = if 65 ≤ (c.toNat : Int) ∧ (c.toNat : Int) ≤ 70 then nib ((c.toNat : Int) + 32) else nib (c.toNat : Int) := by
  unfold hexR hexv nib
  by_cases a : 48 ≤ c.toNat ∧ c.toNat ≤ 57
  · rw [if_pos a, if_neg (by omega), if_pos (by omega)]; simp; omega
  by_cases b : 97 ≤ c.toNat ∧ c.toNat ≤ 102
  · rw [if_neg a, if_pos b, if_neg (by omega), if_neg (by omega), if_pos (by omega)]; simp; omega
  by_cases d : 65 ≤ c.toNat ∧ c.toNat ≤ 70
  · rw [if_neg a, if_neg b, if_pos d, if_pos (by omega), if_neg (by omega), if_pos (by omega)]; simp; omega
  · rw [if_neg a, if_neg b, if_neg d, if_neg (by omega), if_neg (by omega), if_neg (by omega)]
theorem either_any (c : UInt8) (w : World) : Calls Tryz.prog 212 #[bv c] w (VOut w (hexR c)) := by
  have h1 : (0 : Int) ≤ (c.toNat : Int) := by omega
  have h2 : (c.toNat : Int) < 256 := by have := c.toNat_lt; omega
  rw [hexR_nib, bv]
  generalize (c.toNat : Int) = n at *
  have two : ∀ m : Int, 0 ≤ m → m < 256 → ∃ (x : Int) (b : Bool), nib m = .tuple #[.int .u8 x, .bool b] := fun m _ _ => by unfold nib; split <;> (try split) <;> exact ⟨_, _, rfl⟩
  by_cases a : 65 ≤ n
  · by_cases b : n ≤ 70
    · rw [if_pos ⟨a, b⟩]
      obtain ⟨x, y, e⟩ := two (n + 32) (by omega) (by omega)
      have HN := Lib.hid (nibble_any (n + 32) (by omega) (by omega) w)
      rw [e] at HN ⊢
      go_enter Tryz.func212, Tryz.ntmps212
      go_wp2_with fail
      refine HN.out.mono ?_
      rintro e w1 ⟨rfl, rfl⟩
      go_wp2
      go_ret2
      exact ⟨rfl, rfl⟩
    · rw [if_neg (by omega)]
      obtain ⟨x, y, e⟩ := two n h1 h2
      have HN := Lib.hid (nibble_any n h1 h2 w)
      rw [e] at HN ⊢
      go_enter Tryz.func212, Tryz.ntmps212
      go_wp2_with fail
      refine HN.out.mono ?_
      rintro e w1 ⟨rfl, rfl⟩
      go_wp2
      go_ret2
      exact ⟨rfl, rfl⟩
  · rw [if_neg (by omega)]
    obtain ⟨x, y, e⟩ := two n h1 h2
    have HN := Lib.hid (nibble_any n h1 h2 w)
    rw [e] at HN ⊢
    go_enter Tryz.func212, Tryz.ntmps212
    go_wp2_with fail
    refine HN.out.mono ?_
    rintro e w1 ⟨rfl, rfl⟩
    go_wp2
    go_ret2
    exact ⟨rfl, rfl⟩
end Go.Proofs.YtfcegalckjeafaaGreatDoor
namespace Go.Proofs.YtfcegalckjeafaaGreatDoor
open Go.RowKit Go.BigFrame
def U8Out (w : World) (c : UInt8) (e : Ending) (w' : World) : Prop := e = .returned (bv c) ∧ Below w.heap.size w w'
theorem letL_int (c : UInt8) : bv (letL c) = .int .u8 (if (c.toNat : Int) = 34 then 34 else if (c.toNat : Int) = 92 then 92 else if (c.toNat : Int) = 10 then 110 else if (c.toNat : Int) = 9 then 116 else if (c.toNat : Int) = 13 then 114 else 0) := by
  have h : ∀ k : UInt8, (c = k) ↔ ((c.toNat : Int) = (k.toNat : Int)) := fun k => by rw [← UInt8.toNat_inj]; omega
  simp only [letL, bv, h, show (34 : UInt8).toNat = 34 by rfl, show (92 : UInt8).toNat = 92 by rfl, show (10 : UInt8).toNat = 10 by rfl, show (9 : UInt8).toNat = 9 by rfl, show (13 : UInt8).toNat = 13 by rfl]
  congr 1
  norm_cast
  repeat' split
  all_goals rfl
section
variable (w : World)
theorem lidx0 : (Instr.index 196 (.agg #[.int .u8 34, .int .u8 34, .int .u8 92, .int .u8 92, .int .u8 10, .int .u8 110, .int .u8 9, .int .u8 116, .int .u8 13, .int .u8 114]) (.int .i64 0)).run Tryz.prog w = .ok (.agg #[.int .u8 34, .int .u8 34]) w := by kernel_rfl
theorem lidx1 : (Instr.index 196 (.agg #[.int .u8 34, .int .u8 34, .int .u8 92, .int .u8 92, .int .u8 10, .int .u8 110, .int .u8 9, .int .u8 116, .int .u8 13, .int .u8 114]) (.int .i64 1)).run Tryz.prog w = .ok (.agg #[.int .u8 92, .int .u8 92]) w := by kernel_rfl
theorem lidx2 : (Instr.index 196 (.agg #[.int .u8 34, .int .u8 34, .int .u8 92, .int .u8 92, .int .u8 10, .int .u8 110, .int .u8 9, .int .u8 116, .int .u8 13, .int .u8 114]) (.int .i64 2)).run Tryz.prog w = .ok (.agg #[.int .u8 10, .int .u8 110]) w := by kernel_rfl
theorem lidx3 : (Instr.index 196 (.agg #[.int .u8 34, .int .u8 34, .int .u8 92, .int .u8 92, .int .u8 10, .int .u8 110, .int .u8 9, .int .u8 116, .int .u8 13, .int .u8 114]) (.int .i64 3)).run Tryz.prog w = .ok (.agg #[.int .u8 9, .int .u8 116]) w := by kernel_rfl
theorem lidx4 : (Instr.index 196 (.agg #[.int .u8 34, .int .u8 34, .int .u8 92, .int .u8 92, .int .u8 10, .int .u8 110, .int .u8 9, .int .u8 116, .int .u8 13, .int .u8 114]) (.int .i64 4)).run Tryz.prog w = .ok (.agg #[.int .u8 13, .int .u8 114]) w := by kernel_rfl
end
attribute [local go_sem] lidx0 lidx1 lidx2 lidx3 lidx4
set_option maxRecDepth 100000 in
set_option maxHeartbeats 4000000 in
theorem letter2_any (c : UInt8) (w : World) : Calls Tryz.prog 99 #[bv c] w (U8Out w (letL c)) := by
  unfold U8Out
  rw [letL_int, bv]
  have hnn : (0 : Int) ≤ (c.toNat : Int) := by omega
  generalize (c.toNat : Int) = n at *
  obtain ⟨R, hR⟩ : ∃ R : Int, R = (if n = 34 then 34 else if n = 92 then 92 else if n = 10 then 110 else if n = 9 then 116 else if n = 13 then 114 else 0) := ⟨_, rfl⟩
  rw [← hR]
  by_cases h0 : n = 34
  · obtain rfl : R = 34 := by rw [hR]; simp [h0]
    subst h0
    clear hR
    go_enter Tryz.func99, Tryz.ntmps99
    go_wp2_with fail
    refine (letters_any _).mono ?_
    rintro e w1 ⟨rfl, hb⟩
    simp only [lettersV]
    go_wp2
    refine wp_loop_rounds 1 ?_
    rw [rounds_succ]
    go_wp2
    go_ret
    exact ⟨rfl, (hb).alloc (hb.size) _⟩
  have e0 : (n == 34) = false := by simpa using h0
  have e0' : ((34 : Int) == n) = false := by simp; omega
  by_cases h1 : n = 92
  · obtain rfl : R = 92 := by rw [hR]; simp [h1]
    subst h1
    clear hR
    go_enter Tryz.func99, Tryz.ntmps99
    go_wp2_with fail
    refine (letters_any _).mono ?_
    rintro e w1 ⟨rfl, hb⟩
    simp only [lettersV]
    go_wp2
    refine wp_loop_rounds 2 ?_
    rw [rounds_succ]
    go_wp2
    rw [rounds_succ]
    go_wp2
    go_ret
    exact ⟨rfl, ((hb).alloc (hb.size) _).alloc (by have := hb.size; simp; omega) _⟩
  have e1 : (n == 92) = false := by simpa using h1
  have e1' : ((92 : Int) == n) = false := by simp; omega
  by_cases h2 : n = 10
  · obtain rfl : R = 110 := by rw [hR]; simp [h2]
    subst h2
    clear hR
    go_enter Tryz.func99, Tryz.ntmps99
    go_wp2_with fail
    refine (letters_any _).mono ?_
    rintro e w1 ⟨rfl, hb⟩
    simp only [lettersV]
    go_wp2
    refine wp_loop_rounds 3 ?_
    rw [rounds_succ]
    go_wp2
    rw [rounds_succ]
    go_wp2
    rw [rounds_succ]
    go_wp2
    go_ret
    exact ⟨rfl, (((hb).alloc (hb.size) _).alloc (by have := hb.size; simp; omega) _).alloc (by have := hb.size; simp; omega) _⟩
  have e2 : (n == 10) = false := by simpa using h2
  have e2' : ((10 : Int) == n) = false := by simp; omega
  by_cases h3 : n = 9
  · obtain rfl : R = 116 := by rw [hR]; simp [h3]
    subst h3
    clear hR
    go_enter Tryz.func99, Tryz.ntmps99
    go_wp2_with fail
    refine (letters_any _).mono ?_
    rintro e w1 ⟨rfl, hb⟩
    simp only [lettersV]
    go_wp2
    refine wp_loop_rounds 4 ?_
    rw [rounds_succ]
    go_wp2
    rw [rounds_succ]
    go_wp2
    rw [rounds_succ]
    go_wp2
    rw [rounds_succ]
    go_wp2
    go_ret
    exact ⟨rfl, ((((hb).alloc (hb.size) _).alloc (by have := hb.size; simp; omega) _).alloc (by have := hb.size; simp; omega) _).alloc (by have := hb.size; simp; omega) _⟩
  have e3 : (n == 9) = false := by simpa using h3
  have e3' : ((9 : Int) == n) = false := by simp; omega
  by_cases h4 : n = 13
  · obtain rfl : R = 114 := by rw [hR]; simp [h4]
    subst h4
    clear hR
    go_enter Tryz.func99, Tryz.ntmps99
    go_wp2_with fail
    refine (letters_any _).mono ?_
    rintro e w1 ⟨rfl, hb⟩
    simp only [lettersV]
    go_wp2
    refine wp_loop_rounds 5 ?_
    rw [rounds_succ]
    go_wp2
    rw [rounds_succ]
    go_wp2
    rw [rounds_succ]
    go_wp2
    rw [rounds_succ]
    go_wp2
    rw [rounds_succ]
    go_wp2
    go_ret
    exact ⟨rfl, (((((hb).alloc (hb.size) _).alloc (by have := hb.size; simp; omega) _).alloc (by have := hb.size; simp; omega) _).alloc (by have := hb.size; simp; omega) _).alloc (by have := hb.size; simp; omega) _⟩
  have e4 : (n == 13) = false := by simpa using h4
  have e4' : ((13 : Int) == n) = false := by simp; omega
  obtain rfl : R = 0 := by rw [hR]; simp [h0, h1, h2, h3, h4]
  clear hR
  go_enter Tryz.func99, Tryz.ntmps99
  go_wp2_with fail
  refine (letters_any _).mono ?_
  rintro e w1 ⟨rfl, hb⟩
  simp only [lettersV]
  go_wp2
  refine wp_loop_rounds 6 ?_
  rw [rounds_succ]
  go_wp2
  rw [rounds_succ]
  go_wp2
  rw [rounds_succ]
  go_wp2
  rw [rounds_succ]
  go_wp2
  rw [rounds_succ]
  go_wp2
  rw [rounds_succ]
  go_wp2
  go_ret
  exact ⟨rfl, (((((hb).alloc (hb.size) _).alloc (by have := hb.size; simp; omega) _).alloc (by have := hb.size; simp; omega) _).alloc (by have := hb.size; simp; omega) _).alloc (by have := hb.size; simp; omega) _⟩
end Go.Proofs.YtfcegalckjeafaaGreatDoor
namespace Go.Proofs.YtfcegalckjeafaaGreatDoor
open Go.RowKit Go.BigFrame
attribute [local go_sem] lidx0 lidx1 lidx2 lidx3 lidx4
/-- A byte, and whether there is one. -/
def byR (c : UInt8) : Value := match byLet c with | some x => .tuple #[bv x, .bool true] | none => .tuple #[.int .u8 0, .bool false]
def VBOut (w : World) (v : Value) (e : Ending) (w' : World) : Prop := e = .returned v ∧ Below w.heap.size w w'
theorem byR_int (c : UInt8) : byR c = if (c.toNat : Int) = 47 then .tuple #[.int .u8 47, .bool true] else if (c.toNat : Int) = 34 then .tuple #[.int .u8 34, .bool true] else if (c.toNat : Int) = 92 then .tuple #[.int .u8 92, .bool true] else if (c.toNat : Int) = 110 then .tuple #[.int .u8 10, .bool true] else if (c.toNat : Int) = 116 then .tuple #[.int .u8 9, .bool true] else if (c.toNat : Int) = 114 then .tuple #[.int .u8 13, .bool true] else .tuple #[.int .u8 0, .bool false] := by
  have h : ∀ k : UInt8, (c = k) ↔ ((c.toNat : Int) = (k.toNat : Int)) := fun k => by rw [← UInt8.toNat_inj]; omega
  simp only [byR, byLet, h, show ((47 : UInt8).toNat : Int) = 47 by rfl, show ((34 : UInt8).toNat : Int) = 34 by rfl, show ((92 : UInt8).toNat : Int) = 92 by rfl, show ((110 : UInt8).toNat : Int) = 110 by rfl, show ((116 : UInt8).toNat : Int) = 116 by rfl, show ((114 : UInt8).toNat : Int) = 114 by rfl]
  repeat' split
  all_goals first | rfl | simp_all
  all_goals (rename_i hx _; subst hx; rfl)
set_option maxRecDepth 100000 in
set_option maxHeartbeats 4000000 in
theorem byLetter_any (c : UInt8) (w : World) : Calls Tryz.prog 182 #[bv c] w (VBOut w (byR c)) := by
  unfold VBOut
  rw [byR_int, bv]
  have hnn : (0 : Int) ≤ (c.toNat : Int) := by omega
  generalize (c.toNat : Int) = n at *
  obtain ⟨R, hR⟩ : ∃ R, R = (if n = 47 then Value.tuple #[.int .u8 47, .bool true] else if n = 34 then .tuple #[.int .u8 34, .bool true] else if n = 92 then .tuple #[.int .u8 92, .bool true] else if n = 110 then .tuple #[.int .u8 10, .bool true] else if n = 116 then .tuple #[.int .u8 9, .bool true] else if n = 114 then .tuple #[.int .u8 13, .bool true] else .tuple #[.int .u8 0, .bool false]) := ⟨_, rfl⟩
  rw [← hR]
  by_cases h : n = 47
  · obtain rfl : R = .tuple #[.int .u8 47, .bool true] := by rw [hR]; simp [h]
    subst h
    clear hR
    go_enter Tryz.func182, Tryz.ntmps182
    go_wp2
    go_ret2
    exact ⟨rfl, Below.refl _ _⟩
  have e47 : (n == 47) = false := by simpa using h
  by_cases h0 : n = 34
  · obtain rfl : R = .tuple #[.int .u8 34, .bool true] := by rw [hR]; simp [h0]
    subst h0
    clear hR
    go_enter Tryz.func182, Tryz.ntmps182
    go_wp2_with fail
    refine (letters_any _).mono ?_
    rintro e w1 ⟨rfl, hb⟩
    simp only [lettersV]
    go_wp2
    refine wp_loop_rounds 1 ?_
    rw [rounds_succ]
    go_wp2
    go_ret2
    exact ⟨rfl, (hb).alloc (hb.size) _⟩
  have e0 : (n == 34) = false := by simpa using h0
  have e0' : ((34 : Int) == n) = false := by simp; omega
  by_cases h1 : n = 92
  · obtain rfl : R = .tuple #[.int .u8 92, .bool true] := by rw [hR]; simp [h1]
    subst h1
    clear hR
    go_enter Tryz.func182, Tryz.ntmps182
    go_wp2_with fail
    refine (letters_any _).mono ?_
    rintro e w1 ⟨rfl, hb⟩
    simp only [lettersV]
    go_wp2
    refine wp_loop_rounds 2 ?_
    rw [rounds_succ]
    go_wp2
    rw [rounds_succ]
    go_wp2
    go_ret2
    exact ⟨rfl, ((hb).alloc (hb.size) _).alloc (by have := hb.size; simp; omega) _⟩
  have e1 : (n == 92) = false := by simpa using h1
  have e1' : ((92 : Int) == n) = false := by simp; omega
  by_cases h2 : n = 110
  · obtain rfl : R = .tuple #[.int .u8 10, .bool true] := by rw [hR]; simp [h2]
    subst h2
    clear hR
    go_enter Tryz.func182, Tryz.ntmps182
    go_wp2_with fail
    refine (letters_any _).mono ?_
    rintro e w1 ⟨rfl, hb⟩
    simp only [lettersV]
    go_wp2
    refine wp_loop_rounds 3 ?_
    rw [rounds_succ]
    go_wp2
    rw [rounds_succ]
    go_wp2
    rw [rounds_succ]
    go_wp2
    go_ret2
    exact ⟨rfl, (((hb).alloc (hb.size) _).alloc (by have := hb.size; simp; omega) _).alloc (by have := hb.size; simp; omega) _⟩
  have e2 : (n == 110) = false := by simpa using h2
  have e2' : ((110 : Int) == n) = false := by simp; omega
  by_cases h3 : n = 116
  · obtain rfl : R = .tuple #[.int .u8 9, .bool true] := by rw [hR]; simp [h3]
    subst h3
    clear hR
    go_enter Tryz.func182, Tryz.ntmps182
    go_wp2_with fail
    refine (letters_any _).mono ?_
    rintro e w1 ⟨rfl, hb⟩
    simp only [lettersV]
    go_wp2
    refine wp_loop_rounds 4 ?_
    rw [rounds_succ]
    go_wp2
    rw [rounds_succ]
    go_wp2
    rw [rounds_succ]
    go_wp2
    rw [rounds_succ]
    go_wp2
    go_ret2
    exact ⟨rfl, ((((hb).alloc (hb.size) _).alloc (by have := hb.size; simp; omega) _).alloc (by have := hb.size; simp; omega) _).alloc (by have := hb.size; simp; omega) _⟩
  have e3 : (n == 116) = false := by simpa using h3
  have e3' : ((116 : Int) == n) = false := by simp; omega
  by_cases h4 : n = 114
  · obtain rfl : R = .tuple #[.int .u8 13, .bool true] := by rw [hR]; simp [h4]
    subst h4
    clear hR
    go_enter Tryz.func182, Tryz.ntmps182
    go_wp2_with fail
    refine (letters_any _).mono ?_
    rintro e w1 ⟨rfl, hb⟩
    simp only [lettersV]
    go_wp2
    refine wp_loop_rounds 5 ?_
    rw [rounds_succ]
    go_wp2
    rw [rounds_succ]
    go_wp2
    rw [rounds_succ]
    go_wp2
    rw [rounds_succ]
    go_wp2
    rw [rounds_succ]
    go_wp2
    go_ret2
    exact ⟨rfl, (((((hb).alloc (hb.size) _).alloc (by have := hb.size; simp; omega) _).alloc (by have := hb.size; simp; omega) _).alloc (by have := hb.size; simp; omega) _).alloc (by have := hb.size; simp; omega) _⟩
  have e4 : (n == 114) = false := by simpa using h4
  have e4' : ((114 : Int) == n) = false := by simp; omega
  obtain rfl : R = .tuple #[.int .u8 0, .bool false] := by rw [hR]; simp [h, h0, h1, h2, h3, h4]
  clear hR
  go_enter Tryz.func182, Tryz.ntmps182
  go_wp2_with fail
  refine (letters_any _).mono ?_
  rintro e w1 ⟨rfl, hb⟩
  simp only [lettersV]
  go_wp2
  refine wp_loop_rounds 6 ?_
  rw [rounds_succ]
  go_wp2
  rw [rounds_succ]
  go_wp2
  rw [rounds_succ]
  go_wp2
  rw [rounds_succ]
  go_wp2
  rw [rounds_succ]
  go_wp2
  rw [rounds_succ]
  go_wp2
  go_ret2
  exact ⟨rfl, (((((hb).alloc (hb.size) _).alloc (by have := hb.size; simp; omega) _).alloc (by have := hb.size; simp; omega) _).alloc (by have := hb.size; simp; omega) _).alloc (by have := hb.size; simp; omega) _⟩
end Go.Proofs.YtfcegalckjeafaaGreatDoor
namespace Go.Proofs.YtfcegalckjeafaaGreatDoor
open Go.RowKit Go.BigFrame
/-- Two digits: their byte and where they end; or why not. -/
def pairL : List UInt8 → Nat → (UInt8 × Nat) ⊕ (Nat × Int)
  | [], p => .inr (p, 10)
  | a :: t, p => match hexv a with
    | none => .inr (p, 2)
    | some m => match t with
      | [] => .inr (p + 1, 10)
      | b :: _ => match hexv b with
        | none => .inr (p + 1, 2)
        | some n => .inl (UInt8.ofNat (16 * m + n), p + 2)
def pairR : (UInt8 × Nat) ⊕ (Nat × Int) → Value
  | .inl r => .tuple #[bv r.1, .int .i64 r.2, .int .i64 0]
  | .inr r => .tuple #[.int .u8 0, .int .i64 r.1, .int .i64 r.2]
theorem hexv_lt {c : UInt8} {m : Nat} (h : hexv c = some m) : m < 16 := by
  unfold hexv at h
  split at h
  · cases h; omega
  split at h
  · cases h; omega
  split at h
  · cases h; omega
  · cases h
theorem or16 : ∀ m n : Fin 16, bits .or .u8 ((m.val : Int) * 16 % 256) (n.val : Int) = ((16 * m.val + n.val : Nat) : Int) := by decide +kernel
theorem hexR_none {c : UInt8} (h : hexv c = none) : hexR c = .tuple #[.int .u8 0, .bool false] := by rw [hexR, h]
theorem hexR_some {c : UInt8} {m : Nat} (h : hexv c = some m) : hexR c = .tuple #[.int .u8 m, .bool true] := by rw [hexR, h]
set_option maxRecDepth 100000 in
set_option maxHeartbeats 4000000 in
theorem pair_any (s : ByteArray) (p : Nat) (w : World) (hp : p ≤ s.size) (hs : s.size ≤ 16777216) : Calls Tryz.prog 181 #[.string s, .int .i64 p] w (VOut w (pairR (pairL ((bytes s).drop p) p))) := by
  unfold VOut
  obtain ⟨R, hR⟩ : ∃ R, R = pairR (pairL ((bytes s).drop p) p) := ⟨_, rfl⟩
  rw [← hR]
  by_cases h1 : p < s.size
  · rw [bytes_drop s p h1] at hR
    have HE := Lib.hid (fun W => either_any s[p] W)
    have hi1 : (p : Int) < (s.size : Int) := by omega
    have hg1 : s[p] = s[p] := rfl
    cases ha : hexv s[p] with
    | none =>
      obtain rfl : R = .tuple #[.int .u8 0, .int .i64 p, .int .i64 2] := by rw [hR, pairL, ha]; rfl
      rw [hexR_none ha] at HE
      simp only [bv] at HE
      clear hR ha
      go_enter Tryz.func181, Tryz.ntmps181
      go_wp2
      refine wp_loop_rounds 1 ?_
      rw [rounds_succ]
      go_wp2_with fail
      refine (HE.out _).mono ?_
      rintro e w1 ⟨rfl, rfl⟩
      go_wp2
      go_ret3
      exact ⟨rfl, rfl⟩
    | some m =>
      have hm := hexv_lt ha
      rw [hexR_some ha] at HE
      simp only [bv] at HE
      have o1 : bits .or .u8 0 (m : Int) = (m : Int) := by simpa using or16 ⟨0, by omega⟩ ⟨m, hm⟩
      by_cases h2 : p + 1 < s.size
      · have HF := Lib.hid (fun W => either_any s[p + 1] W)
        have hi2 : (p : Int) + 1 < (s.size : Int) := by omega
        rw [bytes_drop s (p + 1) h2] at hR
        cases hb : hexv s[p + 1] with
        | none =>
          obtain rfl : R = .tuple #[.int .u8 0, .int .i64 ((p + 1 : Nat) : Int), .int .i64 2] := by rw [hR]; simp only [pairL, ha, hb]; rfl
          rw [hexR_none hb] at HF
          simp only [bv] at HF
          clear hR ha hb
          go_enter Tryz.func181, Tryz.ntmps181
          go_wp2
          refine wp_loop_rounds 2 ?_
          rw [rounds_succ]
          go_wp2_with fail
          refine (HE.out _).mono ?_
          rintro e w1 ⟨rfl, rfl⟩
          go_wp2
          rw [rounds_succ]
          go_wp2_with fail
          refine (HF.out _).mono ?_
          rintro e w1 ⟨rfl, rfl⟩
          go_wp2
          go_ret3
          exact ⟨rfl, rfl⟩
        | some n =>
          have hn := hexv_lt hb
          have o2 : bits .or .u8 ((m : Int) * 16) (n : Int) = ((16 * m + n : Nat) : Int) := by have := or16 ⟨m, hm⟩ ⟨n, hn⟩; rwa [show ((⟨m, hm⟩ : Fin 16).val : Int) * 16 % 256 = (m : Int) * 16 by show (m : Int) * 16 % 256 = _; omega] at this
          obtain rfl : R = .tuple #[.int .u8 ((16 * m + n : Nat) : Int), .int .i64 ((p + 2 : Nat) : Int), .int .i64 0] := by
            rw [hR]
            simp only [pairL, ha, hb, pairR, bv]
            rw [UInt8.toNat_ofNat_of_lt' (by simp [UInt8.size]; omega)]
          rw [hexR_some hb] at HF
          simp only [bv] at HF
          clear hR ha hb
          go_enter Tryz.func181, Tryz.ntmps181
          go_wp2
          refine wp_loop_rounds 3 ?_
          rw [rounds_succ]
          go_wp2_with fail
          refine (HE.out _).mono ?_
          rintro e w1 ⟨rfl, rfl⟩
          go_wp2
          rw [rounds_succ]
          go_wp2_with fail
          refine (HF.out _).mono ?_
          rintro e w1 ⟨rfl, rfl⟩
          go_wp2
          rw [rounds_succ]
          go_wp2
          go_ret3
          exact ⟨rfl, rfl⟩
      · have he : (bytes s).drop (p + 1) = [] := List.drop_of_length_le (by rw [bytes_len]; omega)
        have hz : (s.size : Int) = (p : Int) + 1 := by omega
        have hi2 : ¬ ((p : Int) + 1 < (s.size : Int)) := by omega
        obtain rfl : R = .tuple #[.int .u8 0, .int .i64 ((p + 1 : Nat) : Int), .int .i64 10] := by rw [hR, he]; simp only [pairL, ha]; rfl
        clear hR ha he
        go_enter Tryz.func181, Tryz.ntmps181
        go_wp2
        refine wp_loop_rounds 2 ?_
        rw [rounds_succ]
        go_wp2_with fail
        refine (HE.out _).mono ?_
        rintro e w1 ⟨rfl, rfl⟩
        go_wp2
        rw [rounds_succ]
        go_wp2
        go_ret3
        exact ⟨rfl, rfl⟩
  · have he : (bytes s).drop p = [] := List.drop_of_length_le (by rw [bytes_len]; omega)
    have hz : s.size = p := by omega
    obtain rfl : R = .tuple #[.int .u8 0, .int .i64 p, .int .i64 10] := by rw [hR, he]; rfl
    clear hR he
    go_enter Tryz.func181, Tryz.ntmps181
    go_wp2
    refine wp_loop_rounds 1 ?_
    rw [rounds_succ]
    go_wp2
    go_ret3
    first | exact ⟨rfl, rfl⟩ | exact ⟨by rw [← hz]; rfl, rfl⟩
end Go.Proofs.YtfcegalckjeafaaGreatDoor
namespace Go.Proofs.YtfcegalckjeafaaGreatDoor
open Go
section
variable {P : Program} {ops : Array Oper} {Q : Exit → Act → World → Prop} {md : Region.Mode} {S : World → Prop} {T : Act → World → Prop} {n g : Nat}
def wpAnyT (P : Program) (md : Region.Mode) (ops : Array Oper) (Q : Exit → Act → World → Prop) (S : World → Prop) (n g : Nat) (T : Act → World → Prop) : Nat → Array Bool → Act → World → Prop
  | 0, listed, a, w => Region.seqB md ops g n listed = true ∧ T a w
  | fuel + 1, listed, a, w =>
    Region.ready md ops listed ≠ [] ∧
    ∀ i ∈ Region.ready md ops listed, i < n ∧ wpOp P ops Q i (fun a' w' => S w' ∧ wpAnyT P md ops Q S n g T fuel (listed.setIfInBounds i true) a' w') a w
theorem wpAny_of_T (hT : ∀ listed a w, Region.seqB md ops g n listed = true → T a w → wpAny P md ops Q g listed a w) :
    ∀ (f : Nat) (listed : Array Bool) (a : Act) (w : World), wpAnyT P md ops Q S n g T f listed a w → wpAny P md ops Q (f + g) listed a w
  | 0, listed, a, w, h => by rw [Nat.zero_add]; exact hT _ _ _ h.1 h.2
  | f + 1, listed, a, w, h => by
    rw [show f + 1 + g = (f + g) + 1 by omega]
    exact ⟨fun h0 => absurd h0 h.1, fun i hi => wpOp_mono (fun a' w' h' => wpAny_of_T hT f _ a' w' h'.2) (h.2 i hi).2⟩
theorem wpAnyT_first {i : Nat} {oi : Oper} {v : Value} (hi : ops[i]? = some oi) (hsel : ∀ (j : Nat) (o : Oper) cs b, ops[j]? = some o → o.op ≠ .select cs b)
    (hs : Region.sinkB md ops n = true) (hc : Region.chainB md ops n = true) (hn : n < ops.size) (hin : i < n)
    (hQ : ∀ c a w, Q (.panic c) (a.put oi.dst v) w → Q (.panic c) a w) :
    ∀ (fuel : Nat) (listed : Array Bool) (a : Act) (w : World), HeadInv md ops n listed →
      (∀ j oj, ops[j]? = some oj → j ≠ i → listed.getD j true = false → (∀ e ∈ oj.after, Region.binds md e = true → e.on ≠ i) → oi.apart ops oj = true) →
      i ∈ Region.ready md ops listed → YieldsIf P ops S oi v a → S w →
      wpAnyT P md ops Q S n g T fuel (listed.setIfInBounds i true) (a.put oi.dst v) w → wpAnyT P md ops Q S n g T (fuel + 1) listed a w := by
  intro fuel
  induction fuel with
  | zero =>
    intro listed a w inv _ hr hy hS H
    have hun := (mem_ready.1 hr).1
    refine ⟨fun h => (by rw [h] at hr; cases hr), fun j hj => ?_⟩
    have hjn : j < n := by
      rcases Nat.lt_or_ge j n with h | h
      · exact h
      · exact absurd hj (tail_waits hs hc hn inv _ i rfl hin hun j h)
    refine ⟨hjn, ?_⟩
    by_cases hji : j = i
    · subst hji; exact hy.wpOp hi hS ⟨hS, H⟩
    · have := seqB_ready H.1 j (ready_mono hj hji)
      omega
  | succ fuel ih =>
    intro listed a w inv hfree hr hy hS H
    have hun := (mem_ready.1 hr).1
    refine ⟨fun h => (by rw [h] at hr; cases hr), fun j hj => ?_⟩
    have hjn : j < n := by
      rcases Nat.lt_or_ge j n with h | h
      · exact h
      · exact absurd hj (tail_waits hs hc hn inv _ i rfl hin hun j h)
    refine ⟨hjn, ?_⟩
    by_cases hji : j = i
    · subst hji; exact hy.wpOp hi hS ⟨hS, H⟩
    · have h1 := (H.2 j (ready_mono hj hji)).2
      obtain ⟨hjun, oj, hoj, hall⟩ := mem_ready.1 hj
      have hnot : ∀ e ∈ oj.after, Region.binds md e = true → e.on ≠ i := fun e he hb heq => by
        have h1 := hall e he hb
        rw [heq, getD_both hun] at h1
        cases h1
      have h2 := wpOp_putIf hoj (hfree j oj hoj hji hjun hnot) (fun cs b => hsel i oi cs b hi) (fun cs b => hsel j oj cs b hoj) hQ hy h1
      have hfree' : ∀ k ok, ops[k]? = some ok → k ≠ i → (listed.setIfInBounds j true).getD k true = false →
          (∀ e ∈ ok.after, Region.binds md e = true → e.on ≠ i) → oi.apart ops ok = true := fun k ok hk hki hun hno => by
        refine hfree k ok hk hki ?_ hno
        by_cases hjk : j = k
        · subst hjk; exact hjun
        · rw [getD_set_ne true hjk] at hun; exact hun
      refine wpOp_mono (fun a' w' h3 => ⟨h3.2.1, ih (listed.setIfInBounds j true) a' w' (inv.set hj hjn) hfree' (ready_mono hr (Ne.symm hji)) h3.1 h3.2.1 ?_⟩) h2
      rw [Array.setIfInBounds_comm _ _ hji]
      exact h3.2.2
/-- What is fixed of the region. -/
def htB (md : Region.Mode) (ops : Array Oper) (n : Nat) : Bool := Region.noSelect ops && decide (n < ops.size) && Region.sinkB md ops n && Region.chainB md ops n
/-- What of the head has come up is closed; nothing of the tail has. -/
def headB (md : Region.Mode) (ops : Array Oper) (n : Nat) (listed : Array Bool) : Bool :=
  decide (listed.size = ops.size) && (List.range ops.size).all (fun j => !listed.getD j false || ((ops[j]?).map (·.after.all fun e => !Region.binds md e || listed.getD e.on false)).getD true) &&
    (List.range ops.size).all fun t => decide (t < n) || !listed.getD t true
theorem headB_inv {listed : Array Bool} (h : headB md ops n listed = true) : HeadInv md ops n listed := by
  simp only [headB, Bool.and_eq_true, decide_eq_true_eq] at h
  obtain ⟨⟨h1, h2⟩, h3⟩ := h
  refine ⟨h1, fun j oj hj hl e he hb => ?_, fun t ht ht' => ?_⟩
  · have hjs := (Array.getElem?_eq_some_iff.1 hj).1
    have := List.all_eq_true.1 h2 j (List.mem_range.2 hjs)
    rw [hl, hj] at this
    simp only [Bool.not_true, Bool.false_or, Option.map_some, Option.getD_some] at this
    have := Array.all_eq_true'.1 this e he
    rw [hb] at this
    simpa using this
  · have := List.all_eq_true.1 h3 t (List.mem_range.2 ht')
    simp only [Bool.or_eq_true, decide_eq_true_eq, Bool.not_eq_true'] at this
    rcases this with h | h
    · omega
    · exact h
def takeB (md : Region.Mode) (ops : Array Oper) (n : Nat) (listed : Array Bool) (i : Nat) : Bool :=
  Region.free md ops listed i && (Region.ready md ops listed).contains i && headB md ops n listed && decide (i < n)
/-- Take number 'i' first. -/
theorem wpAnyT_take (i : Nat) {oi : Oper} {v : Value} {fuel : Nat} {listed : Array Bool} {a : Act} {w : World} (hst : htB md ops n = true) (hi : ops[i]? = some oi)
    (ht : takeB md ops n listed i = true)
    (hQ : ∀ c a w, Q (.panic c) (a.put oi.dst v) w → Q (.panic c) a w) (hy : YieldsIf P ops S oi v a) (hS : S w)
    (h : wpAnyT P md ops Q S n g T fuel (listed.setIfInBounds i true) (a.put oi.dst v) w) : wpAnyT P md ops Q S n g T (fuel + 1) listed a w := by
  simp only [htB, takeB, Bool.and_eq_true, decide_eq_true_eq] at hst ht
  exact wpAnyT_first hi (Region.noSelect_spec hst.1.1.1) hst.1.2 hst.2 hst.1.1.2 ht.2 hQ fuel listed a w (headB_inv ht.1.2) (Region.free_spec hi ht.1.1.1) (by simpa using ht.1.1.2) hy hS h
/-- One that comes up alone is carried out. -/
theorem wpAnyT_one (i : Nat) {o : Oper} {fuel : Nat} {listed : Array Bool} {a : Act} {w : World} (hr : Region.ready md ops listed = [i]) (hin : decide (i < n) = true) (ho : ops[i]? = some o)
    (h : ∀ K' : Act → World → Prop, Shut (∀ a w, S w → (S w → wpAnyT P md ops Q S n g T fuel (listed.setIfInBounds i true) a w) → K' a w) → if Region.wanted o (yielded ops a.tmps) = true then Oper.wp P o a w K' Q else K' (a.put o.dst undef) w) :
    wpAnyT P md ops Q S n g T (fuel + 1) listed a w := by
  refine ⟨by rw [hr]; simp, fun j hj => ?_⟩
  rw [hr] at hj
  obtain rfl : j = i := by simpa using hj
  exact ⟨by simpa using hin, wpOp_step ho (fun K' hK => h K' (fun a w hS hW => hK a w ⟨hS, hW hS⟩))⟩
/-- Two that may come up, in either order. -/
theorem wpAnyT_two (i j : Nat) {o o' : Oper} {fuel : Nat} {listed : Array Bool} {a : Act} {w : World} (hr : Region.ready md ops listed = [i, j]) (hin : (decide (i < n) && decide (j < n)) = true) (ho : ops[i]? = some o) (ho' : ops[j]? = some o')
    (h : ∀ K' : Act → World → Prop, Shut (∀ a w, S w → (S w → wpAnyT P md ops Q S n g T fuel (listed.setIfInBounds i true) a w) → K' a w) → if Region.wanted o (yielded ops a.tmps) = true then Oper.wp P o a w K' Q else K' (a.put o.dst undef) w)
    (h' : ∀ K' : Act → World → Prop, Shut (∀ a w, S w → (S w → wpAnyT P md ops Q S n g T fuel (listed.setIfInBounds j true) a w) → K' a w) → if Region.wanted o' (yielded ops a.tmps) = true then Oper.wp P o' a w K' Q else K' (a.put o'.dst undef) w) :
    wpAnyT P md ops Q S n g T (fuel + 1) listed a w := by
  refine ⟨by rw [hr]; simp, fun k hk => ?_⟩
  simp only [Bool.and_eq_true, decide_eq_true_eq] at hin
  rw [hr] at hk
  simp only [List.mem_cons, List.not_mem_nil, or_false] at hk
  rcases hk with rfl | rfl
  · exact ⟨hin.1, wpOp_step ho (fun K' hK => h K' (fun a w hS hW => hK a w ⟨hS, hW hS⟩))⟩
  · exact ⟨hin.2, wpOp_step ho' (fun K' hK => h' K' (fun a w hS hW => hK a w ⟨hS, hW hS⟩))⟩
theorem wpAnyT_done {listed : Array Bool} {a : Act} {w : World} (hB : Region.seqB md ops g n listed = true) (h : T a w) : wpAnyT P md ops Q S n g T 0 listed a w := ⟨hB, h⟩
/-- The beginning. -/
theorem wp_region_ht {id : Nat} {l : List Oper} {a : Act} {w : World} (n : Nat) (S : World → Prop) (hm : P.follows .mixedOrders = true) (hst : htB .any l.toArray n = true) (hS : S w.drew)
    (h : htB .any l.toArray n = true → S w.drew → wpAnyT P .any l.toArray Q S n (l.length - n) (fun a w => wpList P l.toArray Q (l.drop n) a w) n (Array.replicate l.length false) a w.drew) : (Code.region id l.toArray true).wp P Q a w := by
  refine wp_region_any hm ?_
  have hn : n < l.length := by
    simp only [htB, Bool.and_eq_true, decide_eq_true_eq] at hst
    simpa using hst.1.1.2
  have := wpAny_of_T (Q := Q) (g := l.length - n) (fun listed a w hB hT => by
    have := wpAny_of_seq (md := .any) (Q' := Q) (l.drop n) n listed a w (fun j => by simp [List.getElem?_drop]) (by simpa using hB) hT
    simpa using this) _ _ _ _ (h hst hS)
  rw [show n + (l.length - n) = l.toArray.size by simp; omega] at this
  simpa using this
end
end Go.Proofs.YtfcegalckjeafaaGreatDoor
namespace Go.Proofs.YtfcegalckjeafaaGreatDoor
open Go.RowKit Go.BigFrame
set_option maxHeartbeats 1000000 in
theorem bothV (A1 A2 : Option Addr) (n1 n2 c1 c2 : Nat) (xs ys : List V) (S S' : Nat → Prop) (w : World) (hx : Reads w S 11 A1 n1 (flat xs)) (hy : Reads w S' 11 A2 n2 (flat ys)) (hn : n1 + n2 ≤ 65536) :
    Calls Tryz.prog 180 #[.slice A1 n1 c1, .slice A2 n2 c2] w (NewOut w 42 11 (n1 + n2) (flat (xs ++ ys))) := by
  have HX := Lib.hid hx
  have HY := Lib.hid hy
  clear hx hy
  go_enter Tryz.func180, Tryz.ntmps180
  go_wp2_with (first | (at_make; refine wpList_mk elV rfl rfl (n1 + n2) rfl rfl (by omega) (by omega) (by decide) ?_; intro w1 HO HB HG) | (at_builtin; refine wpList_app elV (o := ⟨some 14, _, _, _, _, _⟩) rfl rfl HO.out rfl HB.out (HX.out.keeps (.of_below HB.out)) rfl (flat_one _) (by omega) (by decide) HB.out.size ?_; intro v2 w2 HO2 HB2 HG2) | (at_builtin; refine wpList_app elV (o := ⟨some 16, _, _, _, _, _⟩) rfl rfl HO2.out rfl HB2.out (HY.out.keeps (.of_below HB2.out)) rfl (flat_one _) (by omega) (by decide) HB2.out.size ?_; intro v3 w3 HO3 HB3 HG3))
  go_ret
  exact ⟨_, rfl, by simpa [flat_app] using HO3.out, HB3.out⟩
set_option maxHeartbeats 1000000 in
theorem bothP (A1 A2 : Option Addr) (n1 n2 c1 c2 : Nat) (xs ys : List (Option Addr)) (S S' : Nat → Prop) (w : World) (hx : Reads w S 1 A1 n1 (xs.map .pointer)) (hy : Reads w S' 1 A2 n2 (ys.map .pointer)) (hn : n1 + n2 ≤ 65536) :
    Calls Tryz.prog 197 #[.slice A1 n1 c1, .slice A2 n2 c2] w (NewOut w 35 1 (n1 + n2) ((xs ++ ys).map .pointer)) := by
  have HX := Lib.hid hx
  have HY := Lib.hid hy
  have h1 : ∀ (l : List (Option Addr)), ∀ u ∈ l.map Value.pointer, u.oneCell' = true := fun l u hu => by obtain ⟨x, _, rfl⟩ := List.mem_map.1 hu; rfl
  clear hx hy
  go_enter Tryz.func197, Tryz.ntmps197
  go_wp2_with (first | (at_make; refine wpList_mk elP rfl rfl (n1 + n2) rfl rfl (by omega) (by omega) (by decide) ?_; intro w1 HO HB HG) | (at_builtin; refine wpList_app elP (o := ⟨some 14, _, _, _, _, _⟩) rfl rfl HO.out rfl HB.out (HX.out.keeps (.of_below HB.out)) rfl (h1 _) (by omega) (by decide) HB.out.size ?_; intro v2 w2 HO2 HB2 HG2) | (at_builtin; refine wpList_app elP (o := ⟨some 16, _, _, _, _, _⟩) rfl rfl HO2.out rfl HB2.out (HY.out.keeps (.of_below HB2.out)) rfl (h1 _) (by omega) (by decide) HB2.out.size ?_; intro v3 w3 HO3 HB3 HG3))
  go_ret
  exact ⟨_, rfl, by simpa using HO3.out, HB3.out⟩
theorem copyV (A : Option Addr) (n c : Nat) (xs : List V) (S : Nat → Prop) (w : World) (hx : Reads w S 11 A n (flat xs)) (hn : n ≤ 65536) :
    Calls Tryz.prog 180 #[.slice A n c, .slice none 0 0] w (NewOut w 42 11 n (flat xs)) := by
  have := bothV A none n 0 c 0 xs [] S S w hx Reads.none_ (by omega)
  simpa using this
theorem copyP (A : Option Addr) (n c : Nat) (xs : List (Option Addr)) (S : Nat → Prop) (w : World) (hx : Reads w S 1 A n (xs.map .pointer)) (hn : n ≤ 65536) :
    Calls Tryz.prog 197 #[.slice A n c, .slice none 0 0] w (NewOut w 35 1 n (xs.map .pointer)) := by
  have := bothP A none n 0 c 0 xs [] S S w hx Reads.none_ (by omega)
  simpa using this
end Go.Proofs.YtfcegalckjeafaaGreatDoor
