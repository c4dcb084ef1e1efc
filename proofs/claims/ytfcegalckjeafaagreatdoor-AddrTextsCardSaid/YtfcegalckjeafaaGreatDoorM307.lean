/-
  Parts of the proof that AddrBegins,AddrTexts calls on: Tg, Ge, Th, Ld, OpenStructs, Ba.
-/
import Derived.ChangeSame
import Derived.Deep.Fields
import Derived.Deep.Slices
import Derived.Deep.Strs
import Derived.LaidMore
import Derived.Lay
import Derived.OpenShut
import Derived.ProofKit
import Derived.Test.YtfcegalckjeafaaGreatDoorRows
import Derived.Test.YtfcegalckjeafaaGreatDoorM302
import Derived.Test.YtfcegalckjeafaaGreatDoorM303
import Derived.Test.YtfcegalckjeafaaGreatDoorM305
import Derived.Test.YtfcegalckjeafaaGreatDoorM306
namespace Go.Proofs.YtfcegalckjeafaaGreatDoor
open Go.RowKit Go.BigFrame
theorem q1_let {c : UInt8} (h : letL c ≠ 0) : q1 c = [92, letL c] := if_pos h
theorem q1_hex {c : UInt8} (h : letL c = 0) (h2 : c.toNat < 32 ∨ 126 < c.toNat) : q1 c = [92, 120, hexd (c.toNat / 16), hexd (c.toNat % 16)] := by rw [q1, if_neg (by simp [h]), if_pos h2]
theorem q1_plain {c : UInt8} (h : letL c = 0) (h2 : ¬ (c.toNat < 32 ∨ 126 < c.toNat)) : q1 c = [c] := by rw [q1, if_neg (by simp [h]), if_neg h2]
theorem flat_succ (s : ByteArray) (k : Nat) (h : k < s.size) : ((bytes s).take (k + 1)).flatMap q1 = ((bytes s).take k).flatMap q1 ++ q1 s[k] := by
  rw [bytes_take s k h, List.flatMap_append]
  simp
def hexS : ByteArray := ⟨#[48, 49, 50, 51, 52, 53, 54, 55, 56, 57, 97, 98, 99, 100, 101, 102]⟩
theorem hexS_size : hexS.size = 16 := rfl
theorem hex_at : ∀ n : Fin 16, (hexS[n.val]'(by rw [hexS_size]; exact n.isLt)) = hexd n.val := by decide +kernel
theorem idxhex (W : World) : ∀ n : Nat, n < 16 → (Instr.index 9 (.string ⟨#[48, 49, 50, 51, 52, 53, 54, 55, 56, 57, 97, 98, 99, 100, 101, 102]⟩) (.int .u8 (n : Int))).run Tryz.prog W = .ok (.int .u8 ((hexd n).toNat : Int)) W
  | 0, _ => by kernel_rfl
  | 1, _ => by kernel_rfl
  | 2, _ => by kernel_rfl
  | 3, _ => by kernel_rfl
  | 4, _ => by kernel_rfl
  | 5, _ => by kernel_rfl
  | 6, _ => by kernel_rfl
  | 7, _ => by kernel_rfl
  | 8, _ => by kernel_rfl
  | 9, _ => by kernel_rfl
  | 10, _ => by kernel_rfl
  | 11, _ => by kernel_rfl
  | 12, _ => by kernel_rfl
  | 13, _ => by kernel_rfl
  | 14, _ => by kernel_rfl
  | 15, _ => by kernel_rfl
  | n + 16, h => by omega
theorem and15 (c : UInt8) : bits .and .u8 (c.toNat : Int) 15 = ((c.toNat % 16 : Nat) : Int) := by
  have := u8_all (fun c => bits .and .u8 (c.toNat : Int) 15 == ((c.toNat % 16 : Nat) : Int)) (by decide +kernel) c
  simpa using this
set_option maxRecDepth 100000 in
set_option maxHeartbeats 8000000 in
theorem quote_any (s : ByteArray) (w : World) (hs : s.size ≤ 2097152) : Calls Tryz.prog 55 #[.string s] w (VBOut w (sv (quoteL (bytes s)))) := by
  go_enter Tryz.func55, Tryz.ntmps55
  go_wp2_with (first
    | (at_make; refine wpList_mk elB rfl rfl (s.size + 2) rfl rfl (by omega) (by omega) (by decide) ?_; intro w1 HO1 HB1 HG1; clear HG1; have hz1 := HB1.out.size)
    | (at_builtin; refine wpList_app elB (o := ⟨some 13, _, _, _, _, _⟩) rfl rfl (n := 0) (World.ownsRow.alloc HO1.out _) rfl (w0 := w) (HB1.out.alloc hz1 _) (reads_new w1 5 [bv 34]) rfl (by simp [bv, Value.oneCell']) (by simp) (by decide) (by simp; omega) ?_; intro v2 w2 HO2 HB2 HG2; clear HG2)
    | fail)
  go_loopw [3, 16] (fun v i wr => ∃ (k : Nat) (acc : List UInt8), k ≤ s.size ∧ i = .int .i64 k ∧ acc.length ≤ 4 * k + 1 ∧ Hid (acc = 34 :: ((bytes s).take k).flatMap q1) ∧ Hid (wr.ownsRow w.heap.size 5 1 v acc.length (acc.map bv)) ∧ Hid (Below w.heap.size w wr)) (fun _ i _ => (s.size - intOf i).toNat)
  case atStart => exact ⟨0, [34], Nat.zero_le _, rfl, by simp, by simp [Hid], by simpa using HO2, HB2⟩
  case round =>
    obtain ⟨k, acc, hk, rfl, hal, hA, hO, hB⟩ := hrel
    have hz0 := hB.out.size
    obtain ⟨A, c, rfl, hcap⟩ := own_shape hO.out
    by_cases hlt : k < s.size
    · have hki : (k : Int) < (s.size : Int) := by omega
      have hgk : s[k] = s[k] := rfl
      have HL : Hid (∀ W, Calls Tryz.prog 99 #[.int .u8 (s[k].toNat : Int)] W fun e w' => e = .returned (.int .u8 ((letL s[k]).toNat : Int)) ∧ Below W.heap.size W w') := Lib.hid (fun W => letter2_any s[k] W)
      have HF := Lib.hid (flat_succ s k hlt)
      by_cases hl : letL s[k] = 0
      · rw [hl] at HL
        have e0 : ((0 : UInt8).toNat : Int) = 0 := rfl
        rw [e0] at HL
        have hn0 : (0 : Int) ≤ (s[k].toNat : Int) := by omega
        have hn256 : (s[k].toNat : Int) < 256 := by have := (s[k]).toNat_lt; omega
        by_cases c1 : s[k].toNat < 32 ∨ 126 < s[k].toNat
        · have hq := Lib.hid (q1_hex hl c1)
          have hacc : Hid (acc ++ [92, 120, hexd (s[k].toNat / 16), hexd (s[k].toNat % 16)] = 34 :: ((bytes s).take (k + 1)).flatMap q1) := Lib.hid (by rw [HF.out, hq.out, hA.out]; simp)
          have d1 := hex_at ⟨s[k].toNat / 16, by have := (s[k]).toNat_lt; omega⟩
          have d2 := hex_at ⟨s[k].toNat % 16, by omega⟩
          have HD1 := Lib.hid d1
          have HD2 := Lib.hid d2
          clear hl hgk HF hq d1 d2
          by_cases c32 : (s[k].toNat : Int) < 32
          · go_wp2_with fail
            refine (HL.out _).mono ?_
            rintro e w1 ⟨rfl, hb⟩
            have hz1 : w.heap.size ≤ w1.heap.size := Nat.le_trans hz0 hb.size
            go_wp2_with fail
            have HO1' : Hid (w1.drew.ownsRow w.heap.size 5 1 (.slice A acc.length c) acc.length (acc.map bv)) := Lib.hid (own_below hO.out hb.drew)
            have HB1' : Hid (Below w.heap.size w w1.drew) := Lib.hid ((hB.out.trans (hb.mono hz0)).drew)
            obtain ⟨H, s1, hH, hH'⟩ : ∃ H : Nat, (s[k].toNat : Int) / 16 = (H : Int) ∧ H < 16 ∧ Hid (s[k].toNat / 16 = H) := ⟨s[k].toNat / 16, by omega, by omega, rfl⟩
            obtain ⟨L, s2, hL, hL'⟩ : ∃ L : Nat, bits .and .u8 (s[k].toNat : Int) 15 = (L : Int) ∧ L < 16 ∧ Hid (s[k].toNat % 16 = L) := ⟨s[k].toNat % 16, and15 s[k], by omega, rfl⟩
            have hacc2 : Hid (acc ++ [92, 120, hexd H, hexd L] = 34 :: ((bytes s).take (k + 1)).flatMap q1) := Lib.hid (by rw [← hH'.out, ← hL'.out]; exact hacc.out)
            have HIH := Lib.hid (fun W => idxhex W H hH)
            have HIL := Lib.hid (fun W => idxhex W L hL)
            have hsz1 : w.heap.size ≤ w1.drew.heap.size := hz1
            clear hacc hL' hH' HD1 HD2 c1
            refine wp_region_sq 8 [(0, true), (1, true), (2, true), (3, true), (4, true), (5, true), (6, true), (7, false)] (fun _ => True) (by kernel_rfl) (by kernel_rfl) trivial (fun hS => ?_)
            iterate 3 (refine sq_t (o := ⟨_, _, _, _, _, _⟩) (v := ?_) rfl (by rfl) ?_ ?_; rotate_left; (· (intro w hSw; (try dsimp only at hSw); go_simp; try with_reducible rfl)); try simp only [Act.put, List.setIfInBounds_toArray, List.set_cons_zero, List.set_cons_succ])
            refine sq_t (o := ⟨_, _, _, _, _, _⟩) (v := .int .u8 ((hexd H).toNat : Int)) rfl (by rfl) (fun w' _ => by have h := HIH.out w'; simp [execOp, Act.eval, h]) ?_
            try simp only [Act.put, List.setIfInBounds_toArray, List.set_cons_zero, List.set_cons_succ]
            iterate 2 (refine sq_t (o := ⟨_, _, _, _, _, _⟩) (v := ?_) rfl (by rfl) ?_ ?_; rotate_left; (· (intro w hSw; (try dsimp only at hSw); go_simp; try with_reducible rfl)); try simp only [Act.put, List.setIfInBounds_toArray, List.set_cons_zero, List.set_cons_succ])
            refine sq_t (o := ⟨_, _, _, _, _, _⟩) (v := .int .u8 ((hexd L).toNat : Int)) rfl (by rfl) (fun w' _ => by have h := HIL.out w'; simp [execOp, Act.eval, h]) ?_
            try simp only [Act.put, List.setIfInBounds_toArray, List.set_cons_zero, List.set_cons_succ]
            refine sq_c rfl (fun K hK => ?_)
            go_simp
            refine hK.out _ _ trivial (fun hS => ?_)
            clear hK K
            try simp only [Act.put, List.setIfInBounds_toArray, List.set_cons_zero, List.set_cons_succ]
            simp only [wpSq, List.drop_succ_cons, List.drop_zero]
            go_wp2_with (first | (at_builtin; refine wpList_app elB (o := ⟨some 44, _, _, _, _, _⟩) rfl rfl (n := acc.length) (World.ownsRow.alloc HO1'.out _) rfl (w0 := w) (HB1'.out.alloc hsz1 _) (reads_new w1.drew 5 [bv 92, bv 120, bv (hexd H), bv (hexd L)]) rfl (by simp [bv, Value.oneCell']) (by simp; omega) (by decide) (by simp; omega) ?_; intro v9 w9 HO9 HB9 HG9; clear HG9) | fail)
            refine NoPanic.normal ?_
            go_wp2
            go_roundw
            case rel => exact ⟨k + 1, acc ++ [92, 120, hexd H, hexd L], by omega, by go_num, by simp; omega, hacc2, by simpa [bv] using HO9, HB9⟩
            case measure => simp [intOf]; omega
          · have c126 : (126 : Int) < (s[k].toNat : Int) := by omega
            go_wp2_with fail
            refine (HL.out _).mono ?_
            rintro e w1 ⟨rfl, hb⟩
            have hz1 : w.heap.size ≤ w1.heap.size := Nat.le_trans hz0 hb.size
            go_wp2_with fail
            have HO1' : Hid (w1.drew.ownsRow w.heap.size 5 1 (.slice A acc.length c) acc.length (acc.map bv)) := Lib.hid (own_below hO.out hb.drew)
            have HB1' : Hid (Below w.heap.size w w1.drew) := Lib.hid ((hB.out.trans (hb.mono hz0)).drew)
            obtain ⟨H, s1, hH, hH'⟩ : ∃ H : Nat, (s[k].toNat : Int) / 16 = (H : Int) ∧ H < 16 ∧ Hid (s[k].toNat / 16 = H) := ⟨s[k].toNat / 16, by omega, by omega, rfl⟩
            obtain ⟨L, s2, hL, hL'⟩ : ∃ L : Nat, bits .and .u8 (s[k].toNat : Int) 15 = (L : Int) ∧ L < 16 ∧ Hid (s[k].toNat % 16 = L) := ⟨s[k].toNat % 16, and15 s[k], by omega, rfl⟩
            have hacc2 : Hid (acc ++ [92, 120, hexd H, hexd L] = 34 :: ((bytes s).take (k + 1)).flatMap q1) := Lib.hid (by rw [← hH'.out, ← hL'.out]; exact hacc.out)
            have HIH := Lib.hid (fun W => idxhex W H hH)
            have HIL := Lib.hid (fun W => idxhex W L hL)
            have hsz1 : w.heap.size ≤ w1.drew.heap.size := hz1
            clear hacc hL' hH' HD1 HD2 c1
            refine wp_region_sq 8 [(0, true), (1, true), (2, true), (3, true), (4, true), (5, true), (6, true), (7, false)] (fun _ => True) (by kernel_rfl) (by kernel_rfl) trivial (fun hS => ?_)
            iterate 3 (refine sq_t (o := ⟨_, _, _, _, _, _⟩) (v := ?_) rfl (by rfl) ?_ ?_; rotate_left; (· (intro w hSw; (try dsimp only at hSw); go_simp; try with_reducible rfl)); try simp only [Act.put, List.setIfInBounds_toArray, List.set_cons_zero, List.set_cons_succ])
            refine sq_t (o := ⟨_, _, _, _, _, _⟩) (v := .int .u8 ((hexd H).toNat : Int)) rfl (by rfl) (fun w' _ => by have h := HIH.out w'; simp [execOp, Act.eval, h]) ?_
            try simp only [Act.put, List.setIfInBounds_toArray, List.set_cons_zero, List.set_cons_succ]
            iterate 2 (refine sq_t (o := ⟨_, _, _, _, _, _⟩) (v := ?_) rfl (by rfl) ?_ ?_; rotate_left; (· (intro w hSw; (try dsimp only at hSw); go_simp; try with_reducible rfl)); try simp only [Act.put, List.setIfInBounds_toArray, List.set_cons_zero, List.set_cons_succ])
            refine sq_t (o := ⟨_, _, _, _, _, _⟩) (v := .int .u8 ((hexd L).toNat : Int)) rfl (by rfl) (fun w' _ => by have h := HIL.out w'; simp [execOp, Act.eval, h]) ?_
            try simp only [Act.put, List.setIfInBounds_toArray, List.set_cons_zero, List.set_cons_succ]
            refine sq_c rfl (fun K hK => ?_)
            go_simp
            refine hK.out _ _ trivial (fun hS => ?_)
            clear hK K
            try simp only [Act.put, List.setIfInBounds_toArray, List.set_cons_zero, List.set_cons_succ]
            simp only [wpSq, List.drop_succ_cons, List.drop_zero]
            go_wp2_with (first | (at_builtin; refine wpList_app elB (o := ⟨some 44, _, _, _, _, _⟩) rfl rfl (n := acc.length) (World.ownsRow.alloc HO1'.out _) rfl (w0 := w) (HB1'.out.alloc hsz1 _) (reads_new w1.drew 5 [bv 92, bv 120, bv (hexd H), bv (hexd L)]) rfl (by simp [bv, Value.oneCell']) (by simp; omega) (by decide) (by simp; omega) ?_; intro v9 w9 HO9 HB9 HG9; clear HG9) | fail)
            refine NoPanic.normal ?_
            go_wp2
            go_roundw
            case rel => exact ⟨k + 1, acc ++ [92, 120, hexd H, hexd L], by omega, by go_num, by simp; omega, hacc2, by simpa [bv] using HO9, HB9⟩
            case measure => simp [intOf]; omega
        · have hq := Lib.hid (q1_plain hl c1)
          have hacc : Hid (acc ++ [s[k]] = 34 :: ((bytes s).take (k + 1)).flatMap q1) := Lib.hid (by rw [HF.out, hq.out, hA.out]; simp)
          have c32 : ¬ (s[k].toNat : Int) < 32 := by omega
          have c126 : ¬ (126 : Int) < (s[k].toNat : Int) := by omega
          clear hl hgk HF hq
          go_wp2_with fail
          refine (HL.out _).mono ?_
          rintro e w1 ⟨rfl, hb⟩
          have hz1 : w.heap.size ≤ w1.heap.size := Nat.le_trans hz0 hb.size
          go_wp2_with (first | (at_builtin; refine wpList_app elB (o := ⟨some 48, _, _, _, _, _⟩) rfl rfl (n := acc.length) (World.ownsRow.alloc (own_below hO.out hb) _) rfl (w0 := w) ((hB.out.trans (hb.mono hz0)).alloc hz1 _) (reads_new w1 5 [bv s[k]]) rfl (by simp [bv, Value.oneCell']) (by simp; omega) (by decide) (by simp; omega) ?_; intro v9 w9 HO9 HB9 HG9; clear HG9) | fail)
          go_roundw
          case rel => exact ⟨k + 1, acc ++ [s[k]], by omega, by go_num, by simp; omega, hacc, by simpa [bv] using HO9, HB9⟩
          case measure => simp [intOf]; omega
      · have hq := Lib.hid (q1_let hl)
        have hpos : (0 : Int) < ((letL s[k]).toNat : Int) := by
          have : (letL s[k]).toNat ≠ 0 := fun e => hl (UInt8.toNat_inj.1 e)
          omega
        have hacc : Hid (acc ++ [92, letL s[k]] = 34 :: ((bytes s).take (k + 1)).flatMap q1) := Lib.hid (by rw [HF.out, hq.out, hA.out]; simp)
        generalize letL s[k] = l at *
        clear hl hgk HF hq
        go_wp2_with fail
        refine (HL.out _).mono ?_
        rintro e w1 ⟨rfl, hb⟩
        have hz1 : w.heap.size ≤ w1.heap.size := Nat.le_trans hz0 hb.size
        go_wp2_with (first | (at_builtin; refine wpList_app elB (o := ⟨some 29, _, _, _, _, _⟩) rfl rfl (n := acc.length) (World.ownsRow.alloc (own_below hO.out hb) _) rfl (w0 := w) ((hB.out.trans (hb.mono hz0)).alloc hz1 _) (reads_new w1 5 [bv 92, bv l]) rfl (by simp [bv, Value.oneCell']) (by simp; omega) (by decide) (by simp; omega) ?_; intro v9 w9 HO9 HB9 HG9; clear HG9) | fail)
        go_roundw
        case rel => exact ⟨k + 1, acc ++ [92, l], by omega, by go_num, by simp; omega, hacc, by simpa [bv] using HO9, HB9⟩
        case measure => simp [intOf]; omega
    · have hfin : Hid (acc ++ [34] = quoteL (bytes s)) := Lib.hid (by
        have hk' : k = s.size := by omega
        rw [hA.out, hk', bytes_full, quoteL]; rfl)
      go_wp2_with (first | (at_builtin; refine wpList_app elB (o := ⟨some 52, _, _, _, _, _⟩) rfl rfl (n := acc.length) (World.ownsRow.alloc hO.out _) rfl (w0 := w) (hB.out.alloc hz0 _) (reads_new wr 5 [bv 34]) rfl (by simp [bv, Value.oneCell']) (by simp; omega) (by decide) (by simp; omega) ?_; intro v9 w9 HO9 HB9 HG9; clear HG9; obtain ⟨A9, c9, rfl, -⟩ := own_shape HO9.out; have hcv := run_string_own (l := acc ++ [34]) (A := A9) (c := c9) (base := w.heap.size) (w := w9) (by have := HO9.out; simpa using this); simp only [List.length_append, List.length_cons, List.length_nil] at hcv) | fail)
      go_ret
      exact ⟨by rw [← hfin.out]; rfl, HB9.out⟩
end Go.Proofs.YtfcegalckjeafaaGreatDoor
namespace Go.Proofs.YtfcegalckjeafaaGreatDoor
open Go.RowKit Go.BigFrame
/-- How a thing stands in memory: so many cells. -/
structure Enc (α : Type) where
  l : α → List Value
  sz : Nat
  len : ∀ a, (l a).length = sz
  one : ∀ a, ∀ u ∈ l a, u.oneCell' = true
namespace Enc
variable {α : Type} (E : Enc α)
def fl (xs : List α) : List Value := xs.flatMap E.l
theorem fl_app (a b : List α) : E.fl (a ++ b) = E.fl a ++ E.fl b := by simp [fl]
theorem fl_cons (a : α) (b : List α) : E.fl (a :: b) = E.l a ++ E.fl b := by simp [fl]
theorem fl_one (xs : List α) : ∀ u ∈ E.fl xs, u.oneCell' = true := by
  intro u hu
  simp only [fl, List.mem_flatMap] at hu
  obtain ⟨v, _, h⟩ := hu
  exact E.one v u h
theorem fl_take (xs : List α) (k : Nat) : (E.fl xs).take (k * E.sz) = E.fl (xs.take k) := by
  induction xs generalizing k with
  | nil => simp [fl]
  | cons v vs ih =>
    cases k with
    | zero => simp [fl]
    | succ k =>
      have := ih k
      rw [List.take_succ_cons, fl_cons, fl_cons, show (k + 1) * E.sz = (E.l v).length + k * E.sz by rw [E.len, Nat.add_mul]; omega, List.take_length_add_append, this]
theorem fl_drop (xs : List α) (k : Nat) : (E.fl xs).drop (k * E.sz) = E.fl (xs.drop k) := by
  induction xs generalizing k with
  | nil => simp [fl]
  | cons v vs ih =>
    cases k with
    | zero => simp [fl]
    | succ k =>
      have := ih k
      rw [List.drop_succ_cons, fl_cons, show (k + 1) * E.sz = (E.l v).length + k * E.sz by rw [E.len, Nat.add_mul]; omega, List.drop_length_add_append, this]
theorem fl_at (xs : List α) (k j : Nat) (v : α) (h : xs[k]? = some v) (hj : j < E.sz) : (E.fl xs)[k * E.sz + j]? = (E.l v)[j]? := by
  have h1 : (E.fl xs)[k * E.sz + j]? = ((E.fl xs).drop (k * E.sz))[j]? := by rw [List.getElem?_drop]
  rw [h1, fl_drop]
  obtain ⟨hk, e⟩ := List.getElem?_eq_some_iff.1 h
  rw [List.drop_eq_getElem_cons hk, e, fl_cons, List.getElem?_append_left (by rw [E.len]; exact hj)]
theorem splice_fl {xs : List α} {k : Nat} {v : α} (hk : k < xs.length) : splice (E.fl xs) (k * E.sz) (E.l v) = E.fl (xs.set k v) := by
  simp only [splice]
  rw [fl_take, show k * E.sz + (E.l v).length = (k + 1) * E.sz by rw [E.len, Nat.add_mul]; omega, fl_drop, List.set_eq_take_append_cons_drop, if_pos hk, fl_app, fl_cons]
theorem cells {w : World} {S : Nat → Prop} {A : Option Addr} {n k : Nat} {xs : List α} {v : α} (h : Reads w S E.sz A n (E.fl xs)) (hv : xs[k]? = some v) (hn : k < n) : ∃ ad, A = some ad ∧ S ad.block ∧ ∀ j u, (E.l v)[j]? = some u → w.cell? ((ad.add (k * E.sz)).add j) = some u := by
  obtain ⟨ad, e, hs, hc⟩ := h.2 (by omega)
  refine ⟨ad, e, hs, fun j u hu => ?_⟩
  rw [add_of_add]
  refine hc _ u ?_
  rw [E.fl_at xs k j v hv (by have := (List.getElem?_eq_some_iff.1 hu).1; rwa [E.len] at this), hu]
end Enc
/-- A struct in a box. -/
def EB {α : Type} (E : Enc α) (t : TypeId) (w : World) (g : Nat) (x : α) : Prop := Blk w g t (E.l x).toArray
/-- A whole struct is stored. -/
theorem wpList_stE {α : Type} {E : Enc α} {ty : Nat} {ops : Array Oper} {rest : List Oper} {o : Oper} {a : Act} {w : World} {Q : Exit → Act → World → Prop} (hgd : o.guard = none) {p x : Operand} (ho : o.op = .store ty p x) (hi : (Tryz.prog.info? ty).map (·.size) = some E.sz)
    {g t : Nat} (hp : a.eval p = .pointer (some ⟨g, 0, none⟩)) (v : α) {cur : Array Value} (hg : Blk w g t cur) (hcur : cur.size = E.sz) (hx : a.eval x = .agg (E.l v).toArray)
    (h : ∀ w', Hid (EB E t w' g v) → (∀ k, k ≠ g → w'.heap[k]? = w.heap[k]?) → (∀ B w0, Below B w0 w → B ≤ g → Below B w0 w') → wpList Tryz.prog ops Q rest (a.put o.dst undef) w') : wpList Tryz.prog ops Q (o :: rest) a w :=
  wpList_store_row hgd ty p x ho g hp (E.l v).toArray hx _ _ hg (by rw [hi]; simp [E.len]) (by rw [hcur]; simp [E.len]) (by
    rw [Array.all_eq_true_iff_forall_mem]; intro u hu; exact E.one v u (by simpa using hu)) h
end Go.Proofs.YtfcegalckjeafaaGreatDoor
namespace Go.Proofs.YtfcegalckjeafaaGreatDoor
open Go.RowKit Go.BigFrame
theorem blk_type {w : World} {g : Nat} {t t' : TypeId} {c c' : Array Value} (h : Blk w g t c) (h' : Blk w g t' c') : t = t' := by
  have := (show w.heap[g]? = _ from h).symm.trans h'
  simp at this
  exact this.2
/-- The table of all signs. -/
def SgT (w : World) : Prop := ∀ j u, (signsL.map sv)[j]? = some u → w.cell? ((⟨0, 0, none⟩ : Addr).add j) = some u
theorem SgT.below {B : Nat} {w w' : World} (h : SgT w) (hb : Below B w w') (hB : 0 < B) : SgT w' := fun j u hu => (hb.cell (by rw [block_of_add]; exact hB)).trans (h j u hu)
theorem agg_list {ty : Nat} {cs : List Value} (hagg : ∀ w, (isAgg ty).run Tryz.prog w = .ok true w) (hs : (Tryz.prog.info? ty).map (·.size) = some cs.length) {w : World} {ad : Addr} (hc : ∀ j u, cs[j]? = some u → w.cell? (ad.add j) = some u) : (loadVar ty ad).run Tryz.prog w = .ok (.agg cs.toArray) w := by
  have hl := run_loadCells_list (P := Tryz.prog) w ad cs hc
  cases hq : Tryz.prog.info? ty with
  | none => rw [hq] at hs; cases hs
  | some i =>
    have hs' : i.size = cs.length := by simpa [hq] using hs
    simp [loadVar, Sem.run_bind, hagg, sizeOf, typeInfo, hq, hs', hl]
theorem wpList_lda {ops : Array Oper} {rest : List Oper} {o : Oper} {a : Act} {w : World} {Q : Exit → Act → World → Prop} (hgd : o.guard = none) {ty : Nat} {p : Operand} (ho : o.op = .load ty p) {ad : Addr} (hp : a.eval p = .pointer (some ad))
    (cs : List Value) (hagg : ∀ w, (isAgg ty).run Tryz.prog w = .ok true w) (hs : (Tryz.prog.info? ty).map (·.size) = some cs.length) (hc : ∀ j u, cs[j]? = some u → w.cell? (ad.add j) = some u) (hK : wpList Tryz.prog ops Q rest (a.put o.dst (.agg cs.toArray)) w) : wpList Tryz.prog ops Q (o :: rest) a w :=
  wpList_plain hgd fun _ hK' => by
    unfold Oper.wp execOp
    simp only [ho, hp]
    simp only [Instr.loadAt, Instr.sureAddr, Sem.run_bind, Sem.run_pure, Result.andThen_ok, agg_list hagg hs hc]
    exact hK' _ _ hK
def signsV : Value := .agg #[.string ⟨#[46, 46]⟩, .string ⟨#[61, 61]⟩, .string ⟨#[33, 61]⟩, .string ⟨#[60, 61]⟩, .string ⟨#[62, 61]⟩, .string ⟨#[38, 38]⟩, .string ⟨#[124, 124]⟩, .string ⟨#[91]⟩, .string ⟨#[93]⟩, .string ⟨#[123]⟩, .string ⟨#[125]⟩, .string ⟨#[60]⟩, .string ⟨#[62]⟩, .string ⟨#[40]⟩, .string ⟨#[41]⟩, .string ⟨#[44]⟩, .string ⟨#[58]⟩, .string ⟨#[46]⟩, .string ⟨#[42]⟩, .string ⟨#[63]⟩, .string ⟨#[33]⟩, .string ⟨#[36]⟩, .string ⟨#[64]⟩]
theorem signs_eq : (.agg (signsL.map sv).toArray : Value) = signsV := rfl
theorem agg193 (w : World) : (isAgg 193).run Tryz.prog w = .ok true w := by kernel_rfl
theorem size193 : (Tryz.prog.info? 193).map (·.size) = some (signsL.map sv).length := by kernel_rfl
theorem idxsign (W : World) : ∀ n : Nat, n < 23 → (Instr.index 193 signsV (.int .i64 (n : Int))).run Tryz.prog W = .ok (sv (signsL.getD n [])) W
  | 0, _ => by kernel_rfl
  | 1, _ => by kernel_rfl
  | 2, _ => by kernel_rfl
  | 3, _ => by kernel_rfl
  | 4, _ => by kernel_rfl
  | 5, _ => by kernel_rfl
  | 6, _ => by kernel_rfl
  | 7, _ => by kernel_rfl
  | 8, _ => by kernel_rfl
  | 9, _ => by kernel_rfl
  | 10, _ => by kernel_rfl
  | 11, _ => by kernel_rfl
  | 12, _ => by kernel_rfl
  | 13, _ => by kernel_rfl
  | 14, _ => by kernel_rfl
  | 15, _ => by kernel_rfl
  | 16, _ => by kernel_rfl
  | 17, _ => by kernel_rfl
  | 18, _ => by kernel_rfl
  | 19, _ => by kernel_rfl
  | 20, _ => by kernel_rfl
  | 21, _ => by kernel_rfl
  | 22, _ => by kernel_rfl
  | n + 23, h => by omega
def Tok.l (t : Tok) : List Value := [.int .i64 t.k, .int .i64 t.a, .int .i64 t.e, .int .i64 t.i, sv t.t]
def Tok.v (t : Tok) : Value := .agg #[.int .i64 t.k, .int .i64 t.a, .int .i64 t.e, .int .i64 t.i, .string ⟨t.t.toArray⟩]
def Tok.z : Tok := ⟨0, 0, 0, 0, []⟩
/-- A token, or an error at a place. -/
def NextOut (R : Tok ⊕ (Nat × Int)) (w : World) (e : Ending) (w' : World) : Prop := Below w.heap.size w w' ∧ match R with
  | .inl t => e = .returned (.tuple #[t.v, .nilIface])
  | .inr r => ∃ v, e = .returned (.tuple #[Tok.z.v, v]) ∧ ErrAt w' v r.1 r.2
theorem isTok : structB 93 5 = true := by kernel_rfl
def eTk : Enc Tok := ⟨Tok.l, 5, fun _ => rfl, fun s u hu => by
  simp only [Tok.l, List.mem_cons, List.not_mem_nil, or_false] at hu
  rcases hu with rfl | rfl | rfl | rfl | rfl <;> rfl⟩
theorem infoTk : (Tryz.prog.info? 93).map (·.size) = some 5 := by kernel_rfl
/-- The token of a sign. -/
def signTok (l : List UInt8) (p : Nat) : Tok ⊕ (Nat × Int) := match signsL.find? (fun x => x.isPrefixOf l) with
  | some x => .inl ⟨1, p, (p + x.length : Nat), 0, x⟩
  | none => .inr (p, 2)
theorem pre_iff (s : ByteArray) (p : Nat) (x : List UInt8) : x.isPrefixOf ((bytes s).drop p) = true ↔ p + x.length ≤ max p s.size ∧ (s.extract p (p + x.length)).toList = x := by
  rw [Lib.extract_toList, List.isPrefixOf_iff_prefix, Nat.add_sub_cancel_left]
  constructor
  · intro h
    have h1 := h.length_le
    rw [List.length_drop, bytes_len] at h1
    exact ⟨by omega, (List.prefix_iff_eq_take.1 h).symm⟩
  · rintro ⟨_, h⟩
    exact List.prefix_iff_eq_take.2 h.symm
set_option maxRecDepth 100000 in
set_option maxHeartbeats 8000000 in
theorem sign_any (s : ByteArray) (p : Nat) (w : World) (hp : p ≤ s.size) (hs : s.size ≤ 1000000000) (hT : SgT w) (hg : 0 < w.heap.size) :
    Calls Tryz.prog 97 #[.string s, .int .i64 p] w (NextOut (signTok ((bytes s).drop p) p) w) := by
  obtain ⟨R, hR⟩ : ∃ R, R = signTok ((bytes s).drop p) p := ⟨_, rfl⟩
  rw [← hR]
  have HR := Lib.hid hR
  have HT := Lib.hid hT
  clear hR hT
  go_enter Tryz.func97, Tryz.ntmps97
  go_wp2_with (first
    | (refine wpList_lda (o := ⟨some 9, _, _, _, _, _⟩) rfl rfl (ad := ⟨0, 0, none⟩) rfl (signsL.map sv) agg193 size193 (HT.out.below ((Below.refl _ _).alloc (Nat.le_refl _) _) hg) ?_; rw [signs_eq])
    | fail)
  go_loopw [10] (fun i wr => ∃ k : Nat, k ≤ 23 ∧ i = .int .i64 k ∧ Hid (∀ j, j < k → (signsL.getD j []).isPrefixOf ((bytes s).drop p) = false) ∧ Hid (Below w.heap.size w wr ∧ Blk wr w.heap.size 93 (Tok.l Tok.z).toArray)) (fun i _ => (23 - intOf i).toNat)
  case atStart => exact ⟨0, Nat.zero_le _, rfl, fun j h => absurd h (Nat.not_lt_zero _), (Below.refl _ _).alloc (Nat.le_refl _) _, Blk.new _ _ _⟩
  case round =>
    obtain ⟨k, hk, rfl, hF, hB⟩ := hrel
    by_cases hlt : k < 23
    · have HI := Lib.hid (fun W => idxsign W k hlt)
      obtain ⟨xb, hxb⟩ : ∃ xb : ByteArray, xb = ⟨(signsL.getD k []).toArray⟩ := ⟨_, rfl⟩
      have hmem : signsL[k]? = some (signsL.getD k []) := by
        rw [List.getD_eq_getElem?_getD]
        have : k < signsL.length := hlt
        rw [List.getElem?_eq_getElem this]; rfl
      have hx1 : xb.size = (signsL.getD k []).length := by rw [hxb, size_mk]
      have hx2 : xb.toList = signsL.getD k [] := by rw [Lib.toList_data, hxb]
      have hx0 : xb.size ≤ 2 := by
        rw [hx1]
        exact (by decide : ∀ x ∈ signsL, x.length ≤ 2) _ (List.mem_of_getElem? hmem)
      have hsv : sv (signsL.getD k []) = .string xb := by rw [hxb]; rfl
      rw [hsv] at HI
      have HX := Lib.hid (pre_iff s p (signsL.getD k []))
      rw [← hx1, ← hx2] at HX
      have hki : (k : Int) < 23 := by omega
      by_cases hpre : xb.toList.isPrefixOf ((bytes s).drop p) = true
      · obtain ⟨q1, q2⟩ := HX.out.1 hpre
        have hle : p + xb.size ≤ s.size := by omega
        have hRR : Hid (R = .inl ⟨1, p, (p + xb.size : Nat), 0, xb.toList⟩) := Lib.hid (by
          rw [HR.out, signTok, show signsL.find? (fun x => x.isPrefixOf ((bytes s).drop p)) = some (signsL.getD k []) from ?_, hx1, hx2]
          rw [List.find?_eq_some_iff_getElem]
          refine ⟨by rw [← hx2]; exact hpre, k, hlt, ?_, fun j hj => ?_⟩
          · have := (List.getElem?_eq_some_iff.1 hmem).2; exact this
          · have := hF.out j hj
            have hj' : j < signsL.length := Nat.lt_trans hj hlt
            rw [List.getD_eq_getElem?_getD, List.getElem?_eq_getElem hj', Option.getD_some] at this
            simp only [this]; rfl)
        have hi1 : (p : Int) + (xb.size : Int) ≤ (s.size : Int) := by omega
        have hz3 : ((p : Int) + (xb.size : Int)).toNat = p + xb.size := by omega
        have hI := HI.out wr
        have hq2 : ((s.extract p (p + xb.size)).toList == xb.toList) = true := by rw [q2]; exact beq_self_eq_true _
        have HBW := Lib.hid hB.out.1
        have HBO := Lib.hid hB.out.2
        have hxs : (⟨xb.toList.toArray⟩ : ByteArray) = xb := by rw [Lib.toList_data]
        have HXS := Lib.hid hxs
        clear hpre q1 q2 HX hF HI hmem hx1 hx2 hxb hsv hB hxs
        go_wp2_with (first
          | (refine wpList_stE (E := eTk) rfl rfl infoTk rfl ⟨1, p, (p + xb.size : Nat), 0, xb.toList⟩ HBO.out rfl (by simp only [eTk, Tok.l, sv, HXS.out]; simp [Act.eval]) ?_; intro w8 HR8 ho8 hB8)
          | fail)
        exact ret_ct (p := 4) (u := 5) rfl rfl rfl HR8.out (by kernel_rfl) rfl ⟨hB8 _ _ HBW.out (Nat.le_refl _), by rw [hRR.out]; rfl⟩
      · have hnot : ¬ (p + xb.size ≤ s.size ∧ (s.extract p (p + xb.size)).toList = xb.toList) := fun ⟨a, b⟩ => hpre (HX.out.2 ⟨by omega, b⟩)
        have hI := HI.out wr
        have hnext : Hid (∀ j, j < k + 1 → (signsL.getD j []).isPrefixOf ((bytes s).drop p) = false) := Lib.hid fun j hj => by
          rcases Nat.lt_or_ge j k with h | h
          · exact hF.out j h
          · obtain rfl : j = k := by omega
            rw [← hx2]; exact Bool.eq_false_iff.2 hpre
        clear HX hF HI hmem hx1 hx2 hxb hsv hpre
        by_cases hle : p + xb.size ≤ s.size
        · have hq2 : ((s.extract p (p + xb.size)).toList == xb.toList) = false := by
            rw [Bool.eq_false_iff]
            intro h
            exact hnot ⟨hle, by simpa using h⟩
          have hi1 : (p : Int) + (xb.size : Int) ≤ (s.size : Int) := by omega
          have hz3 : ((p : Int) + (xb.size : Int)).toNat = p + xb.size := by omega
          clear hnot
          go_wp2
          go_roundw
          case rel => exact ⟨k + 1, by omega, by go_num, hnext, hB⟩
          case measure => simp [intOf]; omega
        · have hi1 : ¬ (p : Int) + (xb.size : Int) ≤ (s.size : Int) := by omega
          clear hnot
          go_wp2
          go_roundw
          case rel => exact ⟨k + 1, by omega, by go_num, hnext, hB⟩
          case measure => simp [intOf]; omega
    · obtain rfl : k = 23 := by omega
      have hRR : Hid (R = .inr (p, 2)) := Lib.hid (by
        rw [HR.out, signTok, show signsL.find? (fun x => x.isPrefixOf ((bytes s).drop p)) = none from ?_]
        rw [List.find?_eq_none]
        intro x hx
        obtain ⟨j, hj, e⟩ := List.mem_iff_getElem.1 hx
        have := hF.out j hj
        rw [List.getD_eq_getElem?_getD, List.getElem?_eq_getElem hj, Option.getD_some] at this
        rw [← e, this]
        exact Bool.false_ne_true)
      clear hF
      have HBW := Lib.hid hB.out.1
      have HBO := Lib.hid hB.out.2
      clear hB
      go_wp2_with fail
      refine (new_err 2 _ wr (by decide)).mono ?_
      rintro e w9 ⟨v, rfl, hv, hb⟩
      have HV := Lib.hid hv
      have HB9 := Lib.hid (HBW.out.trans (hb.mono HBW.out.size))
      have HO9 := Lib.hid (HBO.out.below hb HBO.out.lt)
      clear hv hb HBW HBO
      go_wp2_with (refine wpList_stE (E := eTk) rfl rfl infoTk rfl Tok.z HO9.out rfl rfl ?_; intro w8 HR8 ho8 hB8)
      refine ret_ct (p := 4) (u := 5) rfl rfl rfl HR8.out (by kernel_rfl) rfl ⟨hB8 _ _ HB9.out (Nat.le_refl _), ?_⟩
      rw [hRR.out]
      obtain ⟨h1, b, h2, h3⟩ := HV.out
      refine ⟨v, rfl, h1, b, h2, (ho8 b (fun e => ?_)).trans h3⟩
      rw [e] at h3
      exact absurd (blk_type h3 HO9.out) (by decide)
end Go.Proofs.YtfcegalckjeafaaGreatDoor
namespace Go.Proofs.YtfcegalckjeafaaGreatDoor
open Go.RowKit Go.ChangeShapes Go.WideShapes
abbrev lexLaid : List (String × DataW Unit) := [("math/bits.deBruijn32tab", Rows.laid_math_bits_deBruijn32tab), ("placket/lex.signs", Rows.laid_placket_lex_signs)]
theorem ownGo : ownKnob Tryz.prog.godebug = none := by kernel_rfl
theorem laidOut : laidOutB Tryz.prog = true := by kernel_rfl
theorem gSg : Tryz.prog.globalNamed "placket/lex.signs" = some 0 := by kernel_rfl
theorem tSg : (Tryz.prog.globals[0]?).map (·.type) = some 193 := by kernel_rfl
theorem sg_data : (Rows.laid_placket_lex_signs : DataW Unit) = .agg (signsL.map fun t => .lit (.string t)) := rfl
theorem signs_of_laid {W : World} (h : laidMetH Tryz.prog lexLaid W) : SgT W ∧ 0 < W.heap.size := by
  rw [MakeChecks.laidMetH_plain _ _ _ (by kernel_rfl)] at h
  obtain ⟨ps, ⟨_, _, _, _, _, _, _, _, _, _, ⟨g0, t0, cs0, f0, p0, q0, hg0, ht0, hv0, hd0, _, _⟩, _⟩, _, _⟩ := h
  obtain rfl := Option.some.inj (gSg.symm.trans hg0)
  obtain rfl := Option.some.inj (tSg.symm.trans ht0)
  obtain ⟨xs, m, rfl, hx, hlen, hn, hel⟩ := DataW.trod_array Tryz.underlying193 hd0
  have c1 : Tryz.prog.cellsOf 9 = 1 := by kernel_rfl
  have hT : SgT W := by
    intro j u hu
    have hj : j < 23 := by have := (List.getElem?_eq_some_iff.1 hu).1; simpa [signsL] using this
    have hxj : j < xs.length := by omega
    have h0 := hel j hj
    rw [c1, Nat.mul_one, List.getElem?_eq_getElem hxj] at h0
    obtain ⟨k, e1, e2, _⟩ := DataW.trod_string Tryz.underlying9 h0
    have hx1 := congrArg Prod.fst hx
    rw [sg_data] at hx1
    simp only [DataW.agg.injEq] at hx1
    have hx2 := congrArg (·[j]?) hx1
    simp only [List.getElem?_map, List.getElem?_eq_getElem hxj, Option.map_some, e2] at hx2
    rw [addr_plain, World.var?_cell hg0 hv0 j]
    have hc : cs0.toList[j]? = some (.string k) := by
      have := congrArg (·[0]?) e1
      simpa using this
    rw [Array.getElem?_toList] at hc
    rw [hc]
    rw [List.getElem?_map] at hu
    cases hs : signsL[j]? with
    | none => rw [hs] at hu; cases hu
    | some s =>
      rw [hs] at hu hx2
      simp only [Option.map_some, Option.some.injEq, DataW.lit.injEq, Lit.string.injEq] at hx2 hu
      rw [← hu, hx2]
      simp [sv]
  refine ⟨hT, ?_⟩
  have := hT 0 _ rfl
  unfold World.cell? at this
  cases hh : W.heap[0]? with
  | none => simp [Addr.add, hh] at this
  | some o => exact (Array.getElem?_eq_some_iff.1 hh).1
theorem door_met (os : Os) (args : Array Value) : laidMetH Tryz.prog lexLaid ((World.doorLaid Tryz.prog 400 os).forCall (fun _ _ => 0) ⟨#[], args, []⟩).memory :=
  laidMetH_of_parts3 (fuel := 8) (laidMet_of_run' 8 (by kernel_rfl) (by kernel_rfl)) (by kernel_rfl) (by kernel_rfl)
end Go.Proofs.YtfcegalckjeafaaGreatDoor
namespace Go.Proofs.YtfcegalckjeafaaGreatDoor
open Go.ChangeShapes Go.WideShapes Go.Deep
section
variable {H : Type} {enc : TypeId × Value → H} {P : Program} {w : World} {base : Nat} {spare : Nat → Bool} {held : Bool}
theorem open_slice_fields {t e : TypeId} {fs : Array Field} {fuel : Nat} {cs : List Value} {x : DataW H × List MemPlace} (ht : P.underlying t = some (.slice e)) (he : P.underlying e = some (.struct fs))
    (hone : oneCellFields P fs = true) (hC : P.cellsOf e = fs.size) (h : DataW.trod enc P w base spare held fuel t cs = some x) :
    (cs = [.slice none 0 0] ∧ x = (.nil, [])) ∨
    ∃ (a : Addr) (len cap m : Nat) (D : Nat → DataW H) (Pl : Nat → List MemPlace), cs = [.slice (some a) len cap] ∧ base ≤ a.block ∧ len ≤ cap ∧ cap ≤ maxLen ∧ m = (if spare a.block then cap else len) ∧
      x = (.slice ((List.range len).map D) ((List.range (m - len)).map fun j => D (len + j)), MemPlace.row a (m * fs.size) ++ (List.range m).flatMap Pl) ∧
      ∀ i, i < m → ∃ (ys : List (DataW H × List MemPlace)) (n : Nat), D i = .agg (ys.map (·.1)) ∧ Pl i = ys.flatMap (·.2) ∧ ys.length = fs.size ∧
        ∀ (j : Nat) (f : Field), fs[j]? = some f → ∃ (v : Value) (y : DataW H × List MemPlace), w.cell? (a.add (i * fs.size + j)) = some v ∧ ys[j]? = some y ∧ DataW.trod enc P w base spare held n f.type [v] = some y := by
  rcases open_slice ht h with h0 | ⟨a, len, cap, m, n, D, Pl, hcs, hb, hl, hm, hmm, hx, hi⟩
  · exact .inl h0
  · refine .inr ⟨a, len, cap, m, D, Pl, hcs, hb, hl, hm, hmm, by rw [hC] at hx; exact hx, fun i him => ?_⟩
    obtain ⟨cs', hc, ht'⟩ := hi i him
    rw [hC] at hc
    obtain ⟨ys, n', hn', hy, hlen, hyl, hf⟩ := DataW.trod_struct he ht'
    obtain ⟨_, hcl, hat⟩ := World.cells?_some hc
    simp only [Prod.mk.injEq] at hy
    refine ⟨ys, n', hy.1, hy.2, hyl, fun j f hj => ?_⟩
    obtain ⟨ho, hk⟩ := hone_of hone j f hj
    have hjl : j < fs.size := (Array.getElem?_eq_some_iff.1 hj).1
    have hcell := hat j hjl
    have hv : cs'[j]? = some (cs'[j]'(by omega)) := List.getElem?_eq_getElem (by omega)
    have h1 := hf j f hj
    rw [ho, hk] at h1
    have hone' : (cs'.drop j).take 1 = [cs'[j]'(by omega)] := by
      rw [List.drop_eq_getElem_cons (by omega)]
      rfl
    rw [hone'] at h1
    have hys : ys[j]? = some (ys[j]'(by omega)) := List.getElem?_eq_getElem (by omega)
    refine ⟨_, _, ?_, hys, h1.trans hys⟩
    rw [← Go.Deep.add_add, hcell, hv]
end
end Go.Proofs.YtfcegalckjeafaaGreatDoor
namespace Go.Proofs.YtfcegalckjeafaaGreatDoor
open Go.RowKit Go.BigFrame
deriving instance DecidableEq for St
set_option maxRecDepth 100000 in
set_option maxHeartbeats 4000000 in
theorem same_any (A B : Option Addr) (c d : Nat) (l m : List St) (w : World) (hl : StepsIn w A l) (hm : StepsIn w B m) (hn : l.length ≤ 9223372036854775807) (_hn2 : m.length ≤ 9223372036854775807) :
    Calls Tryz.prog 17 #[.slice A l.length c, .slice B m.length d] w fun e w' => e = .returned (.bool (decide (l = m))) ∧ Below w.heap.size w w' := by
  have HL := Lib.hid hl
  have HM := Lib.hid hm
  obtain ⟨R, hR⟩ : ∃ R, R = decide (l = m) := ⟨_, rfl⟩
  have HR := Lib.hid hR
  rw [← hR]
  clear hl hm hR
  by_cases hlen : l.length = m.length
  · have hli : ((l.length : Int) == (m.length : Int)) = true := by simp; omega
    go_enter Tryz.func17, Tryz.ntmps17
    go_wp2
    go_loopw [13] (fun i wr => ∃ k : Nat, k ≤ l.length ∧ i = .int .i64 k ∧ Hid (l.take k = m.take k) ∧ Hid (Below w.heap.size w wr)) (fun i _ => (l.length - intOf i).toNat)
    case atStart => exact ⟨0, Nat.zero_le _, rfl, by simp [Hid], Below.refl _ _⟩
    case round =>
      obtain ⟨k, hk, rfl, hE, hB⟩ := hrel
      by_cases hlt : k < l.length
      · obtain ⟨ad, K, I, T, rfl, hx, hc0, hc1, hc2⟩ := (HL.out.below hB.out).at_ hlt
        obtain ⟨bd, K', I', T', rfl, hy, hd0, hd1, hd2⟩ := (HM.out.below hB.out).at_ (k := k) (by omega)
        have HX := Lib.hid hx
        have HY := Lib.hid hy
        have hki : (k : Int) < (m.length : Int) := by omega
        have hkm : k < m.length := by omega
        have HF : Hid ((⟨K, I, T⟩ : St) ≠ ⟨K', I', T'⟩ → R = false) := Lib.hid fun h => by
          rw [HR.out]
          refine decide_eq_false fun e => h ?_
          have e1 := HX.out
          rw [e, HY.out] at e1
          exact (Option.some.inj e1).symm
        have hTb : ((⟨T.toArray⟩ : ByteArray).toList == (⟨T'.toArray⟩ : ByteArray).toList) = decide (T = T') := by rw [Lib.toList_data, Lib.toList_data, Bool.eq_iff_iff]; simp
        have hTe : T = T' → (⟨T.toArray⟩ : ByteArray) = ⟨T'.toArray⟩ := fun e => by rw [e]
        generalize (⟨T.toArray⟩ : ByteArray) = tb at *
        generalize (⟨T'.toArray⟩ : ByteArray) = tb' at *
        clear hx hy
        by_cases q1 : K = K'
        · by_cases q2 : I = I'
          · by_cases q3 : T = T'
            · have hnx : Hid (l.take (k + 1) = m.take (k + 1)) := Lib.hid (by rw [List.take_add_one, List.take_add_one, hE.out, HX.out, HY.out, q1, q2, q3])
              obtain rfl := hTe q3
              subst q1 q2
              clear hTb hTe hE q3
              go_wp2
              go_region
              all_goals go_wp2
              all_goals exact ⟨⟨k + 1, by omega, by go_num, hnx, hB.out.drew⟩, by simp [intOf]; omega⟩
            · subst q1 q2
              have e3 : (tb.toList == tb'.toList) = false := by rw [hTb]; exact decide_eq_false q3
              clear hTb hTe
              go_wp2
              go_region
              all_goals go_wp2
              all_goals go_ret
              all_goals exact ⟨by rw [HF.out (fun e => q3 (by injection e))]; rfl, hB.out.drew⟩
          · subst q1
            have e2 : (I == I') = false := by simpa using q2
            clear hTb hTe
            go_wp2
            go_region
            all_goals go_wp2
            all_goals go_ret
            all_goals exact ⟨by rw [HF.out (fun e => q2 (by injection e))]; rfl, hB.out.drew⟩
        · have e1 : (K == K') = false := by simpa using q1
          clear hTb hTe
          go_wp2
          go_region
          all_goals go_wp2
          all_goals go_ret
          all_goals exact ⟨by rw [HF.out (fun e => q1 (by injection e))]; rfl, hB.out.drew⟩
      · have hX : Hid (R = true) := Lib.hid (by
          rw [HR.out]
          have h1 := hE.out
          rw [List.take_of_length_le (by omega), List.take_of_length_le (by omega)] at h1
          exact decide_eq_true h1)
        go_wp2
        go_ret
        exact ⟨by rw [hX.out]; rfl, hB.out⟩
  · have hli : ((l.length : Int) == (m.length : Int)) = false := by simp; omega
    have hX : Hid (R = false) := Lib.hid (by rw [HR.out]; exact decide_eq_false fun e => hlen (by rw [e]))
    go_enter Tryz.func17, Tryz.ntmps17
    go_wp2
    go_ret
    exact ⟨by rw [hX.out]; rfl, Below.refl _ _⟩
set_option maxRecDepth 100000 in
set_option maxHeartbeats 4000000 in
theorem equal_any (A B : Option Addr) (c d : Nat) (l m : List St) (w : World) (hl : StepsIn w A l) (hm : StepsIn w B m) (hn : l.length ≤ 9223372036854775807) (_hn2 : m.length ≤ 9223372036854775807) :
    Calls Tryz.prog 58 #[.slice A l.length c, .slice B m.length d] w fun e w' => e = .returned (.bool (decide (l = m))) ∧ Below w.heap.size w w' := by
  have HL := Lib.hid hl
  have HM := Lib.hid hm
  obtain ⟨R, hR⟩ : ∃ R, R = decide (l = m) := ⟨_, rfl⟩
  have HR := Lib.hid hR
  rw [← hR]
  clear hl hm hR
  by_cases hlen : l.length = m.length
  · have hli : ((l.length : Int) == (m.length : Int)) = true := by simp; omega
    go_enter Tryz.func58, Tryz.ntmps58
    go_wp2
    go_loopw [13] (fun i wr => ∃ k : Nat, k ≤ l.length ∧ i = .int .i64 k ∧ Hid (l.take k = m.take k) ∧ Hid (Below w.heap.size w wr)) (fun i _ => (l.length - intOf i).toNat)
    case atStart => exact ⟨0, Nat.zero_le _, rfl, by simp [Hid], Below.refl _ _⟩
    case round =>
      obtain ⟨k, hk, rfl, hE, hB⟩ := hrel
      by_cases hlt : k < l.length
      · obtain ⟨ad, K, I, T, rfl, hx, hc0, hc1, hc2⟩ := (HL.out.below hB.out).at_ hlt
        obtain ⟨bd, K', I', T', rfl, hy, hd0, hd1, hd2⟩ := (HM.out.below hB.out).at_ (k := k) (by omega)
        have HX := Lib.hid hx
        have HY := Lib.hid hy
        have hki : (k : Int) < (m.length : Int) := by omega
        have hkm : k < m.length := by omega
        have HF : Hid ((⟨K, I, T⟩ : St) ≠ ⟨K', I', T'⟩ → R = false) := Lib.hid fun h => by
          rw [HR.out]
          refine decide_eq_false fun e => h ?_
          have e1 := HX.out
          rw [e, HY.out] at e1
          exact (Option.some.inj e1).symm
        have hTb : ((⟨T.toArray⟩ : ByteArray).toList == (⟨T'.toArray⟩ : ByteArray).toList) = decide (T = T') := by rw [Lib.toList_data, Lib.toList_data, Bool.eq_iff_iff]; simp
        have hTe : T = T' → (⟨T.toArray⟩ : ByteArray) = ⟨T'.toArray⟩ := fun e => by rw [e]
        generalize (⟨T.toArray⟩ : ByteArray) = tb at *
        generalize (⟨T'.toArray⟩ : ByteArray) = tb' at *
        clear hx hy
        by_cases q1 : K = K'
        · by_cases q2 : I = I'
          · by_cases q3 : T = T'
            · have hnx : Hid (l.take (k + 1) = m.take (k + 1)) := Lib.hid (by rw [List.take_add_one, List.take_add_one, hE.out, HX.out, HY.out, q1, q2, q3])
              obtain rfl := hTe q3
              subst q1 q2
              clear hTb hTe hE q3
              go_wp2
              go_region
              all_goals go_wp2
              all_goals exact ⟨⟨k + 1, by omega, by go_num, hnx, hB.out.drew⟩, by simp [intOf]; omega⟩
            · subst q1 q2
              have e3 : (tb.toList == tb'.toList) = false := by rw [hTb]; exact decide_eq_false q3
              clear hTb hTe
              go_wp2
              go_region
              all_goals go_wp2
              all_goals go_ret
              all_goals exact ⟨by rw [HF.out (fun e => q3 (by injection e))]; rfl, hB.out.drew⟩
          · subst q1
            have e2 : (I == I') = false := by simpa using q2
            clear hTb hTe
            go_wp2
            go_region
            all_goals go_wp2
            all_goals go_ret
            all_goals exact ⟨by rw [HF.out (fun e => q2 (by injection e))]; rfl, hB.out.drew⟩
        · have e1 : (K == K') = false := by simpa using q1
          clear hTb hTe
          go_wp2
          go_region
          all_goals go_wp2
          all_goals go_ret
          all_goals exact ⟨by rw [HF.out (fun e => q1 (by injection e))]; rfl, hB.out.drew⟩
      · have hX : Hid (R = true) := Lib.hid (by
          rw [HR.out]
          have h1 := hE.out
          rw [List.take_of_length_le (by omega), List.take_of_length_le (by omega)] at h1
          exact decide_eq_true h1)
        go_wp2
        go_ret
        exact ⟨by rw [hX.out]; rfl, hB.out⟩
  · have hli : ((l.length : Int) == (m.length : Int)) = false := by simp; omega
    have hX : Hid (R = false) := Lib.hid (by rw [HR.out]; exact decide_eq_false fun e => hlen (by rw [e]))
    go_enter Tryz.func58, Tryz.ntmps58
    go_wp2
    go_ret
    exact ⟨by rw [hX.out]; rfl, Below.refl _ _⟩
end Go.Proofs.YtfcegalckjeafaaGreatDoor
