/-
  Parts of the proof that AddrBegins,AddrTexts calls on: Bd, Lb, Lf, Ts, Tt.
-/
import Derived.LaidHandle
import Derived.Test.YtfcegalckjeafaaGreatDoorM302
import Derived.Test.YtfcegalckjeafaaGreatDoorM306
import Derived.Test.YtfcegalckjeafaaGreatDoorM307
import Derived.Test.YtfcegalckjeafaaGreatDoorM308
import Derived.Test.YtfcegalckjeafaaGreatDoorM324
namespace Go.Proofs.YtfcegalckjeafaaGreatDoor
open Go.RowKit Go.BigFrame
set_option maxRecDepth 100000 in
set_option maxHeartbeats 4000000 in
theorem apart_any (A : Option Addr) (c : Nat) (L : List (List St)) (w : World) (h : AddrsIn w A L) (hn : L.length ≤ 1000) (hs : ∀ l ∈ L, l.length ≤ 1000000) :
    Calls Tryz.prog 26 #[.slice A L.length c] w fun e w' => e = .returned (.bool (apartB L)) ∧ Below w.heap.size w w' := by
  have H := Lib.hid h
  have HS := Lib.hid hs
  obtain ⟨R, hR⟩ : ∃ R, R = apartB L := ⟨_, rfl⟩
  have HR := Lib.hid hR
  rw [← hR]
  clear h hs hR
  go_enter Tryz.func26, Tryz.ntmps26
  go_wp2
  go_step3
  go_wp2_with (apply wp_label)
  go_loopw [9] (fun s wr => ∃ i : Nat, i ≤ L.length ∧ s = .int .i64 i ∧ Hid (ApQ L i 0) ∧ Hid (Below w.heap.size w wr)) (fun s _ => (L.length - intOf s).toNat)
  case atStart => exact ⟨0, Nat.zero_le _, rfl, fun a b u v _ _ _ h => by omega, Below.refl _ _⟩
  case round =>
    obtain ⟨i, hi, rfl, hQ, hB⟩ := hrel
    by_cases hlt : i < L.length
    · obtain ⟨ad, B1, d1, x, rfl, hx, hc1, hd1, hs1⟩ := (H.out.below hB.out).at_ hlt
      have hii : (i : Int) < (L.length : Int) := by omega
      go_wp2
      go_loopw [16] (fun s wq => ∃ k : Nat, k ≤ L.length ∧ s = .int .i64 k ∧ Hid (ApQ L i k) ∧ Hid (Below w.heap.size w wq) ∧ Hid (Below wr.heap.size wr wq)) (fun s _ => (L.length - intOf s).toNat)
      case atStart => exact ⟨0, Nat.zero_le _, rfl, hQ, hB, Below.refl _ _⟩
      case round =>
        obtain ⟨k, hk, rfl, hQ2, hB2, hBr⟩ := hrel
        by_cases hlk : k < L.length
        · obtain ⟨ad', B2, d2, y, e, hy, hc2, hd2, hs2⟩ := (H.out.below hB2.out).at_ hlk
          obtain rfl := Option.some.inj e
          have hkk : (k : Int) < (L.length : Int) := by omega
          have hxn := HS.out x (List.mem_of_getElem? hx)
          have hyn := HS.out y (List.mem_of_getElem? hy)
          by_cases hik : i = k
          · subst hik
            have hQ3 := Lib.hid (hQ2.out.next hx hy (.inl rfl))
            clear hx hy e
            go_wp2
            go_roundw
            case rel => exact ⟨i + 1, by omega, by go_num, hQ3, hB2, hBr⟩
            case measure => simp [intOf]; omega
          · have hne : ((i : Int) == (k : Int)) = false := by simp; omega
            have hik' : ¬ ((i : Int) = (k : Int)) := by omega
            by_cases hlen : x.length ≤ y.length
            · have hle : ¬ (y.length : Int) < (x.length : Int) := by omega
              have HC := Lib.hid (fun W hW => begins_any B1 B2 d1 d2 x y W ((hs1.below hBr.out).below hW) (hs2.below (w' := W) hW) hd2 hxn hyn)
              cases hbg : begB x y with
              | true =>
                have hX : Hid (R = false) := Lib.hid (by rw [HR.out]; exact apart_no hx hy hik hbg)
                rw [hbg] at HC
                go_wp2_with fail
                refine (HC.out _ (Below.refl _ _)).mono ?_
                rintro e1 w4 ⟨rfl, hb4⟩
                have HB4 := Lib.hid (hB2.out.trans (hb4.mono hB2.out.size))
                clear hb4
                go_wp2
                try rw [Exit.noGoto_ret]
                go_ret
                exact ⟨by rw [hX.out]; rfl, HB4.out⟩
              | false =>
                have hQ3 := Lib.hid (hQ2.out.next hx hy (.inr hbg))
                rw [hbg] at HC
                go_wp2_with fail
                refine (HC.out _ (Below.refl _ _)).mono ?_
                rintro e1 w4 ⟨rfl, hb4⟩
                have HB4 := Lib.hid (hB2.out.trans (hb4.mono hB2.out.size))
                have HBr4 := Lib.hid (hBr.out.trans (hb4.mono hBr.out.size))
                clear hb4
                go_wp2
                go_roundw
                case rel => exact ⟨k + 1, by omega, by go_num, hQ3, HB4, HBr4⟩
                case measure => simp [intOf]; omega
            · have hle : (y.length : Int) < (x.length : Int) := by omega
              have hQ3 := Lib.hid (hQ2.out.next hx hy (.inr (by rw [begB, decide_eq_false hlen]; rfl)))
              go_wp2
              go_roundw
              case rel => exact ⟨k + 1, by omega, by go_num, hQ3, hB2, hBr⟩
              case measure => simp [intOf]; omega
        · obtain rfl : k = L.length := by omega
          have hQ3 := Lib.hid hQ2.out.row
          go_wp2
          go_roundw
          case rel => exact ⟨i + 1, by omega, by go_num, hQ3, hB2⟩
          case measure => simp [intOf]; omega
    · obtain rfl : i = L.length := by omega
      have hX : Hid (R = true) := Lib.hid (by rw [HR.out]; exact apart_yes hQ.out)
      go_wp2
      try rw [Exit.noGoto_ret]
      go_ret
      exact ⟨by rw [hX.out]; rfl, hB.out⟩
end Go.Proofs.YtfcegalckjeafaaGreatDoor
namespace Go.Proofs.YtfcegalckjeafaaGreatDoor
open Go.RowKit Go.BigFrame Go.Shelf
theorem short_len {l : List St} (h : shortS l = true) : l.length ≤ 70 ∧ ∀ s ∈ l, s.T.length ≤ 3000 := by
  simp only [shortS, Bool.and_eq_true, List.all_eq_true, decide_eq_true_eq] at h
  exact ⟨h.2, h.1⟩
set_option maxRecDepth 100000 in
set_option maxHeartbeats 8000000 in
theorem addrBegins_any (A B C : Option Addr) (c d e : Nat) (a b : List St) (L : List (List St)) (w : World) (hT : SgT w) (hg : 0 < w.heap.size) (ha : StepsIn w A a) (hb : StepsIn w B b) (hL : AddrsIn w C L) (hac : a.length ≤ c) (hbd : b.length ≤ d) (_hLe : L.length ≤ e)
    (na : a.length ≤ 9223372036854775807) (nb : b.length ≤ 9223372036854775807) (nL : L.length ≤ 9223372036854775807) (nLL : ∀ l ∈ L, l.length ≤ 9223372036854775807) :
    Calls Tryz.prog 6 #[.slice A a.length c, .slice B b.length d, .slice C L.length e] w fun e w' => e = .returned (.bool true) ∧ Below w.heap.size w w' := by
  have LIVE := Lib.hid (fun W (h : Below w.heap.size w W) => live_any W (hT.below h hg) (Nat.lt_of_lt_of_le hg h.size))
  have HA := Lib.hid ha
  have HB := Lib.hid hb
  have HL := Lib.hid hL
  have HNLL := Lib.hid nLL
  have HBD := Lib.hid (show a.length ≤ c ∧ b.length ≤ d from ⟨hac, hbd⟩)
  have SA := Lib.hid (fun W (h : Below w.heap.size w W) => shortS_any A c a W (ha.below h) na)
  have SB := Lib.hid (fun W (h : Below w.heap.size w W) => shortS_any B d b W (hb.below h) nb)
  clear hT ha hb hL nLL hac hbd hg
  obtain ⟨qa, hqa⟩ : ∃ q, q = shortS a := ⟨_, rfl⟩
  obtain ⟨qb, hqb⟩ : ∃ q, q = shortS b := ⟨_, rfl⟩
  rw [← hqa] at SA
  rw [← hqb] at SB
  have HQA := Lib.hid hqa
  have HQB := Lib.hid hqb
  clear hqa hqb
  cases qa with
  | false =>
    go_enter Tryz.func6, Tryz.ntmps6
    go_wp2_with fail
    refine (LIVE.out w (Below.refl _ _)).mono ?_
    rintro e w1 ⟨rfl, hb1⟩
    go_wp2_with fail
    refine (SA.out w1 hb1).mono ?_
    rintro e w2 ⟨rfl, hb2⟩
    have hb2 := hb1.trans (hb2.mono hb1.size)
    go_wp2_with fail
    refine (LIVE.out w2 hb2).mono ?_
    rintro e w3 ⟨rfl, hb3⟩
    go_wp2
    go_ret
    exact ⟨rfl, hb2.trans (hb3.mono hb2.size)⟩
  | true =>
  cases qb with
  | false =>
    go_enter Tryz.func6, Tryz.ntmps6
    go_wp2_with fail
    refine (LIVE.out w (Below.refl _ _)).mono ?_
    rintro e w1 ⟨rfl, hb1⟩
    go_wp2_with fail
    refine (SA.out w1 hb1).mono ?_
    rintro e w2 ⟨rfl, hb2⟩
    have hb2 := hb1.trans (hb2.mono hb1.size)
    go_wp2_with fail
    refine (SB.out w2 hb2).mono ?_
    rintro e w3 ⟨rfl, hb3⟩
    have hb3 := hb2.trans (hb3.mono hb2.size)
    go_wp2_with fail
    refine (LIVE.out w3 hb3).mono ?_
    rintro e w4 ⟨rfl, hb4⟩
    go_wp2
    go_ret
    exact ⟨rfl, hb3.trans (hb4.mono hb3.size)⟩
  | true =>
  by_cases hL30 : (30 : Int) < L.length
  · go_enter Tryz.func6, Tryz.ntmps6
    go_wp2_with fail
    refine (LIVE.out w (Below.refl _ _)).mono ?_
    rintro e w1 ⟨rfl, hb1⟩
    go_wp2_with fail
    refine (SA.out w1 hb1).mono ?_
    rintro e w2 ⟨rfl, hb2⟩
    have hb2 := hb1.trans (hb2.mono hb1.size)
    go_wp2_with fail
    refine (SB.out w2 hb2).mono ?_
    rintro e w3 ⟨rfl, hb3⟩
    have hb3 := hb2.trans (hb3.mono hb2.size)
    go_wp2_with fail
    refine (LIVE.out w3 hb3).mono ?_
    rintro e w4 ⟨rfl, hb4⟩
    go_wp2
    go_ret
    exact ⟨rfl, hb3.trans (hb4.mono hb3.size)⟩
  · go_enter Tryz.func6, Tryz.ntmps6
    go_wp2_with fail
    refine (LIVE.out w (Below.refl _ _)).mono ?_
    rintro e w1 ⟨rfl, hb1⟩
    go_wp2_with fail
    refine (SA.out w1 hb1).mono ?_
    rintro e w2 ⟨rfl, hb2⟩
    have hb2 := hb1.trans (hb2.mono hb1.size)
    go_wp2_with fail
    refine (SB.out w2 hb2).mono ?_
    rintro e w3 ⟨rfl, hb3⟩
    have hB3 := Lib.hid (hb2.trans (hb3.mono hb2.size))
    clear hb1 hb2 hb3 SA SB
    go_wp2_with fail
    go_loopw [29] (fun i wr => ∃ k : Nat, k ≤ L.length ∧ i = .int .i64 k ∧ Hid (∀ l ∈ L.take k, shortS l = true) ∧ Hid (Below w.heap.size w wr)) (fun i _ => (L.length - intOf i).toNat)
    case atStart => exact ⟨0, Nat.zero_le _, rfl, by simp [Hid], hB3⟩
    case round =>
      obtain ⟨k, hk, rfl, hE, hBr⟩ := hrel
      clear hB3
      by_cases hlt : k < L.length
      · have hlk : L[k]? = some L[k] := List.getElem?_eq_getElem hlt
        obtain ⟨ad, rfl, hadl, hcc⟩ := (HL.out.below hBr.out) (by omega)
        obtain ⟨B1, d1, hc1, hd1, hs1⟩ := hcc k _ hlk
        have hnl := HNLL.out _ (List.mem_of_getElem? hlk)
        have hsh := shortS_any B1 d1 L[k] wr hs1 hnl
        have hki : (0 : Int) ≤ (k : Int) := by omega
        have hki2 : (k : Int) < (L.length : Int) := by omega
        obtain ⟨q, hq⟩ : ∃ q, q = shortS L[k] := ⟨_, rfl⟩
        rw [← hq] at hsh
        have HQ := Lib.hid hq
        have HSH := Lib.hid hsh
        have HLK := Lib.hid hlk
        clear hq hsh hs1 hcc hnl hlk
        generalize L[k] = lk at *
        go_wp2_with fail
        refine HSH.out.mono ?_
        rintro e w5 ⟨rfl, hb5⟩
        have hB5 := Lib.hid (hBr.out.trans (hb5.mono hBr.out.size))
        clear HSH hb5 hc1
        cases q with
        | false =>
          go_wp2
          go_ret
          exact ⟨rfl, hB5.out⟩
        | true =>
          have hnx : Hid (∀ l ∈ L.take (k + 1), shortS l = true) := Lib.hid (fun l hl => by
            rw [List.take_add_one, HLK.out] at hl
            simp only [Option.toList_some, List.mem_append, List.mem_singleton] at hl
            rcases hl with hl | rfl
            · exact hE.out l hl
            · exact HQ.out.symm)
          go_wp2_with fail
          exact ⟨⟨k + 1, by omega, by go_num, hnx, hB5⟩, by simp [intOf]; omega⟩
      · have hLs : Hid (∀ l ∈ L, l.length ≤ 1000000) := Lib.hid (fun l hl => by
          have h1 := hE.out
          rw [List.take_of_length_le (by omega)] at h1
          have := (short_len (h1 l hl)).1
          omega)
        have hla := (short_len HQA.out.symm).1
        have hlb := (short_len HQB.out.symm).1
        have H1 := Lib.hid (fun W (h : Below w.heap.size w W) => begins_any A B c d a b W (HA.out.below h) (HB.out.below h) HBD.out.2 (by omega) (by omega))
        have H2 := Lib.hid (fun W (h : Below w.heap.size w W) => rbegins_any A B c d a b W (HA.out.below h) (HB.out.below h) HBD.out.2 (by omega) (by omega))
        have H3 := Lib.hid (fun W (h : Below w.heap.size w W) => apart_any C e L W (HL.out.below h) (by omega) hLs.out)
        have H4 := Lib.hid (fun W (h : Below w.heap.size w W) => rapart_any C e L W (HL.out.below h) (by omega) hLs.out)
        clear hE hLs hla hlb
        generalize begB a b = q1 at *
        generalize apartB L = q2 at *
        go_wp2_with fail
        refine (H1.out wr hBr.out).mono ?_
        rintro e w5 ⟨rfl, hb5⟩
        have hB5 := Lib.hid (hBr.out.trans (hb5.mono hBr.out.size))
        clear hb5 H1
        go_wp2_with fail
        refine (H2.out w5 hB5.out).mono ?_
        rintro e w6 ⟨rfl, hb6⟩
        have hB6 := Lib.hid (hB5.out.trans (hb6.mono hB5.out.size))
        clear hb6 H2
        go_wp2_with fail
        refine (H3.out w6 hB6.out).mono ?_
        rintro e w7 ⟨rfl, hb7⟩
        have hB7 := Lib.hid (hB6.out.trans (hb7.mono hB6.out.size))
        clear hb7 H3
        go_wp2_with fail
        refine (H4.out w7 hB7.out).mono ?_
        rintro e w8 ⟨rfl, hb8⟩
        have hB8 := Lib.hid (hB7.out.trans (hb8.mono hB7.out.size))
        clear hb8 H4
        go_wp2
        go_ret
        exact ⟨rfl, hB8.out⟩
end Go.Proofs.YtfcegalckjeafaaGreatDoor
namespace Go.Proofs.YtfcegalckjeafaaGreatDoor
open Go.RowKit Go.ChangeShapes Go.WideShapes Go.Deep
abbrev texLaid : List (String × DataW Unit) := [("math/bits.deBruijn32tab", Rows.laid_math_bits_deBruijn32tab), ("errors.errorType", Rows.laid_errors_errorType), ("placket/lex.signs", Rows.laid_placket_lex_signs)]
theorem et_ : Tryz.prog.globalNamed "errors.errorType" = some 1 := by kernel_rfl
theorem rt_ : (Tryz.prog.cutTypes.find? (·.1 == "internal/reflectlite.rtype")).map (·.2) = some 260 := by kernel_rfl
theorem oneRow_ : ((List.range 352).filter fun t => Tryz.prog.rowNamed t [101, 114, 114, 111, 114]) = [53] := by kernel_rfl
theorem size_ : Tryz.prog.types.size = 352 := by kernel_rfl
theorem texParts : (texLaid.filter fun x => x.2.handleName?.isSome) = [("errors.errorType", Rows.laid_errors_errorType)] := by kernel_rfl
theorem texParts' : (texLaid.filter fun x => x.2.handleName?.isNone) = lexLaid := by kernel_rfl
theorem typeHandle_ : typeHandle Tryz.prog 53 = .pointer (some ⟨3, 53, none⟩) := by kernel_rfl
/-- WHAT THE CONDITION GIVES A WALK. -/
theorem err_of_laid {W : World} (h : laidMetH Tryz.prog texLaid W) : ErrT W ∧ 1 < W.heap.size := by
  unfold laidMetH at h
  rw [texParts] at h
  obtain ⟨name, u, ty, e1, e2, e3, e4, e5⟩ := h.2 _ (List.mem_singleton.2 rfl)
  have en : name = [101, 114, 114, 111, 114] := (Option.some.inj e1).symm
  subst en
  obtain rfl := Option.some.inj (rt_.symm.trans e2)
  have hm : ty ∈ (List.range 352).filter fun t => Tryz.prog.rowNamed t [101, 114, 114, 111, 114] := List.mem_filter.2 ⟨List.mem_range.2 (by rw [← size_]; exact e3), e4⟩
  rw [oneRow_] at hm
  obtain rfl := List.mem_singleton.1 hm
  rw [typeHandle_] at e5
  have hT : ErrT W := by
    have := World.var?_cell et_ e5 0
    unfold ErrT
    simpa using this
  refine ⟨hT, ?_⟩
  have hc := hT
  unfold ErrT World.cell? at hc
  cases hh : W.heap[1]? with
  | none => simp [hh] at hc
  | some o => exact (Array.getElem?_eq_some_iff.1 hh).1
theorem sgs_of_laid {W : World} (h : laidMetH Tryz.prog texLaid W) : SgT W ∧ 0 < W.heap.size := by
  refine signs_of_laid ?_
  rw [MakeChecks.laidMetH_plain _ _ _ (by kernel_rfl)]
  unfold laidMetH at h
  rw [texParts'] at h
  exact h.1
theorem tex_met (os : Os) (args : Array Value) : laidMetH Tryz.prog texLaid ((World.doorLaid Tryz.prog 400 os).forCall (fun _ _ => 0) ⟨#[], args, []⟩).memory :=
  laidMetH_of_parts3 (fuel := 8) (laidMet_of_run' 8 (by kernel_rfl) (by kernel_rfl)) (by kernel_rfl) (by kernel_rfl)
end Go.Proofs.YtfcegalckjeafaaGreatDoor
namespace Go.Proofs.YtfcegalckjeafaaGreatDoor
open Go.RowKit Go.BigFrame
/-- What a digit says, 16 if it is none. -/
def hex16 (c : UInt8) : Int := match hexv c with | some m => (m : Int) | none => 16
theorem hex16_int (c : UInt8) : hex16 c = if 48 ≤ (c.toNat : Int) ∧ (c.toNat : Int) ≤ 57 then (c.toNat : Int) - 48 else if 97 ≤ (c.toNat : Int) ∧ (c.toNat : Int) ≤ 102 then (c.toNat : Int) - 97 + 10 else if 65 ≤ (c.toNat : Int) ∧ (c.toNat : Int) ≤ 70 then (c.toNat : Int) - 65 + 10 else 16 := by
  unfold hex16 hexv
  by_cases a : 48 ≤ c.toNat ∧ c.toNat ≤ 57
  · rw [if_pos a, if_pos (by omega)]; simp; omega
  by_cases b : 97 ≤ c.toNat ∧ c.toNat ≤ 102
  · rw [if_neg a, if_pos b, if_neg (by omega), if_pos (by omega)]; simp; omega
  by_cases d : 65 ≤ c.toNat ∧ c.toNat ≤ 70
  · rw [if_neg a, if_neg b, if_pos d, if_neg (by omega), if_neg (by omega), if_pos (by omega)]; simp; omega
  · rw [if_neg a, if_neg b, if_neg d, if_neg (by omega), if_neg (by omega), if_neg (by omega)]
theorem value_any (c : UInt8) (w : World) : Calls Tryz.prog 191 #[bv c, .bool true] w (VOut w (.int .u8 (hex16 c))) := by
  have h0 : (0 : Int) ≤ (c.toNat : Int) := by omega
  have h1 : (c.toNat : Int) < 256 := by have := c.toNat_lt; omega
  rw [hex16_int, bv]
  generalize (c.toNat : Int) = n at *
  obtain ⟨R, hR⟩ : ∃ R, R = (if 48 ≤ n ∧ n ≤ 57 then n - 48 else if 97 ≤ n ∧ n ≤ 102 then n - 97 + 10 else if 65 ≤ n ∧ n ≤ 70 then n - 65 + 10 else 16) := ⟨_, rfl⟩
  rw [← hR]
  have HR := Lib.hid hR
  clear hR
  by_cases a : 48 ≤ n <;> by_cases b : n ≤ 57 <;> by_cases d : 97 ≤ n <;> by_cases e : n ≤ 102 <;> by_cases f : 65 ≤ n <;> by_cases g : n ≤ 70 <;> (try (exfalso; omega)) <;>
  · go_enter Tryz.func191, Tryz.ntmps191
    go_wp2
    go_ret
    refine ⟨ret_v ?_, rfl⟩
    rw [HR.out]
    first | (rw [if_pos (by omega)]; rfl) | (rw [if_neg (by omega), if_pos (by omega)]; rfl) | (rw [if_neg (by omega), if_neg (by omega), if_pos (by omega)]; rfl) | (rw [if_neg (by omega), if_neg (by omega), if_neg (by omega)]; rfl)
theorem escape_any (c : UInt8) (w : World) : Calls Tryz.prog 190 #[bv c] w (VOut w (byR c)) := by
  rw [byR_int, bv]
  generalize (c.toNat : Int) = n at *
  obtain ⟨R, hR⟩ : ∃ R, R = (if n = 47 then Value.tuple #[.int .u8 47, .bool true] else if n = 34 then .tuple #[.int .u8 34, .bool true] else if n = 92 then .tuple #[.int .u8 92, .bool true] else if n = 110 then .tuple #[.int .u8 10, .bool true] else if n = 116 then .tuple #[.int .u8 9, .bool true] else if n = 114 then .tuple #[.int .u8 13, .bool true] else .tuple #[.int .u8 0, .bool false]) := ⟨_, rfl⟩
  rw [← hR]
  by_cases h47 : n = 47
  · obtain rfl : R = .tuple #[.int .u8 47, .bool true] := by rw [hR]; simp [h47]
    subst h47
    clear hR
    go_enter Tryz.func190, Tryz.ntmps190
    go_wp2
    go_ret2
    exact ⟨rfl, rfl⟩
  by_cases h34 : n = 34
  · obtain rfl : R = .tuple #[.int .u8 34, .bool true] := by rw [hR]; simp [h34]
    subst h34
    clear hR
    go_enter Tryz.func190, Tryz.ntmps190
    go_wp2
    go_ret2
    exact ⟨rfl, rfl⟩
  by_cases h92 : n = 92
  · obtain rfl : R = .tuple #[.int .u8 92, .bool true] := by rw [hR]; simp [h92]
    subst h92
    clear hR
    go_enter Tryz.func190, Tryz.ntmps190
    go_wp2
    go_ret2
    exact ⟨rfl, rfl⟩
  by_cases h110 : n = 110
  · obtain rfl : R = .tuple #[.int .u8 10, .bool true] := by rw [hR]; simp [h110]
    subst h110
    clear hR
    go_enter Tryz.func190, Tryz.ntmps190
    go_wp2
    go_ret2
    exact ⟨rfl, rfl⟩
  by_cases h116 : n = 116
  · obtain rfl : R = .tuple #[.int .u8 9, .bool true] := by rw [hR]; simp [h116]
    subst h116
    clear hR
    go_enter Tryz.func190, Tryz.ntmps190
    go_wp2
    go_ret2
    exact ⟨rfl, rfl⟩
  by_cases h114 : n = 114
  · obtain rfl : R = .tuple #[.int .u8 13, .bool true] := by rw [hR]; simp [h114]
    subst h114
    clear hR
    go_enter Tryz.func190, Tryz.ntmps190
    go_wp2
    go_ret2
    exact ⟨rfl, rfl⟩
  have e47 : (n == 47) = false := by simpa using h47
  have e34 : (n == 34) = false := by simpa using h34
  have e92 : (n == 92) = false := by simpa using h92
  have e110 : (n == 110) = false := by simpa using h110
  have e116 : (n == 116) = false := by simpa using h116
  have e114 : (n == 114) = false := by simpa using h114
  obtain rfl : R = .tuple #[.int .u8 0, .bool false] := by rw [hR]; simp [h47, h34, h92, h110, h116, h114]
  clear hR
  go_enter Tryz.func190, Tryz.ntmps190
  go_wp2
  go_ret2
  exact ⟨rfl, rfl⟩
end Go.Proofs.YtfcegalckjeafaaGreatDoor
namespace Go.Proofs.YtfcegalckjeafaaGreatDoor
open Go.RowKit Go.BigFrame
set_option maxRecDepth 100000 in
set_option maxHeartbeats 8000000 in
theorem runq_any (s : ByteArray) (w : World) (hs : s.size ≤ 8388608) : Calls Tryz.prog 153 #[.string s] w (VBOut w (unqR (unqL (bytes s)))) := by
  obtain ⟨R, hR⟩ : ∃ R, R = unqL (bytes s) := ⟨_, rfl⟩
  rw [← hR]
  by_cases h0 : s.size = 0
  · have he : bytes s = [] := List.eq_nil_of_length_eq_zero (by rw [bytes_len]; exact h0)
    obtain rfl : R = .inr (0, 10) := by rw [hR, he]; rfl
    have hz : ((s.size : Int) == 0) = true := by simp [h0]
    clear hR he
    go_enter Tryz.func153, Tryz.ntmps153
    go_wp2
    go_ret3
    exact ⟨rfl, Below.refl _ _⟩
  have hp0 : 0 < s.size := by omega
  have hz : ((s.size : Int) == 0) = false := by rw [beq_eq_false_iff_ne]; omega
  have hpi : (0 : Int) < (s.size : Int) := by omega
  by_cases h34 : (s[0].toNat : Int) = 34
  · have hE : s[0] = 34 := u8_of s[0] 34 (by decide) h34
    have hR1 : Hid (R = unqB ((bytes s).drop 1) 1) := Lib.hid (by
      have := bytes_drop s 0 hp0
      rw [List.drop_zero] at this
      rw [hR, this, hE]
      rfl)
    clear hR hE
    go_enter Tryz.func153, Tryz.ntmps153
    go_wp2
    go_loopw [5, 6] (fun v i wr => ∃ (k : Nat) (acc : List UInt8), 1 ≤ k ∧ k ≤ s.size ∧ i = .int .i64 k ∧ acc.length ≤ k ∧ Hid (wr.ownsRow w.heap.size 5 1 v acc.length (acc.map bv)) ∧ Hid (Below w.heap.size w wr) ∧ Hid (withU acc (unqB ((bytes s).drop k) k) = R)) (fun _ i _ => (s.size - intOf i).toNat)
    case atStart => exact ⟨1, [], Nat.le_refl _, hp0, rfl, by simp, World.ownsRow_nil _ _ _ _, Below.refl _ _, by rw [Hid, withU_nil]; exact hR1.out.symm⟩
    case round =>
      obtain ⟨k, acc, hk1, hk, rfl, hal, hO, hB, hU⟩ := hrel
      have hz0 := hB.out.size
      obtain ⟨A, c, rfl, hcap⟩ := own_shape hO.out
      by_cases hlt : k < s.size
      · have hd := bytes_drop s k hlt
        have hki : (k : Int) < (s.size : Int) := by omega
        have hgk : s[k] = s[k] := rfl
        by_cases c34 : (s[k].toNat : Int) = 34
        · have hE : s[k] = 34 := u8_of s[k] 34 (by decide) c34
          have hX : Hid (R = .inl (acc, k + 1)) := Lib.hid (by rw [← hU.out, hd, hE, unqB.eq_def]; simp [withU])
          have hcv := run_string_own hO.out
          clear hd hE hgk hU
          go_wp2
          go_ret3
          exact ⟨by rw [hX.out]; rfl, hB.out⟩
        have n34 : ((s[k].toNat : Int) == 34) = false := by simpa using c34
        have m34 : s[k] ≠ 34 := fun e => c34 (by rw [e]; rfl)
        by_cases c32 : (s[k].toNat : Int) < 32
        · have hX : Hid (R = .inr (k, 2)) := Lib.hid (by rw [← hU.out, hd, unqB.eq_def]; simp only [m34, if_false]; rw [if_pos (by omega)]; rfl)
          clear hd hgk hU m34
          go_wp2
          go_ret3
          exact ⟨by rw [hX.out]; rfl, hB.out⟩
        by_cases c92 : (s[k].toNat : Int) = 92
        · have hE : s[k] = 92 := u8_of s[k] 92 (by decide) c92
          rw [hE] at hd
          by_cases hlt1 : k + 1 < s.size
          · have hd1 := bytes_drop s (k + 1) hlt1
            have hki1 : (k : Int) + 1 < (s.size : Int) := by omega
            have hki2 : (((k : Int) + 1) == (s.size : Int)) = false := by simp; omega
            have hgk1 : s[k + 1] = s[k + 1] := rfl
            by_cases c120 : (s[k + 1].toNat : Int) = 120
            · have hE1 : s[k + 1] = 120 := u8_of s[k + 1] 120 (by decide) c120
              have hU' := hU.out
              rw [hd, hd1, hE1, unq_x] at hU'
              clear hd hd1 hE1 hE hgk hgk1 hU
              by_cases l2 : k + 2 < s.size
              · have hi2 : (k : Int) + 1 + 1 < (s.size : Int) := by omega
                have hi2' : ¬ ((s.size : Int) ≤ (k : Int) + 1 + 1) := by omega
                have hg2 : s[k + 2] = s[k + 2] := rfl
                have HV := Lib.hid (fun W => value_any s[k + 2] W)
                rw [bytes_drop s (k + 2) l2] at hU'
                cases ha : hexv s[k + 2] with
                | none =>
                  simp only [pairL, ha] at hU'
                  have hX : Hid (R = .inr (k + 2, 2)) := Lib.hid (by rw [← hU']; rfl)
                  rw [show hex16 s[k + 2] = 16 by rw [hex16, ha]] at HV
                  simp only [bv] at HV
                  clear hU' ha
                  go_wp2
                  refine wp_loop_rounds 1 ?_
                  rw [rounds_succ]
                  go_wp2_with fail
                  refine (HV.out _).mono ?_
                  rintro e w1 ⟨rfl, rfl⟩
                  go_wp2
                  go_ret3
                  exact ⟨by rw [hX.out]; rfl, hB.out⟩
                | some m =>
                  have hm := hexv_lt ha
                  have hmi : (m : Int) < 16 := by omega
                  have hm0 : (0 : Int) ≤ (m : Int) := by omega
                  rw [show hex16 s[k + 2] = (m : Int) by rw [hex16, ha]] at HV
                  simp only [bv] at HV
                  by_cases l3 : k + 3 < s.size
                  · have hi3 : (k : Int) + 1 + 2 < (s.size : Int) := by omega
                    have hi3' : ¬ ((s.size : Int) ≤ (k : Int) + 1 + 2) := by omega
                    have hg3 : s[k + 3] = s[k + 3] := rfl
                    have HV3 := Lib.hid (fun W => value_any s[k + 3] W)
                    rw [bytes_drop s (k + 3) l3] at hU'
                    cases hb : hexv s[k + 3] with
                    | none =>
                      simp only [pairL, ha, hb] at hU'
                      have hX : Hid (R = .inr (k + 3, 2)) := Lib.hid (by rw [← hU']; rfl)
                      rw [show hex16 s[k + 3] = 16 by rw [hex16, hb]] at HV3
                      simp only [bv] at HV3
                      clear hU' ha hb
                      go_wp2
                      refine wp_loop_rounds 2 ?_
                      rw [rounds_succ]
                      go_wp2_with fail
                      refine (HV.out _).mono ?_
                      rintro e w1 ⟨rfl, rfl⟩
                      go_wp2
                      rw [rounds_succ]
                      go_wp2_with fail
                      refine (HV3.out _).mono ?_
                      rintro e w1 ⟨rfl, rfl⟩
                      go_wp2
                      go_ret3
                      exact ⟨by rw [hX.out]; rfl, hB.out⟩
                    | some n =>
                      have hn := hexv_lt hb
                      have hni : (n : Int) < 16 := by omega
                      have hn0 : (0 : Int) ≤ (n : Int) := by omega
                      simp only [pairL, ha, hb] at hU'
                      have hN : Hid (withU (acc ++ [UInt8.ofNat (16 * m + n)]) (unqB ((bytes s).drop (k + 4)) (k + 4)) = R) := Lib.hid (by rw [← hU', ← withU_cons]; simp [List.drop_drop])
                      have hval : ((UInt8.ofNat (16 * m + n)).toNat : Int) = 16 * (m : Int) + (n : Int) := by rw [UInt8.toNat_ofNat_of_lt' (by simp [UInt8.size]; omega)]; omega
                      rw [show hex16 s[k + 3] = (n : Int) by rw [hex16, hb]] at HV3
                      simp only [bv] at HV3
                      clear hU' ha hb
                      go_wp2
                      refine wp_loop_rounds 3 ?_
                      rw [rounds_succ]
                      go_wp2_with fail
                      refine (HV.out _).mono ?_
                      rintro e w1 ⟨rfl, rfl⟩
                      go_wp2
                      rw [rounds_succ]
                      go_wp2_with fail
                      refine (HV3.out _).mono ?_
                      rintro e w1 ⟨rfl, rfl⟩
                      go_wp2
                      rw [rounds_succ]
                      go_wp2_with (first | (at_builtin; refine wpList_app elB rfl rfl (n := acc.length) (World.ownsRow.alloc hO.out _) rfl (w0 := w) (hB.out.alloc hz0 _) (reads_new w1 5 [.int .u8 (16 * (m : Int) + (n : Int))]) rfl (by simp [Value.oneCell']) (by simp; omega) (by decide) (by simp; omega) ?_; intro v9 w9 HO9 HB9 HG9; clear HG9) | fail)
                      go_roundw
                      case rel => exact ⟨k + 4, acc ++ [UInt8.ofNat (16 * m + n)], by omega, by omega, by go_num, by simp; omega, by rw [List.length_append, List.map_append, show [UInt8.ofNat (16 * m + n)].map bv = [.int .u8 (16 * (m : Int) + (n : Int))] by simp only [List.map, bv, hval]]; exact HO9, HB9, hN⟩
                      case measure => simp [intOf]; omega
                  · have he : (bytes s).drop (k + 3) = [] := List.drop_of_length_le (by rw [bytes_len]; omega)
                    have hz3 : s.size = k + 3 := by omega
                    rw [he] at hU'
                    simp only [pairL, ha] at hU'
                    have hX : Hid (R = .inr (s.size, 10)) := Lib.hid (by rw [← hU', hz3]; rfl)
                    have hi3 : (s.size : Int) ≤ (k : Int) + 1 + 2 := by omega
                    clear hU' ha he hz3
                    go_wp2
                    refine wp_loop_rounds 2 ?_
                    rw [rounds_succ]
                    go_wp2_with fail
                    refine (HV.out _).mono ?_
                    rintro e w1 ⟨rfl, rfl⟩
                    go_wp2
                    rw [rounds_succ]
                    go_wp2
                    go_ret3
                    exact ⟨by rw [hX.out]; rfl, hB.out⟩
              · have he : (bytes s).drop (k + 2) = [] := List.drop_of_length_le (by rw [bytes_len]; omega)
                have hz3 : s.size = k + 2 := by omega
                rw [he] at hU'
                simp only [pairL] at hU'
                have hX : Hid (R = .inr (s.size, 10)) := Lib.hid (by rw [← hU', hz3]; rfl)
                have hi3 : (s.size : Int) ≤ (k : Int) + 1 + 1 := by omega
                clear hU' he hz3
                go_wp2
                refine wp_loop_rounds 1 ?_
                rw [rounds_succ]
                go_wp2
                go_ret3
                exact ⟨by rw [hX.out]; rfl, hB.out⟩
            · have n120 : ((s[k + 1].toNat : Int) == 120) = false := by simpa using c120
              have m120 : s[k + 1] ≠ 120 := fun e => c120 (by rw [e]; rfl)
              have hY := Lib.hid (fun W => escape_any s[k + 1] W)
              have hU' := hU.out
              rw [hd, hd1, unq_by _ _ _ m120] at hU'
              cases hby : byLet s[k + 1] with
              | none =>
                rw [hby] at hU'
                have hX : Hid (R = .inr (k + 1, 2)) := Lib.hid (by rw [← hU']; rfl)
                have hy : byR s[k + 1] = .tuple #[.int .u8 0, .bool false] := by rw [byR, hby]
                rw [hy] at hY
                simp only [bv] at hY
                clear hd hd1 hE hgk hgk1 hU hU' hby m120 hy
                go_wp2_with fail
                refine (hY.out _).mono ?_
                rintro e w1 ⟨rfl, rfl⟩
                go_wp2
                go_ret3
                exact ⟨by rw [hX.out]; rfl, hB.out⟩
              | some y =>
                rw [hby] at hU'
                have hN : Hid (withU (acc ++ [y]) (unqB ((bytes s).drop (k + 2)) (k + 2)) = R) := Lib.hid (by rw [← hU', ← withU_cons])
                have hy : byR s[k + 1] = .tuple #[bv y, .bool true] := by rw [byR, hby]
                rw [hy] at hY
                simp only [bv] at hY
                clear hd hd1 hE hgk hgk1 hU hU' hby m120 hy
                go_wp2_with fail
                refine (hY.out _).mono ?_
                rintro e w1 ⟨rfl, rfl⟩
                go_wp2_with (first | (at_builtin; refine wpList_app elB rfl rfl (n := acc.length) (World.ownsRow.alloc hO.out _) rfl (w0 := w) (hB.out.alloc hz0 _) (reads_new w1 5 [bv y]) rfl (by simp [bv, Value.oneCell']) (by simp; omega) (by decide) (by simp; omega) ?_; intro v9 w9 HO9 HB9 HG9; clear HG9) | fail)
                go_roundw
                case rel => exact ⟨k + 2, acc ++ [y], by omega, by omega, by go_num, by simp; omega, by simpa [bv] using HO9, HB9, hN⟩
                case measure => simp [intOf]; omega
          · have hX : Hid (R = .inr (s.size, 10)) := Lib.hid (by
              have he : (bytes s).drop (k + 1) = [] := List.drop_of_length_le (by rw [bytes_len]; omega)
              have hk' : s.size = k + 1 := by omega
              rw [← hU.out, hd, he, unqB.eq_def, hk']
              simp [withU])
            have hki2 : (((k : Int) + 1) == (s.size : Int)) = true := by simp; omega
            clear hd hE hgk hU
            go_wp2
            go_ret3
            exact ⟨by rw [hX.out]; rfl, hB.out⟩
        · have n92 : ((s[k].toNat : Int) == 92) = false := by simpa using c92
          have m92 : s[k] ≠ 92 := fun e => c92 (by rw [e]; rfl)
          have hN : Hid (withU (acc ++ [s[k]]) (unqB ((bytes s).drop (k + 1)) (k + 1)) = R) := Lib.hid (by rw [← hU.out, hd, unq_plain _ _ _ m34 (by omega) m92, withU_cons])
          clear hd hgk hU m34 m92
          go_wp2_with (first | (at_builtin; refine wpList_app elB rfl rfl (n := acc.length) (World.ownsRow.alloc hO.out _) rfl (w0 := w) (hB.out.alloc hz0 _) (reads_new wr 5 [bv s[k]]) rfl (by simp [bv, Value.oneCell']) (by simp; omega) (by decide) (by simp; omega) ?_; intro v9 w9 HO9 HB9 HG9; clear HG9) | fail)
          go_roundw
          case rel => exact ⟨k + 1, acc ++ [s[k]], by omega, by omega, by go_num, by simp; omega, by simpa [bv] using HO9, HB9, hN⟩
          case measure => simp [intOf]; omega
      · have hX : Hid (R = .inr (s.size, 10)) := Lib.hid (by
          have he : (bytes s).drop k = [] := List.drop_of_length_le (by rw [bytes_len]; omega)
          have hk' : k = s.size := by omega
          rw [← hU.out, he, hk']; rfl)
        clear hU
        go_wp2
        go_ret3
        exact ⟨by rw [hX.out]; rfl, hB.out⟩
  · have n34 : ((s[0].toNat : Int) == 34) = false := by simpa using h34
    obtain rfl : R = .inr (0, 2) := by
      have := bytes_drop s 0 hp0
      rw [List.drop_zero] at this
      rw [hR, this, unqL, if_neg (fun e => h34 (by rw [e]; rfl))]
    clear hR
    go_enter Tryz.func153, Tryz.ntmps153
    go_wp2
    go_ret3
    exact ⟨rfl, Below.refl _ _⟩
end Go.Proofs.YtfcegalckjeafaaGreatDoor
