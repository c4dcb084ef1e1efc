/-
  Parts of the proof that AddrTold,AddrBegins calls on: Bd, Lb, Lt.
-/
import Derived.Test.YtfcegalckjeafaaGreatDoorM106
import Derived.Test.YtfcegalckjeafaaGreatDoorM107
import Derived.Test.YtfcegalckjeafaaGreatDoorM132
namespace Go.Proofs.YtfcegalckjeafaaGreatDoor
open Go.RowKit Go.BigFrame
set_option maxRecDepth 100000 in
set_option maxHeartbeats 4000000 in
theorem apart_any (A : Option Addr) (c : Nat) (L : List (List St)) (w : World) (h : AddrsIn w A L) (hn : L.length ≤ 1000) (hs : ∀ l ∈ L, l.length ≤ 1000000) :
    Calls Tryz.prog 26 #[.slice A L.length c] w fun e w' => e = .returned (.bool (apartB L)) ∧ Below w.heap.size w w' := by
  have H := Lib.hid h
  have HS := Lib.hid hs
  obtain ⟨R, hR⟩ : ∃ R, R = apartB L := ⟨_, rfl⟩
  have HR := Lib.hid hR
  rw [← hR]
  clear h hs hR
  go_enter Tryz.func26, Tryz.ntmps26
  go_wp2
  go_step3
  go_wp2_with (apply wp_label)
  go_loopw [9] (fun s wr => ∃ i : Nat, i ≤ L.length ∧ s = .int .i64 i ∧ Hid (ApQ L i 0) ∧ Hid (Below w.heap.size w wr)) (fun s _ => (L.length - intOf s).toNat)
  case atStart => exact ⟨0, Nat.zero_le _, rfl, fun a b u v _ _ _ h => by omega, Below.refl _ _⟩
  case round =>
    obtain ⟨i, hi, rfl, hQ, hB⟩ := hrel
    by_cases hlt : i < L.length
    · obtain ⟨ad, B1, d1, x, rfl, hx, hc1, hd1, hs1⟩ := (H.out.below hB.out).at_ hlt
      have hii : (i : Int) < (L.length : Int) := by omega
      go_wp2
      go_loopw [16] (fun s wq => ∃ k : Nat, k ≤ L.length ∧ s = .int .i64 k ∧ Hid (ApQ L i k) ∧ Hid (Below w.heap.size w wq) ∧ Hid (Below wr.heap.size wr wq)) (fun s _ => (L.length - intOf s).toNat)
      case atStart => exact ⟨0, Nat.zero_le _, rfl, hQ, hB, Below.refl _ _⟩
      case round =>
        obtain ⟨k, hk, rfl, hQ2, hB2, hBr⟩ := hrel
        by_cases hlk : k < L.length
        · obtain ⟨ad', B2, d2, y, e, hy, hc2, hd2, hs2⟩ := (H.out.below hB2.out).at_ hlk
          obtain rfl := Option.some.inj e
          have hkk : (k : Int) < (L.length : Int) := by omega
          have hxn := HS.out x (List.mem_of_getElem? hx)
          have hyn := HS.out y (List.mem_of_getElem? hy)
          by_cases hik : i = k
          · subst hik
            have hQ3 := Lib.hid (hQ2.out.next hx hy (.inl rfl))
            clear hx hy e
            go_wp2
            go_roundw
            case rel => exact ⟨i + 1, by omega, by go_num, hQ3, hB2, hBr⟩
            case measure => simp [intOf]; omega
          · have hne : ((i : Int) == (k : Int)) = false := by simp; omega
            have hik' : ¬ ((i : Int) = (k : Int)) := by omega
            by_cases hlen : x.length ≤ y.length
            · have hle : ¬ (y.length : Int) < (x.length : Int) := by omega
              have HC := Lib.hid (fun W hW => begins_any B1 B2 d1 d2 x y W ((hs1.below hBr.out).below hW) (hs2.below (w' := W) hW) hd2 hxn hyn)
              cases hbg : begB x y with
              | true =>
                have hX : Hid (R = false) := Lib.hid (by rw [HR.out]; exact apart_no hx hy hik hbg)
                rw [hbg] at HC
                go_wp2_with fail
                refine (HC.out _ (Below.refl _ _)).mono ?_
                rintro e1 w4 ⟨rfl, hb4⟩
                have HB4 := Lib.hid (hB2.out.trans (hb4.mono hB2.out.size))
                clear hb4
                go_wp2
                try rw [Exit.noGoto_ret]
                go_ret
                exact ⟨by rw [hX.out]; rfl, HB4.out⟩
              | false =>
                have hQ3 := Lib.hid (hQ2.out.next hx hy (.inr hbg))
                rw [hbg] at HC
                go_wp2_with fail
                refine (HC.out _ (Below.refl _ _)).mono ?_
                rintro e1 w4 ⟨rfl, hb4⟩
                have HB4 := Lib.hid (hB2.out.trans (hb4.mono hB2.out.size))
                have HBr4 := Lib.hid (hBr.out.trans (hb4.mono hBr.out.size))
                clear hb4
                go_wp2
                go_roundw
                case rel => exact ⟨k + 1, by omega, by go_num, hQ3, HB4, HBr4⟩
                case measure => simp [intOf]; omega
            · have hle : (y.length : Int) < (x.length : Int) := by omega
              have hQ3 := Lib.hid (hQ2.out.next hx hy (.inr (by rw [begB, decide_eq_false hlen]; rfl)))
              go_wp2
              go_roundw
              case rel => exact ⟨k + 1, by omega, by go_num, hQ3, hB2, hBr⟩
              case measure => simp [intOf]; omega
        · obtain rfl : k = L.length := by omega
          have hQ3 := Lib.hid hQ2.out.row
          go_wp2
          go_roundw
          case rel => exact ⟨i + 1, by omega, by go_num, hQ3, hB2⟩
          case measure => simp [intOf]; omega
    · obtain rfl : i = L.length := by omega
      have hX : Hid (R = true) := Lib.hid (by rw [HR.out]; exact apart_yes hQ.out)
      go_wp2
      try rw [Exit.noGoto_ret]
      go_ret
      exact ⟨by rw [hX.out]; rfl, hB.out⟩
end Go.Proofs.YtfcegalckjeafaaGreatDoor
namespace Go.Proofs.YtfcegalckjeafaaGreatDoor
open Go.RowKit Go.BigFrame Go.Shelf
theorem short_len {l : List St} (h : shortS l = true) : l.length ≤ 70 ∧ ∀ s ∈ l, s.T.length ≤ 3000 := by
  simp only [shortS, Bool.and_eq_true, List.all_eq_true, decide_eq_true_eq] at h
  exact ⟨h.2, h.1⟩
set_option maxRecDepth 100000 in
set_option maxHeartbeats 8000000 in
theorem addrBegins_any (A B C : Option Addr) (c d e : Nat) (a b : List St) (L : List (List St)) (w : World) (hT : SgT w) (hg : 0 < w.heap.size) (ha : StepsIn w A a) (hb : StepsIn w B b) (hL : AddrsIn w C L) (hac : a.length ≤ c) (hbd : b.length ≤ d) (hLe : L.length ≤ e)
    (na : a.length ≤ 9223372036854775807) (nb : b.length ≤ 9223372036854775807) (nL : L.length ≤ 9223372036854775807) (nLL : ∀ l ∈ L, l.length ≤ 9223372036854775807) :
    Calls Tryz.prog 6 #[.slice A a.length c, .slice B b.length d, .slice C L.length e] w fun e w' => e = .returned (.bool true) ∧ Below w.heap.size w w' := by
  have LIVE := Lib.hid (fun W (h : Below w.heap.size w W) => live_any W (hT.below h hg) (Nat.lt_of_lt_of_le hg h.size))
  have HA := Lib.hid ha
  have HB := Lib.hid hb
  have HL := Lib.hid hL
  have HNLL := Lib.hid nLL
  have HBD := Lib.hid (show a.length ≤ c ∧ b.length ≤ d from ⟨hac, hbd⟩)
  have SA := Lib.hid (fun W (h : Below w.heap.size w W) => shortS_any A c a W (ha.below h) na)
  have SB := Lib.hid (fun W (h : Below w.heap.size w W) => shortS_any B d b W (hb.below h) nb)
  clear hT ha hb hL nLL hac hbd hg
  obtain ⟨qa, hqa⟩ : ∃ q, q = shortS a := ⟨_, rfl⟩
  obtain ⟨qb, hqb⟩ : ∃ q, q = shortS b := ⟨_, rfl⟩
  rw [← hqa] at SA
  rw [← hqb] at SB
  have HQA := Lib.hid hqa
  have HQB := Lib.hid hqb
  clear hqa hqb
  cases qa with
  | false =>
    go_enter Tryz.func6, Tryz.ntmps6
    go_wp2_with fail
    refine (LIVE.out w (Below.refl _ _)).mono ?_
    rintro e w1 ⟨rfl, hb1⟩
    go_wp2_with fail
    refine (SA.out w1 hb1).mono ?_
    rintro e w2 ⟨rfl, hb2⟩
    have hb2 := hb1.trans (hb2.mono hb1.size)
    go_wp2_with fail
    refine (LIVE.out w2 hb2).mono ?_
    rintro e w3 ⟨rfl, hb3⟩
    go_wp2
    go_ret
    exact ⟨rfl, hb2.trans (hb3.mono hb2.size)⟩
  | true =>
  cases qb with
  | false =>
    go_enter Tryz.func6, Tryz.ntmps6
    go_wp2_with fail
    refine (LIVE.out w (Below.refl _ _)).mono ?_
    rintro e w1 ⟨rfl, hb1⟩
    go_wp2_with fail
    refine (SA.out w1 hb1).mono ?_
    rintro e w2 ⟨rfl, hb2⟩
    have hb2 := hb1.trans (hb2.mono hb1.size)
    go_wp2_with fail
    refine (SB.out w2 hb2).mono ?_
    rintro e w3 ⟨rfl, hb3⟩
    have hb3 := hb2.trans (hb3.mono hb2.size)
    go_wp2_with fail
    refine (LIVE.out w3 hb3).mono ?_
    rintro e w4 ⟨rfl, hb4⟩
    go_wp2
    go_ret
    exact ⟨rfl, hb3.trans (hb4.mono hb3.size)⟩
  | true =>
  by_cases hL30 : (30 : Int) < L.length
  · go_enter Tryz.func6, Tryz.ntmps6
    go_wp2_with fail
    refine (LIVE.out w (Below.refl _ _)).mono ?_
    rintro e w1 ⟨rfl, hb1⟩
    go_wp2_with fail
    refine (SA.out w1 hb1).mono ?_
    rintro e w2 ⟨rfl, hb2⟩
    have hb2 := hb1.trans (hb2.mono hb1.size)
    go_wp2_with fail
    refine (SB.out w2 hb2).mono ?_
    rintro e w3 ⟨rfl, hb3⟩
    have hb3 := hb2.trans (hb3.mono hb2.size)
    go_wp2_with fail
    refine (LIVE.out w3 hb3).mono ?_
    rintro e w4 ⟨rfl, hb4⟩
    go_wp2
    go_ret
    exact ⟨rfl, hb3.trans (hb4.mono hb3.size)⟩
  · go_enter Tryz.func6, Tryz.ntmps6
    go_wp2_with fail
    refine (LIVE.out w (Below.refl _ _)).mono ?_
    rintro e w1 ⟨rfl, hb1⟩
    go_wp2_with fail
    refine (SA.out w1 hb1).mono ?_
    rintro e w2 ⟨rfl, hb2⟩
    have hb2 := hb1.trans (hb2.mono hb1.size)
    go_wp2_with fail
    refine (SB.out w2 hb2).mono ?_
    rintro e w3 ⟨rfl, hb3⟩
    have hB3 := Lib.hid (hb2.trans (hb3.mono hb2.size))
    clear hb1 hb2 hb3 SA SB
    go_wp2_with fail
    go_loopw [29] (fun i wr => ∃ k : Nat, k ≤ L.length ∧ i = .int .i64 k ∧ Hid (∀ l ∈ L.take k, shortS l = true) ∧ Hid (Below w.heap.size w wr)) (fun i _ => (L.length - intOf i).toNat)
    case atStart => exact ⟨0, Nat.zero_le _, rfl, by simp [Hid], hB3⟩
    case round =>
      obtain ⟨k, hk, rfl, hE, hBr⟩ := hrel
      clear hB3
      by_cases hlt : k < L.length
      · have hlk : L[k]? = some L[k] := List.getElem?_eq_getElem hlt
        obtain ⟨ad, rfl, hadl, hcc⟩ := (HL.out.below hBr.out) (by omega)
        obtain ⟨B1, d1, hc1, hd1, hs1⟩ := hcc k _ hlk
        have hnl := HNLL.out _ (List.mem_of_getElem? hlk)
        have hsh := shortS_any B1 d1 L[k] wr hs1 hnl
        have hki : (0 : Int) ≤ (k : Int) := by omega
        have hki2 : (k : Int) < (L.length : Int) := by omega
        obtain ⟨q, hq⟩ : ∃ q, q = shortS L[k] := ⟨_, rfl⟩
        rw [← hq] at hsh
        have HQ := Lib.hid hq
        have HSH := Lib.hid hsh
        have HLK := Lib.hid hlk
        clear hq hsh hs1 hcc hnl hlk
        generalize L[k] = lk at *
        go_wp2_with fail
        refine HSH.out.mono ?_
        rintro e w5 ⟨rfl, hb5⟩
        have hB5 := Lib.hid (hBr.out.trans (hb5.mono hBr.out.size))
        clear HSH hb5 hc1
        cases q with
        | false =>
          go_wp2
          go_ret
          exact ⟨rfl, hB5.out⟩
        | true =>
          have hnx : Hid (∀ l ∈ L.take (k + 1), shortS l = true) := Lib.hid (fun l hl => by
            rw [List.take_add_one, HLK.out] at hl
            simp only [Option.toList_some, List.mem_append, List.mem_singleton] at hl
            rcases hl with hl | rfl
            · exact hE.out l hl
            · exact HQ.out.symm)
          go_wp2_with fail
          exact ⟨⟨k + 1, by omega, by go_num, hnx, hB5⟩, by simp [intOf]; omega⟩
      · have hLs : Hid (∀ l ∈ L, l.length ≤ 1000000) := Lib.hid (fun l hl => by
          have h1 := hE.out
          rw [List.take_of_length_le (by omega)] at h1
          have := (short_len (h1 l hl)).1
          omega)
        have hla := (short_len HQA.out.symm).1
        have hlb := (short_len HQB.out.symm).1
        have H1 := Lib.hid (fun W (h : Below w.heap.size w W) => begins_any A B c d a b W (HA.out.below h) (HB.out.below h) HBD.out.2 (by omega) (by omega))
        have H2 := Lib.hid (fun W (h : Below w.heap.size w W) => rbegins_any A B c d a b W (HA.out.below h) (HB.out.below h) HBD.out.2 (by omega) (by omega))
        have H3 := Lib.hid (fun W (h : Below w.heap.size w W) => apart_any C e L W (HL.out.below h) (by omega) hLs.out)
        have H4 := Lib.hid (fun W (h : Below w.heap.size w W) => rapart_any C e L W (HL.out.below h) (by omega) hLs.out)
        clear hE hLs hla hlb
        generalize begB a b = q1 at *
        generalize apartB L = q2 at *
        go_wp2_with fail
        refine (H1.out wr hBr.out).mono ?_
        rintro e w5 ⟨rfl, hb5⟩
        have hB5 := Lib.hid (hBr.out.trans (hb5.mono hBr.out.size))
        clear hb5 H1
        go_wp2_with fail
        refine (H2.out w5 hB5.out).mono ?_
        rintro e w6 ⟨rfl, hb6⟩
        have hB6 := Lib.hid (hB5.out.trans (hb6.mono hB5.out.size))
        clear hb6 H2
        go_wp2_with fail
        refine (H3.out w6 hB6.out).mono ?_
        rintro e w7 ⟨rfl, hb7⟩
        have hB7 := Lib.hid (hB6.out.trans (hb7.mono hB6.out.size))
        clear hb7 H3
        go_wp2_with fail
        refine (H4.out w7 hB7.out).mono ?_
        rintro e w8 ⟨rfl, hb8⟩
        have hB8 := Lib.hid (hB7.out.trans (hb8.mono hB7.out.size))
        clear hb8 H4
        go_wp2
        go_ret
        exact ⟨rfl, hB8.out⟩
end Go.Proofs.YtfcegalckjeafaaGreatDoor
namespace Go.Proofs.YtfcegalckjeafaaGreatDoor
open Go.RowKit Go.BigFrame Go.Shelf
theorem stepT_len3 (x : St) (h1 : -9223372036854775808 ≤ x.I) (h2 : x.I ≤ 9223372036854775807) (h3 : x.T.length ≤ 3000) : (stepT x).length ≤ 13000 := by
  have hd := decL_len x.I h1 h2
  have hq := quoteL_len x.T
  unfold stepT
  split
  · simp; omega
  · split
    · simp; omega
    · split
      · simp; omega
      · simp
theorem printL_len3 : ∀ (l : List St), (∀ x ∈ l, x.T.length ≤ 3000 ∧ -9223372036854775808 ≤ x.I ∧ x.I ≤ 9223372036854775807) → (printL l).length ≤ l.length * 13000 + 1 := by
  intro l h
  simp only [printL, List.length_cons]
  have : (l.flatMap stepT).length ≤ l.length * 13000 := by
    induction l with
    | nil => simp
    | cons x l ih =>
      have h1 := h x (by simp)
      have := stepT_len3 x h1.2.1 h1.2.2 h1.1
      have := ih fun y hy => h y (by simp [hy])
      rw [List.flatMap_cons, List.length_append, List.length_cons]
      omega
  omega
/-- A step of the three kinds, with nothing that its kind does not need. -/
def kindS (x : St) : Prop := x.K = 0 ∧ x.T = [] ∨ (x.K = 1 ∨ x.K = 2) ∧ x.I = 0
set_option maxRecDepth 100000 in
set_option maxHeartbeats 8000000 in
theorem addrTold_any (A : Option Addr) (c : Nat) (a : List St) (w : World) (hT : SgT w) (hg : 0 < w.heap.size) (ha : StepsIn w A a) (na : a.length ≤ 9223372036854775807) (hi : ∀ x ∈ a, -9223372036854775808 ≤ x.I ∧ x.I ≤ 9223372036854775807) :
    Calls Tryz.prog 4 #[.slice A a.length c] w fun e w' => e = .returned (.bool true) ∧ Below w.heap.size w w' := by
  have LIVE := Lib.hid (fun W (h : Below w.heap.size w W) => live_any W (hT.below h hg) (Nat.lt_of_lt_of_le hg h.size))
  have HP := Lib.hid (fun (s : ByteArray) (hs : s.size ≤ 8388608) W (h : Below w.heap.size w W) => aparse_any s W hs (hT.below h hg) (Nat.lt_of_lt_of_le hg h.size))
  have HA := Lib.hid ha
  have HI := Lib.hid hi
  have SA := Lib.hid (fun W (h : Below w.heap.size w W) => shortS_any A c a W (ha.below h) na)
  clear hT ha hg hi
  obtain ⟨qa, hqa⟩ : ∃ q, q = shortS a := ⟨_, rfl⟩
  rw [← hqa] at SA
  have HQA := Lib.hid hqa
  clear hqa
  cases qa with
  | false =>
    go_enter Tryz.func4, Tryz.ntmps4
    go_wp2_with fail
    refine (LIVE.out w (Below.refl _ _)).mono ?_
    rintro e w1 ⟨rfl, hb1⟩
    go_wp2_with fail
    refine (SA.out w1 hb1).mono ?_
    rintro e w2 ⟨rfl, hb2⟩
    have hb2 := hb1.trans (hb2.mono hb1.size)
    go_wp2_with fail
    refine (LIVE.out w2 hb2).mono ?_
    rintro e w3 ⟨rfl, hb3⟩
    go_wp2
    go_ret
    exact ⟨rfl, hb2.trans (hb3.mono hb2.size)⟩
  | true =>
    go_enter Tryz.func4, Tryz.ntmps4
    go_wp2_with fail
    refine (LIVE.out w (Below.refl _ _)).mono ?_
    rintro e w1 ⟨rfl, hb1⟩
    go_wp2_with fail
    refine (SA.out w1 hb1).mono ?_
    rintro e w2 ⟨rfl, hb2⟩
    have hB2 := Lib.hid (hb1.trans (hb2.mono hb1.size))
    clear hb1 hb2 SA LIVE
    go_wp2_with fail
    go_loopw [17] (fun i wr => ∃ k : Nat, k ≤ a.length ∧ i = .int .i64 k ∧ Hid (∀ x ∈ a.take k, kindS x) ∧ Hid (Below w.heap.size w wr)) (fun i _ => (a.length - intOf i).toNat)
    case atStart => exact ⟨0, Nat.zero_le _, rfl, by simp [Hid], hB2⟩
    case round =>
      obtain ⟨k, hk, rfl, hE, hBr⟩ := hrel
      clear hB2
      by_cases hlt : k < a.length
      · obtain ⟨ad, K, I, T, rfl, hx, hc0, hc1, hc2⟩ := (HA.out.below hBr.out).at_ hlt
        have HX := Lib.hid hx
        have hki : (0 : Int) ≤ (k : Int) := by omega
        have hki2 : (k : Int) < (a.length : Int) := by omega
        have hsz := hBr.out.size
        have hTb : ((⟨T.toArray⟩ : ByteArray).toList == ([] : List UInt8)) = decide (T = []) := by rw [Lib.toList_data, Bool.eq_iff_iff]; simp
        have hTb2 : T = [] → T.toArray = #[] := fun e => by rw [e]
        clear hx
        have HNX : Hid (kindS ⟨K, I, T⟩ → ∀ x ∈ a.take (k + 1), kindS x) := Lib.hid (fun hk x hx => by
          rw [List.take_add_one, HX.out] at hx
          simp only [Option.toList_some, List.mem_append, List.mem_singleton] at hx
          rcases hx with hx | rfl
          · exact hE.out x hx
          · exact hk)
        by_cases q1 : K < 0
        · go_wp2
          go_ret
          exact ⟨rfl, hBr.out.alloc hsz _⟩
        by_cases q2 : 2 < K
        · go_wp2
          go_ret
          exact ⟨rfl, hBr.out.alloc hsz _⟩
        by_cases q3 : K = 0
        · subst q3
          by_cases q4 : T = []
          · subst q4
            clear hTb hTb2
            have hnx := Lib.hid (HNX.out (.inl ⟨rfl, rfl⟩))
            go_wp2_with fail
            exact ⟨⟨k + 1, by omega, by go_num, hnx, hBr.out.alloc hsz _⟩, by simp [intOf]; omega⟩
          · have hT2 : ((⟨T.toArray⟩ : ByteArray).toList == ([] : List UInt8)) = false := by rw [hTb]; exact decide_eq_false q4
            have hT3 : (!(⟨T.toArray⟩ : ByteArray).toList.isEmpty) = true := by rw [Lib.toList_data]; cases T with
              | nil => exact absurd rfl q4
              | cons c t => rfl
            generalize (⟨T.toArray⟩ : ByteArray) = tb at *
            clear hTb hTb2
            go_wp2
            go_ret
            exact ⟨rfl, hBr.out.alloc hsz _⟩
        · clear hTb hTb2
          by_cases q5 : I = 0
          · have hnx := Lib.hid (HNX.out (.inr ⟨by simp only; omega, q5⟩))
            have hI0 : (I == 0) = true := by simpa using q5
            have hI1 : (I != 0) = false := by simpa using q5
            have hK0 : (K == 0) = false := by simpa using q3
            have hK1 : (K != 0) = true := by simpa using q3
            clear q5 q3
            go_wp2_with fail
            exact ⟨⟨k + 1, by omega, by go_num, hnx, hBr.out.alloc hsz _⟩, by simp [intOf]; omega⟩
          · have hI0 : (I == 0) = false := by simpa using q5
            have hI1 : (I != 0) = true := by simpa using q5
            have hK0 : (K == 0) = false := by simpa using q3
            have hK1 : (K != 0) = true := by simpa using q3
            clear q5 q3
            go_wp2
            go_ret
            exact ⟨rfl, hBr.out.alloc hsz _⟩
      · have hka : ∀ x ∈ a, kindS x := by
          have h1 := hE.out
          rwa [List.take_of_length_le (by omega)] at h1
        have hsh := short_len HQA.out.symm
        have hall : ∀ x ∈ a, x.T.length ≤ 3000 ∧ -9223372036854775808 ≤ x.I ∧ x.I ≤ 9223372036854775807 := fun x hx => ⟨hsh.2 x hx, HI.out x hx⟩
        have hpl := printL_len3 a hall
        have HPR := Lib.hid (print_any A c a wr (HA.out.below hBr.out) hsh.1 hall)
        have hsz : (⟨(printL a).toArray⟩ : ByteArray).size ≤ 8388608 := by show (printL a).toArray.size ≤ _; rw [List.size_toArray]; omega
        have HPA := Lib.hid (HP.out ⟨(printL a).toArray⟩ hsz)
        have eb : bytes ⟨(printL a).toArray⟩ = printL a := rfl
        have et : addrL (bytes ⟨(printL a).toArray⟩) = .inl a := by rw [eb]; exact addr_told a (fun x hx => ⟨hka x hx, HI.out x hx⟩)
        rw [et] at HPA
        clear eb et hsz hpl hall hka hE HP
        have hal : (a.length : Int) ≤ 70 := by omega
        have hal2 : a.length ≤ 70 := hsh.1
        clear hsh
        generalize printL a = tl at *
        simp only [sv] at HPR
        generalize (⟨tl.toArray⟩ : ByteArray) = tb at *
        go_wp2_with fail
        refine HPR.out.mono ?_
        rintro e w5 ⟨rfl, hb5⟩
        have hB5 := Lib.hid (hBr.out.trans (hb5.mono hBr.out.size))
        clear hb5 HPR
        go_wp2_with fail
        refine (HPA.out w5 hB5.out).mono ?_
        rintro e w6 ⟨v6, x6, rfl, hb6, hx6⟩
        obtain ⟨rfl, A6, c6, rfl, hc6, hr6⟩ := hx6
        have hB6 := Lib.hid (hB5.out.trans (hb6.mono hB5.out.size))
        have HSS := Lib.hid (same_any A6 A c6 c a a w6 (steps_of hr6) (HA.out.below hB6.out) (by omega) (by omega))
        clear hb6 HPA hr6
        go_wp2_with fail
        refine HSS.out.mono ?_
        rintro e w7 ⟨rfl, hb7⟩
        have hB7 := Lib.hid (hB6.out.trans (hb7.mono hB6.out.size))
        clear hb7 HSS
        go_wp2
        go_ret
        exact ⟨rfl, hB7.out⟩
end Go.Proofs.YtfcegalckjeafaaGreatDoor
