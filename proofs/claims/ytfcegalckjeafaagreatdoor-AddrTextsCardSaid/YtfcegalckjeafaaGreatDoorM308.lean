/-
  Parts of the proof that AddrBegins,AddrTexts calls on: Bb, Bc, Le, LawRow, SpMath, Ha, Hb, Rq.
-/
import Derived.Below
import Derived.Carry
import Derived.ChangeSame
import Derived.ChangeSlices
import Derived.ChangeVars
import Derived.Deep.DeepMust
import Derived.Deep.RegionLaw
import Derived.IntWalk
import Derived.Laws.BitsLemmas
import Derived.Lib.BitFns
import Derived.Lib.Tables
import Derived.Lib.TrailingZeros
import Derived.ProofKit
import Derived.WalkMore
import Derived.Test.YtfcegalckjeafaaGreatDoorM301
import Derived.Test.YtfcegalckjeafaaGreatDoorM302
import Derived.Test.YtfcegalckjeafaaGreatDoorM305
import Derived.Test.YtfcegalckjeafaaGreatDoorM306
import Derived.Test.YtfcegalckjeafaaGreatDoorM307
namespace Go.Proofs.YtfcegalckjeafaaGreatDoor
open Go.RowKit Go.BigFrame
/-- Whether one begins another. -/
def begB (l m : List St) : Bool := decide (l.length ≤ m.length) && decide (l = m.take l.length)
theorem StepsIn.take_ {w : World} {A : Option Addr} {l : List St} (h : StepsIn w A l) (n : Nat) : StepsIn w A (l.take n) := fun h0 => by
  rw [List.length_take] at h0
  obtain ⟨ad, e, hb, hc⟩ := h (by omega)
  refine ⟨ad, e, hb, fun k o ho => hc k o ?_⟩
  rw [List.getElem?_take] at ho
  split at ho
  · exact ho
  · cases ho
set_option maxRecDepth 100000 in
set_option maxHeartbeats 2000000 in
theorem begins_any (A B : Option Addr) (c d : Nat) (l m : List St) (w : World) (hl : StepsIn w A l) (hm : StepsIn w B m) (hd : m.length ≤ d) (hn : l.length ≤ 1000000) (_hn2 : m.length ≤ 1000000) :
    Calls Tryz.prog 24 #[.slice A l.length c, .slice B m.length d] w fun e w' => e = .returned (.bool (begB l m)) ∧ Below w.heap.size w w' := by
  by_cases hlen : l.length ≤ m.length
  · have hlt : (m.take l.length).length = l.length := by rw [List.length_take]; omega
    have hc := fun W hW => equal_any A B c d l (m.take l.length) W (hl.below hW) ((hm.take_ l.length).below (w' := W) hW) (by omega) (by omega)
    rw [hlt] at hc
    have HC := Lib.hid hc
    have hli : (l.length : Int) ≤ (m.length : Int) := by omega
    have hld : (l.length : Int) ≤ (d : Int) := by omega
    have hldn : l.length ≤ d := by omega
    have HR : Hid (begB l m = decide (l = m.take l.length)) := Lib.hid (by rw [begB, decide_eq_true hlen]; rfl)
    rw [HR.out]
    clear hl hm hc HR
    go_enter Tryz.func24, Tryz.ntmps24
    go_wp2_with fail
    refine (HC.out w (Below.refl _ _)).mono ?_
    rintro e w1 ⟨rfl, hb⟩
    have HB := Lib.hid hb
    clear hb
    go_wp2
    go_ret
    exact ⟨rfl, HB.out⟩
  · have hli : ¬ (l.length : Int) ≤ (m.length : Int) := by omega
    rw [show begB l m = false by rw [begB, decide_eq_false hlen]; rfl]
    go_enter Tryz.func24, Tryz.ntmps24
    go_wp2
    go_ret
    exact ⟨rfl, Below.refl _ _⟩
set_option maxRecDepth 100000 in
set_option maxHeartbeats 2000000 in
theorem rbegins_any (A B : Option Addr) (c d : Nat) (l m : List St) (w : World) (hl : StepsIn w A l) (hm : StepsIn w B m) (hd : m.length ≤ d) (hn : l.length ≤ 1000000) (_hn2 : m.length ≤ 1000000) :
    Calls Tryz.prog 25 #[.slice A l.length c, .slice B m.length d] w fun e w' => e = .returned (.bool (begB l m)) ∧ Below w.heap.size w w' := by
  by_cases hlen : l.length ≤ m.length
  · have hlt : (m.take l.length).length = l.length := by rw [List.length_take]; omega
    have hc := fun W hW => same_any A B c d l (m.take l.length) W (hl.below hW) ((hm.take_ l.length).below (w' := W) hW) (by omega) (by omega)
    rw [hlt] at hc
    have HC := Lib.hid hc
    have hli : (l.length : Int) ≤ (m.length : Int) := by omega
    have hld : (l.length : Int) ≤ (d : Int) := by omega
    have hldn : l.length ≤ d := by omega
    have HR : Hid (begB l m = decide (l = m.take l.length)) := Lib.hid (by rw [begB, decide_eq_true hlen]; rfl)
    rw [HR.out]
    clear hl hm hc HR
    go_enter Tryz.func25, Tryz.ntmps25
    go_wp2_with fail
    refine (HC.out w (Below.refl _ _)).mono ?_
    rintro e w1 ⟨rfl, hb⟩
    have HB := Lib.hid hb
    clear hb
    go_wp2
    go_ret
    exact ⟨rfl, HB.out⟩
  · have hli : ¬ (l.length : Int) ≤ (m.length : Int) := by omega
    rw [show begB l m = false by rw [begB, decide_eq_false hlen]; rfl]
    go_enter Tryz.func25, Tryz.ntmps25
    go_wp2
    go_ret
    exact ⟨rfl, Below.refl _ _⟩
end Go.Proofs.YtfcegalckjeafaaGreatDoor
namespace Go.Proofs.YtfcegalckjeafaaGreatDoor
open Go.RowKit Go.BigFrame
/-- A slice of addresses. -/
def AddrsIn (w : World) (A : Option Addr) (L : List (List St)) : Prop := 0 < L.length → ∃ ad : Addr, A = some ad ∧ ad.block < w.heap.size ∧ ∀ (k : Nat) (l : List St), L[k]? = some l → ∃ B d, w.cell? (ad.add k) = some (.slice B l.length d) ∧ l.length ≤ d ∧ StepsIn w B l
theorem AddrsIn.below {w w' : World} {A : Option Addr} {L : List (List St)} (h : AddrsIn w A L) (hb : Below w.heap.size w w') : AddrsIn w' A L := fun h0 => by
  obtain ⟨ad, e, hl, hc⟩ := h h0
  refine ⟨ad, e, Nat.lt_of_lt_of_le hl hb.size, fun k l hk => ?_⟩
  obtain ⟨B, d, h1, h2, h3⟩ := hc k l hk
  exact ⟨B, d, (hb.cell (by rw [block_of_add]; exact hl)).trans h1, h2, h3.below hb⟩
theorem AddrsIn.at_ {w : World} {A : Option Addr} {L : List (List St)} (h : AddrsIn w A L) {k : Nat} (hk : k < L.length) : ∃ ad B d l, A = some ad ∧ L[k]? = some l ∧ w.cell? (ad.add k) = some (.slice B l.length d) ∧ l.length ≤ d ∧ StepsIn w B l := by
  obtain ⟨ad, e, hl, hc⟩ := h (by omega)
  obtain ⟨B, d, h1, h2, h3⟩ := hc k L[k] (List.getElem?_eq_getElem hk)
  exact ⟨ad, B, d, L[k], e, List.getElem?_eq_getElem hk, h1, h2, h3⟩
/-- None of so many addresses begins another one (of the first i, and of the i-th the first k). -/
def ApQ (L : List (List St)) (i k : Nat) : Prop := ∀ (a b : Nat) (x y : List St), L[a]? = some x → L[b]? = some y → a ≠ b → (a < i ∨ a = i ∧ b < k) → begB x y = false
/-- Whether no address begins another one. -/
def apartB (L : List (List St)) : Bool := (List.range L.length).all fun a => (List.range L.length).all fun b => a == b || !begB (L.getD a []) (L.getD b [])
theorem apart_no {L : List (List St)} {a b : Nat} {x y : List St} (ha : L[a]? = some x) (hb : L[b]? = some y) (h : a ≠ b) (hx : begB x y = true) : apartB L = false := by
  have la := (List.getElem?_eq_some_iff.1 ha).1
  have lb := (List.getElem?_eq_some_iff.1 hb).1
  rw [Bool.eq_false_iff]
  intro hp
  have h1 := List.all_eq_true.1 hp a (List.mem_range.2 la)
  have h2 := List.all_eq_true.1 h1 b (List.mem_range.2 lb)
  simp [List.getD_eq_getElem?_getD, ha, hb, hx, h] at h2
theorem apart_yes {L : List (List St)} (h : ApQ L L.length 0) : apartB L = true := by
  refine List.all_eq_true.2 fun a ha => List.all_eq_true.2 fun b hb => ?_
  have la := List.mem_range.1 ha
  have lb := List.mem_range.1 hb
  by_cases e : a = b
  · simp [e]
  · have := h a b L[a] L[b] (List.getElem?_eq_getElem la) (List.getElem?_eq_getElem lb) e (.inl la)
    simp [List.getD_eq_getElem?_getD, List.getElem?_eq_getElem la, List.getElem?_eq_getElem lb, this]
theorem ApQ.next {L : List (List St)} {i k : Nat} {x y : List St} (h : ApQ L i k) (hx : L[i]? = some x) (hy : L[k]? = some y) (hb : i = k ∨ begB x y = false) : ApQ L i (k + 1) := fun a b u v hu hv hne hab => by
  rcases hab with h1 | ⟨rfl, h1⟩
  · exact h a b u v hu hv hne (.inl h1)
  · by_cases e : b = k
    · subst e
      rw [hx] at hu; rw [hy] at hv
      cases hu; cases hv
      rcases hb with h2 | h2
      · exact absurd h2 hne
      · exact h2
    · exact h a b u v hu hv hne (.inr ⟨rfl, by omega⟩)
theorem ApQ.row {L : List (List St)} {i : Nat} (h : ApQ L i L.length) : ApQ L (i + 1) 0 := fun a b u v hu hv hne hab => by
  have lb := (List.getElem?_eq_some_iff.1 hv).1
  rcases hab with h1 | ⟨_, h1⟩
  · by_cases e : a = i
    · exact h a b u v hu hv hne (.inr ⟨e, lb⟩)
    · exact h a b u v hu hv hne (.inl (by omega))
  · omega
theorem cb2 {w w' : World} {p : Addr} {u : Value} (hb : Below w.heap.size w w') (h : w.cell? p = some u) : w'.cell? p = some u := (hb.cell (World.block_lt_of_cell? w p h)).trans h
theorem if_not {b : Bool} {A B : Prop} (h : b = false) (hB : B) : if b = true then A else B := by subst h; exact hB
set_option maxRecDepth 100000 in
set_option maxHeartbeats 4000000 in
theorem rapart_any (A : Option Addr) (c : Nat) (L : List (List St)) (w : World) (h : AddrsIn w A L) (hn : L.length ≤ 1000) (hs : ∀ l ∈ L, l.length ≤ 1000000) :
    Calls Tryz.prog 27 #[.slice A L.length c] w fun e w' => e = .returned (.bool (apartB L)) ∧ Below w.heap.size w w' := by
  have H := Lib.hid h
  have HS := Lib.hid hs
  obtain ⟨R, hR⟩ : ∃ R, R = apartB L := ⟨_, rfl⟩
  have HR := Lib.hid hR
  rw [← hR]
  clear h hs hR
  go_enter Tryz.func27, Tryz.ntmps27
  go_wp2
  go_loopw [7] (fun s wr => ∃ i : Nat, i ≤ L.length ∧ s = .int .i64 i ∧ Hid (ApQ L i 0) ∧ Hid (Below w.heap.size w wr)) (fun s _ => (L.length - intOf s).toNat)
  case atStart => exact ⟨0, Nat.zero_le _, rfl, fun a b u v _ _ _ h => by omega, Below.refl _ _⟩
  case round =>
    obtain ⟨i, hi, rfl, hQ, hB⟩ := hrel
    by_cases hlt : i < L.length
    · go_wp2
      go_loopw [12] (fun s wq => ∃ k : Nat, k ≤ L.length ∧ s = .int .i64 k ∧ Hid (ApQ L i k) ∧ Hid (Below w.heap.size w wq)) (fun s _ => (L.length - intOf s).toNat)
      case atStart => exact ⟨0, Nat.zero_le _, rfl, hQ, hB⟩
      case round =>
        obtain ⟨k, hk, rfl, hQ2, hB2⟩ := hrel
        by_cases hlk : k < L.length
        · obtain ⟨ad, B1, d1, x, rfl, hx, hc1, hd1, hs1⟩ := (H.out.below hB2.out).at_ hlt
          obtain ⟨ad', B2, d2, y, e, hy, hc2, hd2, hs2⟩ := (H.out.below hB2.out).at_ hlk
          obtain rfl := Option.some.inj e
          have hii : (i : Int) < (L.length : Int) := by omega
          have hkk : (k : Int) < (L.length : Int) := by omega
          have hxn := HS.out x (List.mem_of_getElem? hx)
          have hyn := HS.out y (List.mem_of_getElem? hy)
          by_cases hik : i = k
          · subst hik
            have hQ3 := Lib.hid (hQ2.out.next hx hy (.inl rfl))
            clear hx hy e
            go_wp2
            refine wp_region_sq 13 [(0, true), (1, true), (2, true), (3, true), (4, true), (5, true), (6, true), (7, true), (8, true), (9, true), (10, true), (11, true), (12, false)] (fun _ => True) (by kernel_rfl) (by kernel_rfl) trivial (fun hS => ?_)
            iterate 2 (refine sq_t (o := ⟨_, _, _, _, _, _⟩) (v := ?_) rfl (by rfl) ?_ ?_; rotate_left; (· (intro w hSw; (try dsimp only at hSw); (try obtain ⟨hS1, hS2⟩ := hSw); go_simp; try with_reducible rfl)); try simp only [Act.put, List.setIfInBounds_toArray, List.set_cons_zero, List.set_cons_succ])
            iterate 2 (refine sq_t (o := ⟨_, _, _, _, _, _⟩) (v := .bool false) rfl (by rfl) (fun w' _ => by go_simp) ?_; try simp only [Act.put, List.setIfInBounds_toArray, List.set_cons_zero, List.set_cons_succ])
            iterate 8 (refine sq_n (o := ⟨_, _, _, _, _, _⟩) rfl (by rfl) ?_; try simp only [Act.put, List.setIfInBounds_toArray, List.set_cons_zero, List.set_cons_succ])
            refine sq_c rfl (fun K hK => ?_)
            refine if_not (by rfl) ?_
            refine hK.out _ _ trivial (fun hS => ?_)
            clear hK K
            try simp only [Act.put, List.setIfInBounds_toArray]
            simp only [wpSq, List.drop_succ_cons, List.drop_zero]
            go_wp2
            refine NoPanic.normal ?_
            go_wp2
            go_roundw
            case rel => exact ⟨i + 1, by omega, by go_num, hQ3, hB2.out.drew⟩
            case measure => simp [intOf]; omega
          · have hne : ((i : Int) == (k : Int)) = false := by simp; omega
            have hik' : ¬ ((i : Int) = (k : Int)) := by omega
            have HC := Lib.hid (fun W hW => rbegins_any B1 B2 d1 d2 x y W (hs1.below hW) (hs2.below (w' := W) hW) hd2 hxn hyn)
            go_wp2
            refine wp_region_sq 13 [(0, true), (1, true), (2, true), (3, true), (4, true), (5, true), (6, true), (7, true), (8, true), (9, true), (10, true), (11, true), (12, false)] (fun w' => w'.cell? (ad.add i) = some (.slice B1 x.length d1) ∧ w'.cell? (ad.add k) = some (.slice B2 y.length d2)) (by kernel_rfl) (by kernel_rfl) ⟨hc1, hc2⟩ (fun hS => ?_)
            iterate 2 (refine sq_t (o := ⟨_, _, _, _, _, _⟩) (v := ?_) rfl (by rfl) ?_ ?_; rotate_left; (· (intro w hSw; (try dsimp only at hSw); (try obtain ⟨hS1, hS2⟩ := hSw); go_simp; try with_reducible rfl)); try simp only [Act.put, List.setIfInBounds_toArray, List.set_cons_zero, List.set_cons_succ])
            iterate 2 (refine sq_t (o := ⟨_, _, _, _, _, _⟩) (v := .bool true) rfl (by rfl) (fun w' _ => by go_simp; try exact hik') ?_; try simp only [Act.put, List.setIfInBounds_toArray, List.set_cons_zero, List.set_cons_succ])
            iterate 8 (refine sq_t (o := ⟨_, _, _, _, _, _⟩) (v := ?_) rfl (by rfl) ?_ ?_; rotate_left; (· (intro w hSw; (try dsimp only at hSw); (try obtain ⟨hS1, hS2⟩ := hSw); go_simp; try with_reducible rfl)); try simp only [Act.put, List.setIfInBounds_toArray, List.set_cons_zero, List.set_cons_succ])
            refine sq_c rfl (fun K hK => ?_)
            go_simp
            refine (HC.out _ (Below.refl _ _).drew).mono ?_
            rintro e1 w4 ⟨rfl, hb4⟩
            have HB4 := Lib.hid (hB2.out.trans (((Below.refl _ _).drew.trans hb4).mono hB2.out.size))
            refine hK.out _ _ ⟨cb2 ((Below.refl _ _).drew.trans hb4) hc1, cb2 ((Below.refl _ _).drew.trans hb4) hc2⟩ (fun hS => ?_)
            clear hK K
            try simp only [Act.put, List.setIfInBounds_toArray, List.set_cons_zero, List.set_cons_succ]
            cases hbg : begB x y with
            | true =>
              have hX : Hid (R = false) := Lib.hid (by rw [HR.out]; exact apart_no hx hy hik hbg)
              simp only [wpSq, List.drop_succ_cons, List.drop_zero]
              go_wp2
              refine NoPanic.normal ?_
              go_wp2
              go_ret
              exact ⟨by rw [hX.out]; rfl, HB4.out⟩
            | false =>
              have hQ3 := Lib.hid (hQ2.out.next hx hy (.inr hbg))
              simp only [wpSq, List.drop_succ_cons, List.drop_zero]
              go_wp2
              refine NoPanic.normal ?_
              go_wp2
              go_roundw
              case rel => exact ⟨k + 1, by omega, by go_num, hQ3, HB4⟩
              case measure => simp [intOf]; omega
        · obtain rfl : k = L.length := by omega
          have hQ3 := Lib.hid hQ2.out.row
          go_wp2
          go_roundw
          case rel => exact ⟨i + 1, by omega, by go_num, hQ3, hB2⟩
          case measure => simp [intOf]; omega
    · obtain rfl : i = L.length := by omega
      have hX : Hid (R = true) := Lib.hid (by rw [HR.out]; exact apart_yes hQ.out)
      go_wp2
      go_ret
      exact ⟨by rw [hX.out]; rfl, hB.out⟩
end Go.Proofs.YtfcegalckjeafaaGreatDoor
namespace Go.Proofs.YtfcegalckjeafaaGreatDoor
open Go.RowKit Go.ChangeShapes Go.WideShapes Go.Deep
theorem ba_eta' (s : ByteArray) : (⟨s.data.toList.toArray⟩ : ByteArray) = s := by cases s; rfl
/-- Steps as they come in. -/
def StIn (W : World) (v : Value) (l : List St) : Prop := ∃ (A : Option Addr) (c : Nat), v = .slice A l.length c ∧ StepsIn W A l ∧ l.length ≤ c ∧ (A = none → c = 0) ∧ l.length ≤ maxLen ∧ ∀ s ∈ l, (-9223372036854775808 ≤ s.I ∧ s.I ≤ 9223372036854775807) ∧ (-9223372036854775808 ≤ s.K ∧ s.K ≤ 9223372036854775807) ∧ s.T.length ≤ maxLen
set_option maxRecDepth 100000 in
theorem steps_core {H : Type} {enc : TypeId × Value → H} {W : World} {v : Value} {fuel : Nat} {x : DataW H × List MemPlace} (hf : DataW.trod enc Tryz.prog W 0 (fun _ => true) true fuel 46 [v] = some x) (hlt : ∀ y ∈ x.2, y.block < W.heap.size) : ∃ l, StIn W v l := by
  rcases open_slice_fields Tryz.underlying46 Tryz.underlying48 (by kernel_rfl) (by kernel_rfl) hf with ⟨h0, _⟩ | ⟨a, n, m, m', D, Pl, h0, _, hl, hcm, hm, hx, hi⟩
  · simp at h0
    subst h0
    exact ⟨[], none, 0, rfl, fun h => absurd h (by simp), Nat.le_refl _, fun _ => rfl, Nat.zero_le _, fun s h => by cases h⟩
  · simp at h0
    subst h0
    simp at hm
    subst hm
    have each : ∀ i, ∃ o : St, ((-9223372036854775808 ≤ o.I ∧ o.I ≤ 9223372036854775807) ∧ (-9223372036854775808 ≤ o.K ∧ o.K ≤ 9223372036854775807) ∧ o.T.length ≤ maxLen) ∧ (i < n → W.cell? (a.add (i * 3)) = some (.int .i64 o.K) ∧ W.cell? ⟨(a.add (i * 3)).block, (a.add (i * 3)).off + 1, none⟩ = some (.int .i64 o.I) ∧ W.cell? ⟨(a.add (i * 3)).block, (a.add (i * 3)).off + 2, none⟩ = some (.string ⟨o.T.toArray⟩)) := fun i => by
      by_cases hin : i < n
      · obtain ⟨ys, k, _, _, _, hf⟩ := hi i (by omega)
        obtain ⟨v0, y0, c0, -, t0⟩ := hf 0 _ rfl
        obtain ⟨v1, y1, c1, -, t1⟩ := hf 1 _ rfl
        obtain ⟨v2, y2, c2, -, t2⟩ := hf 2 _ rfl
        obtain ⟨x0, e0, -, wf0⟩ := DataW.trod_int Tryz.underlying3 t0
        obtain ⟨x1, e1, -, wf1⟩ := DataW.trod_int Tryz.underlying3 t1
        obtain ⟨x2, e2, -, wf2⟩ := DataW.trod_string Tryz.underlying9 t2
        simp at e0 e1 e2
        subst e0 e1 e2
        refine ⟨⟨x0, x1, x2.data.toList⟩, ⟨?_, ?_, ?_⟩, fun _ => ⟨by simpa using c0, ?_, ?_⟩⟩
        · simpa [Lit.wf, IntKind.min, IntKind.max, IntKind.signed, IntKind.bits] using wf1
        · simpa [Lit.wf, IntKind.min, IntKind.max, IntKind.signed, IntKind.bits] using wf0
        · simpa [Lit.wf] using wf2
        · rw [← c1]
          show W.cell? ((a.add (i * 3)).add 1) = _
          rw [Go.Deep.add_add]; rfl
        · show W.cell? ((a.add (i * 3)).add 2) = _
          rw [Go.Deep.add_add]
          have e : (⟨x2.data.toList.toArray⟩ : ByteArray) = x2 := ba_eta' x2
          rw [e]
          exact c2
      · exact ⟨⟨0, 0, []⟩, ⟨by decide, by decide, Nat.zero_le _⟩, fun h => absurd h hin⟩
    refine ⟨(List.range n).map fun i => (each i).choose, some a, m', by simp, fun hn => ⟨a, rfl, ?_, fun k o hk => ?_⟩, by simpa using hl, nofun, by rw [List.length_map, List.length_range]; omega, fun s hs => ?_⟩
    · have : MemPlace.cell a.block a.off ∈ x.2 := by
        rw [hx]
        simp at hn
        simp [MemPlace.row]
        omega
      exact hlt _ this
    · rw [List.getElem?_map, Option.map_eq_some_iff] at hk
      obtain ⟨i, hi2, rfl⟩ := hk
      obtain ⟨h1, h2⟩ := List.getElem?_eq_some_iff.1 hi2
      simp at h1 h2
      subst h2
      exact (each k).choose_spec.2 h1
    · obtain ⟨i, _, rfl⟩ := List.mem_map.1 hs
      exact (each i).choose_spec.1
set_option maxRecDepth 100000 in
theorem open_steps {H : Type} {enc : TypeId × Value → H} {W : World} {r : Reach} {base : Nat} {v : Value} {d : DataW H} {ps : List MemPlace} (hval : Value.okWide Tryz.prog W r base 46 v)
    (hd : DataW.Trod enc Tryz.prog W 0 (fun _ => true) true 46 v d ps) (hlt : ∀ x ∈ ps, x.block < W.heap.size) : ∃ l, StIn W v l := by
  obtain ⟨A, n, c, rfl⟩ := okWide_slice Tryz.underlying46 hval
  obtain ⟨fuel, hf⟩ := hd
  exact steps_core (by simpa [Value.cells] using hf) hlt
set_option maxRecDepth 100000 in
theorem open_addrs {H : Type} {enc : TypeId × Value → H} {W : World} {r : Reach} {base : Nat} {v : Value} {d : DataW H} {ps : List MemPlace} (hval : Value.okWide Tryz.prog W r base 31 v)
    (hd : DataW.Trod enc Tryz.prog W 0 (fun _ => true) true 31 v d ps) (hlt : ∀ x ∈ ps, x.block < W.heap.size) :
    ∃ (A : Option Addr) (L : List (List St)) (c : Nat), v = .slice A L.length c ∧ AddrsIn W A L ∧ L.length ≤ c ∧ L.length ≤ maxLen ∧ ∀ l ∈ L, l.length ≤ maxLen := by
  obtain ⟨A, n, c, rfl⟩ := okWide_slice Tryz.underlying31 hval
  obtain ⟨fuel, hf⟩ := hd
  rcases open_slice1 Tryz.underlying31 (by kernel_rfl) hf with ⟨h0, _⟩ | ⟨a, len, cap, m, n', V, D, Pl, h0, hb, hl, hm, hmm, hx, hi⟩
  · simp [Value.cells] at h0
    obtain ⟨rfl, rfl, rfl⟩ := h0
    exact ⟨none, [], 0, rfl, fun h => absurd h (by simp), Nat.le_refl _, Nat.zero_le _, fun l h => by cases h⟩
  · simp [Value.cells] at h0
    obtain ⟨rfl, rfl, rfl⟩ := h0
    simp at hmm
    subst hmm
    have hps : ps = MemPlace.row a m ++ (List.range m).flatMap Pl := (Prod.mk.inj hx).2
    have each : ∀ i, ∃ l : List St, i < m → StIn W (V i) l := fun i => by
      by_cases hin : i < m
      · obtain ⟨l, hl⟩ := steps_core (hi i hin).2 (fun y hy => hlt y (by
          rw [hps]
          exact List.mem_append_right _ (List.mem_flatMap.2 ⟨i, List.mem_range.2 hin, hy⟩)))
        exact ⟨l, fun _ => hl⟩
      · exact ⟨[], fun h => absurd h hin⟩
    refine ⟨some a, (List.range n).map fun i => (each i).choose, m, by simp, fun hn => ⟨a, rfl, ?_, fun k l hk => ?_⟩, by simpa using hl, by rw [List.length_map, List.length_range]; omega, fun l hl' => ?_⟩
    · have : MemPlace.cell a.block a.off ∈ ps := by
        rw [hps]
        simp at hn
        simp [MemPlace.row]
        exact .inl (by omega)
      exact hlt _ this
    · rw [List.getElem?_map, Option.map_eq_some_iff] at hk
      obtain ⟨i, hi2, rfl⟩ := hk
      obtain ⟨h1, h2⟩ := List.getElem?_eq_some_iff.1 hi2
      simp at h1 h2
      subst h2
      obtain ⟨A, c, e1, e2, e3, -⟩ := (each k).choose_spec (by omega)
      exact ⟨A, c, (hi k (by omega)).1.trans (congrArg some e1), e3, e2⟩
    · obtain ⟨i, hi2, rfl⟩ := List.mem_map.1 hl'
      have := List.mem_range.1 hi2
      obtain ⟨A, c, -, -, -, -, e, -⟩ := (each i).choose_spec (by omega)
      exact e
end Go.Proofs.YtfcegalckjeafaaGreatDoor
namespace Go.Proofs.YtfcegalckjeafaaGreatDoor
open Go.RowKit Go.ChangeShapes Go.WideShapes
theorem trodAll_below {H : Type} {enc : TypeId × Value → H} {P : Program} (hl : laidOutB P = true) {W W' : World} (hb : Below W.heap.size W W') :
    ∀ {ts : List TypeId} {vs : List Value} {ds : List (DataW H)} {ps : List MemPlace}, (ts.all fun t => P.readableRec t && decide (t < P.types.size)) = true →
      DataW.TrodAll enc P W 0 (fun _ => true) true ts vs ds ps → (∀ x ∈ ps, x.block < W.heap.size) →
      DataW.TrodAll enc P W' 0 (fun b => decide (b < W.heap.size)) true ts vs ds ps
  | [], _, _, _, _, h, _ => by
    obtain ⟨rfl, rfl, rfl⟩ := trodAll_nil h
    exact h
  | t :: ts, _, _, _, ht, h, hlt => by
    obtain ⟨v, vs1, d, ds1, a, b, rfl, rfl, rfl, h1, h2⟩ := trodAll_cons h
    simp only [List.all_cons, Bool.and_eq_true, decide_eq_true_eq] at ht
    exact ⟨a, b, Below.trod hl ht.1.1 ht.1.2 h1 hb (fun x hx => hlt x (by simp [hx])), trodAll_below hl hb (by simpa using ht.2) h2 (fun x hx => hlt x (by simp [hx])), rfl⟩
theorem post_true {H : Type} {enc : TypeId × Value → H} {P : Program} (hl : laidOutB P = true) {f : Func} {s : ChangeSpec} {apart fresh handsOn : Bool} {W W' : World} {args : Array Value} {ds : List (DataW H)} {before : List MemPlace} {tb : TypeId}
    (hp : (f.params.toList.all fun t => P.readableRec t && decide (t < P.types.size)) = true) (hr : f.resultTypes = #[tb]) (ht : P.underlying tb = some .bool) (hv : s.vars = [])
    (hW : DataW.Whole enc P f.params.toList s.vars apart W args.toList ds [] before) (hfn : s.fn H (ds ++ []) = { results := [.lit (.bool true)], args := ds }) (hb : Below W.heap.size W W') :
    s.post enc P f apart fresh handsOn false W args (.bool true) W' := by
  have hlt := hW.lt
  have hW' := hW
  obtain ⟨p, q, hA, hV, rfl, hfz, hnd⟩ := hW
  rw [hv] at hV
  obtain ⟨_, rfl⟩ := trodVars_none hV
  refine ⟨ds, [], p ++ [], [], p, [], hW', ?_, ?_, ?_, ?_, fun h => by cases h⟩
  · rw [hfn, hr]
    exact trodAll_mk1 (shut_bool ht true)
  · rw [hfn]
    exact trodAll_below hl hb hp hA (fun x hx => hlt x (by simp [hx]))
  · rw [hfn, hv]
    rfl
  · exact hb.frame _
end Go.Proofs.YtfcegalckjeafaaGreatDoor
namespace Go.Proofs.YtfcegalckjeafaaGreatDoor
namespace Sp
universe u
variable {α : Type u}
/-- The bits of a row: bit i is set just where place i has something. -/
def bitsL : List (Option α) → Nat
  | [] => 0
  | o :: m => (if o.isSome then 1 else 0) + 2 * bitsL m
/-- The things of a row, by rising places. -/
def vals (m : List (Option α)) : List α := m.filterMap id
/-- What place i has. -/
def at_ (m : List (Option α)) (i : Nat) : Option α := (m[i]?).join
end Sp
end Go.Proofs.YtfcegalckjeafaaGreatDoor
namespace Go.Proofs.YtfcegalckjeafaaGreatDoor
open Go.RowKit Go.BigFrame
/-- A key and what it has. -/
structure PR where
  key : List UInt8
  v : V
/-- A slot: a pair, or a node below. -/
structure SL where
  p : PR
  bel : Option Addr
def PR.l (p : PR) : List Value := sv p.key :: p.v.l
def SL.l (s : SL) : List Value := [sv s.p.key, .int .i64 s.p.v.sk, .int .i64 s.p.v.si, sv s.p.v.st, .int .i64 s.p.v.kd, .pointer s.p.v.vec, .int .u64 s.p.v.seed, .int .i64 s.p.v.bits, .int .i64 s.p.v.n, .pointer s.p.v.dic, .int .i64 s.p.v.bel, .int .i64 s.p.v.mor, .pointer s.bel]
def SL.a (s : SL) : Value := .agg #[.string ⟨s.p.key.toArray⟩, .int .i64 s.p.v.sk, .int .i64 s.p.v.si, .string ⟨s.p.v.st.toArray⟩, .int .i64 s.p.v.kd, .pointer s.p.v.vec, .int .u64 s.p.v.seed, .int .i64 s.p.v.bits, .int .i64 s.p.v.n, .pointer s.p.v.dic, .int .i64 s.p.v.bel, .int .i64 s.p.v.mor, .pointer s.bel]
def PR.a (p : PR) : Value := .agg #[.string ⟨p.key.toArray⟩, .int .i64 p.v.sk, .int .i64 p.v.si, .string ⟨p.v.st.toArray⟩, .int .i64 p.v.kd, .pointer p.v.vec, .int .u64 p.v.seed, .int .i64 p.v.bits, .int .i64 p.v.n, .pointer p.v.dic, .int .i64 p.v.bel, .int .i64 p.v.mor]
def PR.z : PR := ⟨[], V.z⟩
def SL.z : SL := ⟨PR.z, none⟩
def eS : Enc SL := ⟨SL.l, 13, fun _ => rfl, fun s u hu => by
  simp only [SL.l, List.mem_cons, List.not_mem_nil, or_false] at hu
  rcases hu with rfl | rfl | rfl | rfl | rfl | rfl | rfl | rfl | rfl | rfl | rfl | rfl | rfl <;> rfl⟩
def eP : Enc PR := ⟨PR.l, 12, fun _ => rfl, fun s u hu => by
  simp only [PR.l, V.l, List.mem_cons, List.not_mem_nil, or_false] at hu
  rcases hu with rfl | rfl | rfl | rfl | rfl | rfl | rfl | rfl | rfl | rfl | rfl | rfl <;> rfl⟩
theorem fold_pop8 : (⟨(([0, 1, 1, 2, 1, 2, 2, 3, 1, 2, 2, 3, 2, 3, 3, 4, 1, 2, 2, 3, 2, 3, 3, 4, 2, 3, 3, 4, 3, 4, 4, 5, 1, 2, 2, 3, 2, 3, 3, 4, 2, 3, 3, 4, 3, 4, 4, 5, 2, 3, 3, 4, 3, 4, 4, 5, 3, 4, 4, 5, 4, 5, 5, 6].append [1, 2, 2, 3, 2, 3, 3, 4, 2, 3, 3, 4, 3, 4, 4, 5, 2, 3, 3, 4, 3, 4, 4, 5, 3, 4, 4, 5, 4, 5, 5, 6, 2, 3, 3, 4, 3, 4, 4, 5, 3, 4, 4, 5, 4, 5, 5, 6, 3, 4, 4, 5, 4, 5, 5, 6, 4, 5, 5, 6, 5, 6, 6, 7]).append ([1, 2, 2, 3, 2, 3, 3, 4, 2, 3, 3, 4, 3, 4, 4, 5, 2, 3, 3, 4, 3, 4, 4, 5, 3, 4, 4, 5, 4, 5, 5, 6, 2, 3, 3, 4, 3, 4, 4, 5, 3, 4, 4, 5, 4, 5, 5, 6, 3, 4, 4, 5, 4, 5, 5, 6, 4, 5, 5, 6, 5, 6, 6, 7].append [2, 3, 3, 4, 3, 4, 4, 5, 3, 4, 4, 5, 4, 5, 5, 6, 3, 4, 4, 5, 4, 5, 5, 6, 4, 5, 5, 6, 5, 6, 6, 7, 3, 4, 4, 5, 4, 5, 5, 6, 4, 5, 5, 6, 5, 6, 6, 7, 4, 5, 5, 6, 5, 6, 6, 7, 5, 6, 6, 7, 6, 7, 7, 8])).toArray⟩ : ByteArray) = Lib.pop8tab := by kernel_rfl
attribute [local go_sem high] fold_pop8
theorem cb' {w w' : World} {p : Addr} {u : Value} (hb : Below w.heap.size w w') (h : w.cell? p = some u) : w'.cell? p = some u := cell_keeps (S := fun _ => True) h (.of_below hb) trivial
end Go.Proofs.YtfcegalckjeafaaGreatDoor
namespace Go.Proofs.YtfcegalckjeafaaGreatDoor
open Go.RowKit Go.BigFrame
/-- A row of slots, as a value. -/
def RowIn (w : World) (S : Nat → Prop) (m : List (Option SL)) (v : Value) : Prop := m.length = 32 ∧ ∃ A c, v = .agg #[.int .u32 (Sp.bitsL m), .slice A (Sp.vals m).length c] ∧ (Sp.vals m).length ≤ c ∧ Reads w S 13 A (Sp.vals m).length (eS.fl (Sp.vals m))
theorem RowIn.keeps {w w' : World} {S : Nat → Prop} {m : List (Option SL)} {v : Value} (h : RowIn w S m v) (hk : Keeps S w w') : RowIn w' S m v := by
  obtain ⟨h1, A, c, h2, h3, h4⟩ := h
  exact ⟨h1, A, c, h2, h3, h4.keeps hk⟩
theorem RowIn.more {w : World} {S S' : Nat → Prop} {m : List (Option SL)} {v : Value} (h : RowIn w S m v) (hS : ∀ k, S k → S' k) : RowIn w S' m v := by
  obtain ⟨h1, A, c, h2, h3, h4⟩ := h
  exact ⟨h1, A, c, h2, h3, h4.more hS⟩
theorem EB.list {α : Type} {E : Enc α} {t : TypeId} {w : World} {g : Nat} {x : α} (h : EB E t w g x) : ∀ j u, (E.l x)[j]? = some u → w.cell? ((⟨g, 0, none⟩ : Addr).add j) = some u := fun j u hu => by
  rw [addr_plain, Blk.cell h]
  simpa using hu
end Go.Proofs.YtfcegalckjeafaaGreatDoor
namespace Go.Proofs.YtfcegalckjeafaaGreatDoor
open Go.RowKit Go.BigFrame
theorem IsR.rope {w : World} {S : Nat → Prop} {d : Nat} {vs : List V} {p : Option Addr} (h : IsR w S d vs p) : IsRope w S vs p := .inr ⟨d, h⟩
theorem up2 {S : Nat → Prop} {a b B k : Nat} (ha : B ≤ a) (hb : B ≤ b) (h : up (up S a) b k) : up S B k := by
  rcases h with (h | h) | h
  · exact .inl h
  · exact .inr (Nat.le_trans ha h)
  · exact .inr (Nat.le_trans hb h)
/-- A slice of one or two trees of a depth. -/
def NodesOut (w : World) (S : Nat → Prop) (d : Nat) (vs : List V) (e : Ending) (w' : World) : Prop := ∃ A c ks ps, e = .returned (.slice A ks.length c) ∧ 1 ≤ ks.length ∧ ks.length ≤ 2 ∧ ks.length ≤ c ∧ Reads w' (up S w.heap.size) 1 A ks.length (ps.map .pointer) ∧ Kids w' (up S w.heap.size) d ks ps ∧ ks.flatten = vs ∧ Below w.heap.size w w'
theorem RootOut.more {w w' : World} {S S' : Nat → Prop} {d : Nat} {vs : List V} {e : Ending} (h : RootOut w S d vs e w') (hS : ∀ k, S k → S' k) : RootOut w S' d vs e w' := by
  obtain ⟨p, e, h, hb⟩ := h
  exact ⟨p, e, h.more (fun k hk => hk.imp (hS k) id), hb⟩
theorem Reads.of_new {w : World} {B : Nat} {S : Nat → Prop} {t : TypeId} {size n c : Nat} {A : Option Addr} {xs : List Value} (h : w.ownsRow B t size (.slice A n c) n xs) : Reads w (up S B) size A n xs := (Reads.of_own h).more fun _ hk => .inr hk.1
theorem nodes_one {w w1 : World} {S : Nat → Prop} {d : Nat} {vs : List V} {p : Option Addr} (hp : IsR w1 (up S w.heap.size) d vs p) (hb : Below w.heap.size w w1) :
    NodesOut w S d vs (.returned (.slice (some ⟨w1.heap.size, 0, none⟩) 1 1)) (w1.alloc (.cells #[.pointer p] 35)) :=
  ⟨some ⟨w1.heap.size, 0, none⟩, 1, [vs], [p], rfl, by simp, by simp, by simp, (reads_new w1 35 [.pointer p]).more fun k hk => .inr (by have := hb.size; omega), (Kids.one hp).keeps (.of_below ((Below.refl _ _).alloc (Nat.le_refl _) _)), by simp, hb.alloc hb.size _⟩
theorem nodes_two {w w1 : World} {S : Nat → Prop} {d : Nat} {xs ys vs : List V} {p q : Option Addr} (hp : IsR w1 (up S w.heap.size) d xs p) (hq : IsR w1 (up S w.heap.size) d ys q) (hb : Below w.heap.size w w1) (hv : xs ++ ys = vs) :
    NodesOut w S d vs (.returned (.slice (some ⟨w1.heap.size, 0, none⟩) 2 2)) (w1.alloc (.cells #[.pointer p, .pointer q] 35)) :=
  ⟨some ⟨w1.heap.size, 0, none⟩, 2, [xs, ys], [p, q], rfl, by simp, by simp, by simp, (reads_new w1 35 [.pointer p, .pointer q]).more fun k hk => .inr (by have := hb.size; omega), ((Kids.one hp).app (Kids.one hq)).keeps (.of_below ((Below.refl _ _).alloc (Nat.le_refl _) _)), by simpa using hv, hb.alloc hb.size _⟩
set_option maxHeartbeats 1000000 in
theorem leaves_one (A : Option Addr) (c : Nat) (vs : List V) (S : Nat → Prop) (w : World) (hr : Reads w S 11 A vs.length (flat vs)) (h1 : 1 ≤ vs.length) (h2 : vs.length ≤ 16) (hc : vs.length ≤ c) :
    Calls Tryz.prog 219 #[.slice A vs.length c] w (NodesOut w S 1 vs) := by
  have HR := Lib.hid hr
  clear hr
  have h0 : ((vs.length : Int) ≤ 16) := by omega
  go_enter Tryz.func219, Tryz.ntmps219
  go_wp2_with fail
  refine (leaf_some _ _ vs S w HR.out h1 h2 hc).mono ?_
  rintro e w1 ⟨p, rfl, hp, hb⟩
  have HP := Lib.hid hp
  have HB := Lib.hid hb
  clear hp hb
  go_wp2
  go_ret
  exact nodes_one HP.out HB.out
theorem leaf_at {vs : List V} {n : Nat} (hn : Hid (vs.length = n)) (A : Option Addr) (c : Nat) (S : Nat → Prop) (w : World) (hr : Reads w S 11 A n (flat vs)) (h1 : 1 ≤ n) (h2 : n ≤ 16) (hc : n ≤ c) :
    Calls Tryz.prog 167 #[.slice A n c] w (RootOut w S 1 vs) := by
  obtain rfl : n = vs.length := hn.out.symm
  exact leaf_some A c vs S w hr h1 h2 hc
set_option maxHeartbeats 1000000 in
theorem leaves_two (A : Option Addr) (c : Nat) (vs : List V) (S : Nat → Prop) (w : World) (hr : Reads w S 11 A vs.length (flat vs)) (h1 : 16 < vs.length) (h2 : vs.length ≤ 32) (hc : vs.length ≤ c) :
    Calls Tryz.prog 219 #[.slice A vs.length c] w (NodesOut w S 1 vs) := by
  have HR := Lib.hid hr
  clear hr
  have h0 : ¬ ((vs.length : Int) ≤ 16) := by omega
  have hA : (0 : Int) ≤ (vs.length : Int) / 2 := by omega
  have hB : (vs.length : Int) / 2 ≤ (c : Int) := by omega
  have hC : (vs.length : Int) / 2 ≤ (vs.length : Int) := by omega
  have hD : ¬ c = vs.length / 2 := by omega
  have F1 : Hid (∀ w', Below w.heap.size w w' → Reads w' S 11 A (vs.length / 2) (flat (vs.take (vs.length / 2)))) := Lib.hid fun w' hb => by
    have := (HR.out.keeps (.of_below hb)).take_ (k := vs.length / 2) (by omega)
    rwa [flat_take] at this
  have F2 : Hid (∀ w', Below w.heap.size w w' → Reads w' S 11 (A.map fun x => x.add (vs.length / 2 * 11)) (vs.length - vs.length / 2) (flat (vs.drop (vs.length / 2)))) := Lib.hid fun w' hb => by
    have := (HR.out.keeps (.of_below hb)).cut (k := vs.length / 2) (by omega) hc
    rwa [flat_drop, if_neg hD] at this
  have F3 : Hid ((vs.take (vs.length / 2)).length = vs.length / 2) := Lib.hid (by rw [List.length_take]; omega)
  have F4 : Hid ((vs.drop (vs.length / 2)).length = vs.length - vs.length / 2) := Lib.hid (by rw [List.length_drop])
  go_enter Tryz.func219, Tryz.ntmps219
  go_wp2_with fail
  go_region_held3 (fun w' => Below w.heap.size w w') (first | exact (Below.refl _ _).drew | exact hB4 | exact hB3 | exact hB2 | exact hB1 | exact hB4.alloc hB4.size _)
    (first
      | (go_at_call 167; refine Calls.mono (leaf_at F4 A3 c3 (up S w2.heap.size) w3 (Reads.of_new HO3.out) (by omega) (by omega) hc3) ?_; rintro e w4 ⟨p4, rfl, hp4, hb4⟩; have hB4 := hB3.trans (hb4.mono hB3.size); have HP4 := Lib.hid hp4; have HP5 := Lib.hid (HP3.out.keeps (.of_below hb4)); clear hp4 hb4 HO3 HP3)
      | (go_at_call 180; refine Calls.mono (copyV _ (vs.length - vs.length / 2) _ (vs.drop (vs.length / 2)) S w2 (F2.out _ (by assumption)) (by omega)) ?_; rintro e w3 ⟨v3, rfl, ho3, hb3⟩; have hB3 := hB2.trans (hb3.mono hB2.size); have HP3 := Lib.hid (HP2.out.keeps (.of_below hb3)); obtain ⟨A3, c3, rfl, hc3⟩ := own_shape ho3; have HO3 := Lib.hid ho3; clear ho3 hb3 HP2)
      | (go_at_call 167; refine Calls.mono (leaf_at F3 A1 c1 (up S w.heap.size) w1 (Reads.of_new HO1.out) (by omega) (by omega) hc1) ?_; rintro e w2 ⟨p2, rfl, hp2, hb2⟩; have hB2 := hB1.trans (hb2.mono hB1.size); have HP2 := Lib.hid hp2; clear hp2 hb2 HO1)
      | (go_at_call 180; refine Calls.mono (copyV A (vs.length / 2) c (vs.take (vs.length / 2)) S w.drew (F1.out _ (by assumption)) (by omega)) ?_; rintro e w1 ⟨v1, rfl, ho1, hb1⟩; have hB1 := (Below.refl w.heap.size w).drew.trans hb1; obtain ⟨A1, c1, rfl, hc1⟩ := own_shape ho1; have HO1 := Lib.hid ho1; clear ho1 hb1))
  go_wp2
  go_ret
  exact nodes_two (HP5.out.more fun _ => up2 (Nat.le_refl _) hB1.size) (HP4.out.more fun _ => up2 hB2.size hB3.size) hB4 (List.take_append_drop _ _)
set_option maxHeartbeats 1000000 in
theorem inners_one (A : Option Addr) (c d : Nat) (ks : List (List V)) (ps : List (Option Addr)) (S : Nat → Prop) (w : World) (hr : Reads w S 1 A ks.length (ps.map .pointer)) (hk : Kids w S d ks ps) (h1 : 2 ≤ ks.length) (h2 : ks.length ≤ 16) (hc : ks.length ≤ c) (hn : flen ks ≤ 65536) (hd : d ≤ 64) :
    Calls Tryz.prog 218 #[.slice A ks.length c] w (NodesOut w S (d + 1) ks.flatten) := by
  have HR := Lib.hid hr
  have HK := Lib.hid hk
  clear hr hk
  have h0 : ((ks.length : Int) ≤ 16) := by omega
  go_enter Tryz.func218, Tryz.ntmps218
  go_wp2_with fail
  refine (inner_two _ _ d ks ps S w HR.out HK.out h1 h2 hc hn hd).mono ?_
  rintro e w1 ⟨p, rfl, hp, hb⟩
  have HP := Lib.hid hp
  have HB := Lib.hid hb
  clear hp hb
  go_wp2
  go_ret
  exact nodes_one HP.out HB.out
theorem inner_at {ks : List (List V)} {n : Nat} (hn : Hid (ks.length = n)) (A : Option Addr) (c d : Nat) (ps : List (Option Addr)) (S : Nat → Prop) (w : World) (hr : Reads w S 1 A n (ps.map .pointer)) (hk : Kids w S d ks ps) (h1 : 2 ≤ n) (h2 : n ≤ 16) (hc : n ≤ c) (hf : flen ks ≤ 65536) (hd : d ≤ 64) :
    Calls Tryz.prog 196 #[.slice A n c] w (RootOut w S (d + 1) ks.flatten) := by
  obtain rfl : n = ks.length := hn.out.symm
  exact inner_two A c d ks ps S w hr hk h1 h2 hc hf hd
theorem flen_drop (ks : List (List V)) (k : Nat) : flen (ks.drop k) ≤ flen ks := by
  have : ks.flatten = (ks.take k).flatten ++ (ks.drop k).flatten := by rw [← List.flatten_append, List.take_append_drop]
  unfold flen
  rw [this]; simp
set_option maxHeartbeats 1000000 in
theorem inners_two (A : Option Addr) (c d : Nat) (ks : List (List V)) (ps : List (Option Addr)) (S : Nat → Prop) (w : World) (hr : Reads w S 1 A ks.length (ps.map .pointer)) (hk : Kids w S d ks ps) (h1 : 16 < ks.length) (h2 : ks.length ≤ 32) (hc : ks.length ≤ c) (hn : flen ks ≤ 65536) (hd : d ≤ 64) :
    Calls Tryz.prog 218 #[.slice A ks.length c] w (NodesOut w S (d + 1) ks.flatten) := by
  have HR := Lib.hid hr
  have HK := Lib.hid hk
  clear hr hk
  have h0 : ¬ ((ks.length : Int) ≤ 16) := by omega
  have hA : (0 : Int) ≤ (ks.length : Int) / 2 := by omega
  have hB : (ks.length : Int) / 2 ≤ (c : Int) := by omega
  have hC : (ks.length : Int) / 2 ≤ (ks.length : Int) := by omega
  have hD : ¬ c = ks.length / 2 := by omega
  have F1 : Hid (∀ w', Below w.heap.size w w' → Reads w' S 1 A (ks.length / 2) ((ps.take (ks.length / 2)).map .pointer)) := Lib.hid fun w' hb => by
    have := (HR.out.keeps (.of_below hb)).take_ (k := ks.length / 2) (by omega)
    rwa [Nat.mul_one, ← List.map_take] at this
  have F2 : Hid (∀ w', Below w.heap.size w w' → Reads w' S 1 (A.map fun x => x.add (ks.length / 2)) (ks.length - ks.length / 2) ((ps.drop (ks.length / 2)).map .pointer)) := Lib.hid fun w' hb => by
    have := (HR.out.keeps (.of_below hb)).cut (k := ks.length / 2) (by omega) hc
    rwa [Nat.mul_one, if_neg hD, ← List.map_drop] at this
  have F3 : Hid ((ks.take (ks.length / 2)).length = ks.length / 2) := Lib.hid (by rw [List.length_take]; omega)
  have F4 : Hid ((ks.drop (ks.length / 2)).length = ks.length - ks.length / 2) := Lib.hid (by rw [List.length_drop])
  have hf1 := Nat.le_trans (flen_take ks (ks.length / 2)) hn
  have hf2 := Nat.le_trans (flen_drop ks (ks.length / 2)) hn
  go_enter Tryz.func218, Tryz.ntmps218
  go_wp2_with fail
  go_region_held3 (fun w' => Below w.heap.size w w') (first | exact (Below.refl _ _).drew | exact hB4 | exact hB3 | exact hB2 | exact hB1 | exact hB4.alloc hB4.size _)
    (first
      | (go_at_call 196; refine Calls.mono (inner_at F4 A3 c3 d _ (up S w2.heap.size) w3 (Reads.of_new HO3.out) (((HK.out.keeps (.of_below hB3)).drop _).more fun _ => up_in) (by omega) (by omega) hc3 hf2 hd) ?_; rintro e w4 ⟨p4, rfl, hp4, hb4⟩; have hB4 := hB3.trans (hb4.mono hB3.size); have HP4 := Lib.hid hp4; have HP5 := Lib.hid (HP3.out.keeps (.of_below hb4)); clear hp4 hb4 HO3 HP3)
      | (go_at_call 197; refine Calls.mono (copyP _ (ks.length - ks.length / 2) _ (ps.drop (ks.length / 2)) S w2 (F2.out _ (by assumption)) (by omega)) ?_; rintro e w3 ⟨v3, rfl, ho3, hb3⟩; have hB3 := hB2.trans (hb3.mono hB2.size); have HP3 := Lib.hid (HP2.out.keeps (.of_below hb3)); obtain ⟨A3, c3, rfl, hc3⟩ := own_shape ho3; have HO3 := Lib.hid ho3; clear ho3 hb3 HP2)
      | (go_at_call 196; refine Calls.mono (inner_at F3 A1 c1 d _ (up S w.heap.size) w1 (Reads.of_new HO1.out) (((HK.out.keeps (.of_below hB1)).take _).more fun _ => up_in) (by omega) (by omega) hc1 hf1 hd) ?_; rintro e w2 ⟨p2, rfl, hp2, hb2⟩; have hB2 := hB1.trans (hb2.mono hB1.size); have HP2 := Lib.hid hp2; clear hp2 hb2 HO1)
      | (go_at_call 197; refine Calls.mono (copyP A (ks.length / 2) c (ps.take (ks.length / 2)) S w.drew (F1.out _ (by assumption)) (by omega)) ?_; rintro e w1 ⟨v1, rfl, ho1, hb1⟩; have hB1 := (Below.refl w.heap.size w).drew.trans hb1; obtain ⟨A1, c1, rfl, hc1⟩ := own_shape ho1; have HO1 := Lib.hid ho1; clear ho1 hb1))
  go_wp2
  go_ret
  exact nodes_two (HP5.out.more fun _ => up2 (Nat.le_refl _) hB1.size) (HP4.out.more fun _ => up2 hB2.size hB3.size) hB4 (by rw [← List.flatten_append, List.take_append_drop])
end Go.Proofs.YtfcegalckjeafaaGreatDoor
