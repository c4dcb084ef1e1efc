/-
  THE WALK of SparseMade.
-/
import Derived.Test.YtbgmlcakdkkfdaaDoorSpK
import Derived.Test.YtbgmlcakdkkfdaaDoorLaws2
namespace Go.Proofs.YtbgmlcakdkkfdaaDoor
open Go.RowKit Go.BigFrame
attribute [local go_sem ↓] exec_load_ref
attribute [local go_sem] isHead_ptr blockOf_ptr drew_heap drewN_heap

def IsTrue (w : World) (e : Ending) (w' : World) : Prop := e = .returned (.bool true) ∧ Below w.heap.size w w'

set_option maxHeartbeats 1000000 in
theorem made_long (b n c : Nat) (A : Option Addr) (w : World) (hT : TabAt w) (hg : 0 < w.heap.size) (hn : 100 < n) :
    Calls Tryd.prog 3 #[.int .u32 b, .slice A n c] w (IsTrue w) := by
  have HT := Lib.hid hT
  clear hT
  go_enter Tryd.func3, Tryd.ntmps3
  go_wp2_with fail
  refine (live_any _ HT.out hg).mono ?_
  rintro e w1 ⟨rfl, hb1⟩
  go_wp2_with fail
  refine (live_any _ (HT.out.below hb1 hg) (by have := hb1.size; omega)).mono ?_
  rintro e w2 ⟨rfl, hb2⟩
  go_wp2
  go_ret
  exact ⟨rfl, hb1.trans (hb2.mono hb1.size)⟩

/-- What Of makes of bits and n things: a row, or the zero row and ErrArg. -/
def OfAny (w : World) (M : List (Option Int)) (code : Int) (e : Ending) (w' : World) : Prop :=
  ∃ v, e = .returned (.tuple #[v, .int .i64 code]) ∧ RowIn w' (Sx (fun _ => False) w w') M v ∧ Below w.heap.size w w'
theorem of_any (b c : Nat) (l : List Int) (A : Option Addr) (w : World) (hb : b < 4294967296) (S : Nat → Prop) (hS : ∀ k, S k → k < w.heap.size) (hr : Reads w S 1 A l.length (l.map (Value.int .i64))) :
    Calls Tryd.prog 10 #[.int .u32 b, .slice A l.length c] w (OfAny w (if Sp.cnt b 32 = l.length then Sp.ofBits 32 b l else m0) (if Sp.cnt b 32 = l.length then 0 else 1)) := by
  have hc : Sp.cnt b 32 = Lib.onesCount b := by rw [Sp.cnt_pop, Lib.onesCount, show (64 : Nat) = 32 + 32 by rfl, Sp.popAux_add0 32 32 b hb]
  rw [hc]
  by_cases h : Lib.onesCount b = l.length
  · rw [if_pos h, if_pos h]
    exact of_yes b c l A w hb h S hS hr
  · rw [if_neg h, if_neg h]
    refine (of_no b l.length c A w hb h).mono ?_
    rintro e w' ⟨rfl, hb'⟩
    exact ⟨_, rfl, (row_zero w').more (fun k h => h.elim) (fun k h => by rcases h with h | h; exact h.elim; exact h.2), hb'⟩

abbrev rowBox (M : List (Option Int)) (A : Option Addr) (c : Nat) : Array Value := #[.int .u32 (Sp.bitsL M), .slice A (Sp.vals M).length c]
/-- What the loop that writes into the list holds. -/
def MadeInv (w : World) (gB : Nat) (M : List (Option Int)) (A3 : Option Addr) (c3 : Nat) (A2 : Option Addr) (n c2 : Nat) (S3 : Nat → Prop) (wr : World) : Prop :=
  Blk wr gB 26 (rowBox M A3 c3) ∧ (∃ xs : List Int, wr.ownsRow w.heap.size 3 1 (.slice A2 n c2) n (xs.map (Value.int .i64))) ∧ RowIn wr S3 M (.agg (rowBox M A3 c3)) ∧ Below w.heap.size w wr
theorem MadeInv.put {w : World} {gB : Nat} {M : List (Option Int)} {A3 : Option Addr} {c3 : Nat} {g n c2 : Nat} {S3 : Nat → Prop} {wr : World} (h : MadeInv w gB M A3 c3 (some ⟨g, 0, none⟩) n c2 S3 wr)
    (h1 : g ≠ gB) (h2 : ¬ S3 g) (h3 : w.heap.size ≤ g) (j : Nat) (x : Int) : MadeInv w gB M A3 c3 (some ⟨g, 0, none⟩) n c2 S3 (wr.setCell ⟨g, j, none⟩ (.int .i64 x)) := by
  obtain ⟨a, ⟨xs, b⟩, c, d⟩ := h
  refine ⟨a.far (by simpa using Ne.symm h1) _, ⟨xs.set j x, ?_⟩, c.setCell h2 _, d.setCell h3 _⟩
  rw [List.map_set]
  exact (b.stored j _).1

set_option maxHeartbeats 1000000 in
theorem made_core (b c : Nat) (l : List Int) (A : Option Addr) (w : World) (M : List (Option Int)) (is : Bool) (code : Int) (hcode : Hid (code = if is then 0 else 1)) (hM : M.length = 32)
    (hO : Hid (∀ A c w S, (∀ k, S k → k < w.heap.size) → Reads w S 1 A l.length (l.map (Value.int .i64)) → Calls Tryd.prog 10 #[.int .u32 b, .slice A l.length c] w (OfAny w M code)))
    (hR : Hid (∀ A c w S, (∀ k, S k → k < w.heap.size) → Reads w S 1 A l.length (l.map (Value.int .i64)) → Calls Tryd.prog 11 #[.int .u32 b, .slice A l.length c] w fun e w' => e = .returned (.tuple #[.agg (refL M).toArray, .bool is]) ∧ Below w.heap.size w w'))
    (hT : TabAt w) (hg : 0 < w.heap.size) (S : Nat → Prop) (hS : ∀ k, S k → k < w.heap.size) (hr : Reads w S 1 A l.length (l.map (Value.int .i64))) (hn : l.length ≤ 100) :
    Calls Tryd.prog 3 #[.int .u32 b, .slice A l.length c] w (IsTrue w) := by
  obtain ⟨i0, hi0, hz0, hz1, hz2⟩ := info_parts int_info
  have HT := Lib.hid hT
  have HSS := Lib.hid hS
  have HR := Lib.hid hr
  have HM := Lib.hid hM
  clear hT hS hr hM
  go_enter Tryd.func3, Tryd.ntmps3
  go_wp2_with fail
  refine (live_any _ HT.out hg).mono ?_
  rintro e w1 ⟨rfl, hb1⟩
  have H1 : Hid (∀ v ∈ l.map (Value.int .i64), v.oneCell' = true) := Lib.hid fun v hv => by simp at hv; obtain ⟨y, _, rfl⟩ := hv; rfl
  have HR1 := Lib.hid ((HR.out.below hb1 HSS.out).alloc (fun k hk => Nat.lt_of_lt_of_le (HSS.out k hk) hb1.size) (.cells #[] 3))
  go_wp2_with (at_builtin; refine wpList_append_any _ rfl (.tmp 19) (.tmp 20) _ rfl w1.heap.size 3 i0 _ 1 8 Tryd.underlying23 hi0 hz0 hz1 hz2 rfl (by omega) (.slice (some ⟨w1.heap.size, 0, none⟩) 0 0) 0 [] rfl (ownsRow_empty w1 _ _) S A l.length c (l.map (Value.int .i64)) rfl HR1.out H1.out (by simp only [maxLen]; omega) (by omega) (by simp) ?_; intro v2 w2 hown2 hg2 hat2; simp only [Nat.zero_add, List.nil_append] at hown2; obtain ⟨A2, c2, rfl, hc2⟩ := ownsRow_slice hown2)
  have hB2 : Below w.heap.size w w2 := (hb1.alloc (hb1.size) _).grown hg2 (by have := hb1.size; simp; omega) (by intro k hk; simp [Value.ownBlock] at hk; have := hb1.size; omega)
  have HOWN2 := Lib.hid hown2
  have hb1s := hb1.size
  clear hg2 hat2 HR1 H1 hb1 hown2
  refine (hO.out A2 c2 w2 _ (fun k hk => hk.2) (Reads.of_own HOWN2.out)).mono ?_
  rintro e w3 ⟨v3, rfl, hv3, hb3⟩
  have HV3 := Lib.hid hv3
  obtain ⟨-, -, A3, c3, rfl, -, -⟩ := hv3
  have hs2 := hb3.size
  have hB3 := hB2.trans (hb3.mono hB2.size)
  have hI : Hid (MadeInv w w3.heap.size M A3 c3 A2 l.length c2 (Sx (fun _ => False) w2 w3) (w3.alloc (.cells #[.int .u32 (Sp.bitsL M), .slice A3 (Sp.vals M).length c3] 26))) := Lib.hid
    ⟨Blk.new w3 _ _, ⟨l, (ownsRow_below (ownsRow_base HOWN2.out hb1s) hb3).alloc _⟩, HV3.out.belowS ((Below.refl _ _).alloc (Nat.le_refl _) _) (fun k hk => by rcases hk with h | h; exact h.elim; exact h.2), hB3.alloc hB3.size _⟩
  have HNE : Hid (∀ g, A2 = some ⟨g, 0, none⟩ → 0 < l.length → g ≠ w3.heap.size ∧ ¬ Sx (fun _ => False) w2 w3 g ∧ w.heap.size ≤ g) := Lib.hid (by
    intro g hA hpos
    obtain ⟨g', cap, hv, hb', hlt⟩ := HOWN2.out.form hpos
    rw [hA] at hv
    injection hv with hv
    injection hv with hv
    injection hv with hv
    subst hv
    exact ⟨by omega, by rintro (h | ⟨h, _⟩); exact h.elim; omega, by omega⟩)
  have hlen63 : (l.length : Int) ≤ 100 := by omega
  clear hB2 HOWN2 hb3 HV3 hB3
  go_wp2_with fail
  go_loopw [30] (fun i wr => ∃ k : Nat, k ≤ l.length ∧ i = .int .i64 k ∧ Hid (MadeInv w w3.heap.size M A3 c3 A2 l.length c2 (Sx (fun _ => False) w2 w3) wr)) (fun i _ => (l.length - intOf i).toNat)
  case atStart => exact ⟨0, by omega, rfl, hI⟩
  case round =>
    obtain ⟨k, hk, rfl, hJ⟩ := hrel
    by_cases hlt : k < l.length
    · obtain ⟨xs, hown⟩ := hJ.out.2.1
      have hlen : xs.length = l.length := by have := hown.1; simpa using this
      obtain ⟨g, cap, hv, hbg, hgl⟩ := hown.form (by omega)
      injection hv with hA _ hc
      subst hA
      obtain ⟨n1, n2, n3⟩ := HNE.out g rfl (by omega)
      obtain ⟨x, hx⟩ : ∃ x, xs[k]? = some x := ⟨xs[k], List.getElem?_eq_getElem (by omega)⟩
      have hcell : wr.cell? ⟨g, k, none⟩ = some (.int .i64 x) := by
        rw [hown.cellAt k (by omega), List.getElem?_map, hx]; rfl
      have hfro := hown.frozenAt k
      have hlt' : (k : Int) < (l.length : Int) := by omega
      have hJ2 := fun y => Lib.hid (hJ.out.put n1 n2 n3 k y)
      have HJ2 := Lib.hid hJ2
      clear hown n2 hJ2 hx hlen
      go_wp2
      go_roundw
      case rel => exact ⟨k + 1, by omega, by go_num, HJ2.out _⟩
      case measure => simp [intOf]; omega
    · have hkl : k = l.length := by omega
      subst hkl
      have HR2 := Lib.hid (HR.out.below hJ.out.2.2.2 HSS.out)
      have hsz := hJ.out.2.2.2.size
      clear hI
      go_wp2_with fail
      refine (hR.out A c wr S (fun k hk => Nat.lt_of_lt_of_le (HSS.out k hk) hsz) HR2.out).mono ?_
      rintro e w5 ⟨rfl, hb5⟩
      have hBk5 := hJ.out.1.below hb5 hJ.out.1.lt
      have HV5 : Hid (RowIn w5 (Sx (fun _ => False) w2 w3) M (.agg (rowBox M A3 c3))) := Lib.hid (hJ.out.2.2.1.below hb5)
      have hB5 := hJ.out.2.2.2.trans (hb5.mono hsz)
      have hlt5 := hBk5.lt
      have hsz5 := hB5.size
      clear hJ hb5 HR2 HR HNE hO hR
      rcases (by cases is <;> simp : is = false ∨ is = true) with rfl | rfl
      · obtain rfl : code = 1 := hcode.out
        clear hcode
        go_wp2_with (first
          | (refine wpList_alloc_blk rfl 33 rfl (.agg (refL m0).toArray) ref_zero ?_; intro w6 HZ6 hb6 HS6)
          | (refine wpList_store_row rfl 33 (.tmp 9) (.tmp 44) rfl _ rfl _ rfl _ _ HZ6.out (ref_size _ HM.out) (by simp [Value.cells, refL_len, HM.out, m0_len]) (refL_one _) ?_; intro w7 HR7 ho7 hB7; have hBk7 : Blk w7 w3.heap.size 26 (rowBox M A3 c3) := (ho7 w3.heap.size (by omega)).trans (hBk5.below hb6 hlt5); have q7 := hBk7.two; have f7 := bcells_of HR7.out; have g7 := whole_of HR7.out 64 (by simp [refL_len, HM.out])))
        have hb57 := hB7 w5.heap.size w5 hb6 (Nat.le_refl _)
        have hB77 := hB5.trans (hb57.mono hsz5)
        refine (same_any M _ _ _ (HV5.out.below hb57) (HT.out.below hB77 hg) (by have := hB77.size; omega)).mono ?_
        rintro e w8 ⟨rfl, hb8⟩
        go_wp2
        go_ret
        exact ⟨rfl, hB77.trans (hb8.mono hB77.size)⟩
      · obtain rfl : code = 0 := hcode.out
        clear hcode
        go_wp2_with (first
          | (refine wpList_alloc_blk rfl 33 rfl (.agg (refL m0).toArray) ref_zero ?_; intro w6 HZ6 hb6 HS6)
          | (refine wpList_store_row rfl 33 (.tmp 9) (.tmp 44) rfl _ rfl _ rfl _ _ HZ6.out (ref_size _ HM.out) (by simp [Value.cells, refL_len, HM.out, m0_len]) (refL_one _) ?_; intro w7 HR7 ho7 hB7; have hBk7 : Blk w7 w3.heap.size 26 (rowBox M A3 c3) := (ho7 w3.heap.size (by omega)).trans (hBk5.below hb6 hlt5); have q7 := hBk7.two; have f7 := bcells_of HR7.out; have g7 := whole_of HR7.out 64 (by simp [refL_len, HM.out])))
        have hb57 := hB7 w5.heap.size w5 hb6 (Nat.le_refl _)
        have hB77 := hB5.trans (hb57.mono hsz5)
        refine (same_any M _ _ _ (HV5.out.below hb57) (HT.out.below hB77 hg) (by have := hB77.size; omega)).mono ?_
        rintro e w8 ⟨rfl, hb8⟩
        go_wp2
        go_ret
        exact ⟨rfl, hB77.trans (hb8.mono hB77.size)⟩
theorem made_any (b n c : Nat) (l : List Int) (A : Option Addr) (w : World) (hn : n = l.length) (hb : b < 4294967296) (hT : TabAt w) (hg : 0 < w.heap.size) (S : Nat → Prop) (hS : ∀ k, S k → k < w.heap.size) (hr : Reads w S 1 A l.length (l.map (Value.int .i64))) :
    Calls Tryd.prog 3 #[.int .u32 b, .slice A n c] w (IsTrue w) := by
  subst hn
  by_cases h : 100 < l.length
  · exact made_long b _ c A w hT hg h
  · exact made_core b c l A w _ _ _ (Lib.hid rfl) (by split; exact Sp.ofBits_len _ _ _; exact m0_len)
      (Lib.hid fun A c w S hS hr => by
        have h := of_any b c l A w hb S hS hr
        simpa only [decide_eq_true_eq] using h)
      (Lib.hid fun A c w S hS hr => refOf_any b c l A w S hS hr (by omega)) hT hg S hS hr (by omega)
end Go.Proofs.YtbgmlcakdkkfdaaDoor
