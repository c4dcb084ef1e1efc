/-
  THE WALK of SparseOrder.
-/
import Derived.Test.YtbgmlcakdkkfdaaDoorSpO
import Derived.Deep.RegionHeld3
import Derived.Deep.DeepCutAuto
import Derived.BigQuiet
namespace Go.Proofs.YtbgmlcakdkkfdaaDoor
open Go.RowKit Go.BigFrame

/-- Two operations in boxes of their own, the row in another. -/
def OrdInv (w : World) (a b : SOp) (g : Nat) (m : List (Option Int)) (wr : World) : Prop :=
  Blk wr w.heap.size 42 #[.int .i64 a.I, .int .i64 a.X, .bool a.Cut] ∧ Blk wr (w.heap.size + 1) 42 #[.int .i64 b.I, .int .i64 b.X, .bool b.Cut] ∧ Below w.heap.size w wr ∧ w.heap.size + 1 < g ∧ Box wr g m
theorem OrdInv.below {w wr wr' : World} {a b : SOp} {g : Nat} {m : List (Option Int)} (h : OrdInv w a b g m wr) (hb : Below wr.heap.size wr wr') : OrdInv w a b g m wr' :=
  ⟨h.1.below hb h.1.lt, h.2.1.below hb h.2.1.lt, h.2.2.1.trans (hb.mono h.2.2.1.size), h.2.2.2.1, h.2.2.2.2.below hb⟩
theorem OrdInv.does {w w1 : World} {a b : SOp} {g : Nat} {m m1 : List (Option Int)} {S : Nat → Prop} {A : Option Addr} {c : Nat} (h : OrdInv w a b g m w1) (hS : ∀ k, S k → g < k ∧ k < w1.heap.size)
    (hv : RowIn w1 S m1 (.agg #[.int .u32 (Sp.bitsL m1), .slice A (Sp.vals m1).length c])) :
    OrdInv w a b g m1 ((w1.setCell ⟨g, 0, none⟩ (.int .u32 (Sp.bitsL m1))).setCell ⟨g, 1, none⟩ (.slice A (Sp.vals m1).length c)) := by
  obtain ⟨h1, h2, h3, h4, h5⟩ := h
  have e1 : w.heap.size ≠ g := by omega
  have e2 : w.heap.size + 1 ≠ g := by omega
  exact ⟨(h1.far (p := ⟨g, 0, none⟩) e1 _).far (p := ⟨g, 1, none⟩) e1 _, (h2.far (p := ⟨g, 0, none⟩) e2 _).far (p := ⟨g, 1, none⟩) e2 _,
    (h3.setCell (p := ⟨g, 0, none⟩) (by simp; omega) _).setCell (p := ⟨g, 1, none⟩) (by simp; omega) _, h4, h5.does (Below.refl _ _) hS hv⟩
theorem OrdInv.facts {w wr : World} {a b : SOp} {g : Nat} {m : List (Option Int)} (h : OrdInv w a b g m wr) :
    wr.cell? ⟨w.heap.size, 0, none⟩ = some (.int .i64 a.I) ∧ wr.cell? ⟨w.heap.size, 1, none⟩ = some (.int .i64 a.X) ∧ wr.cell? ⟨w.heap.size, 2, none⟩ = some (.bool a.Cut) ∧
    wr.cell? ⟨w.heap.size + 1, 0, none⟩ = some (.int .i64 b.I) ∧ wr.cell? ⟨w.heap.size + 1, 1, none⟩ = some (.int .i64 b.X) ∧ wr.cell? ⟨w.heap.size + 1, 2, none⟩ = some (.bool b.Cut) :=
  ⟨h.1.cell 0, h.1.cell 1, h.1.cell 2, h.2.1.cell 0, h.2.1.cell 1, h.2.1.cell 2⟩

set_option maxHeartbeats 1000000 in
theorem order_long (A : Option Addr) (n c : Nat) (a b : SOp) (w : World) (hT : TabAt w) (hg : 0 < w.heap.size) (hn : 100 < n) :
    Calls Tryd.prog 6 #[.slice A n c, .agg #[.int .i64 a.I, .int .i64 a.X, .bool a.Cut], .agg #[.int .i64 b.I, .int .i64 b.X, .bool b.Cut]] w (TrueOut w) := by
  have HT := Lib.hid hT
  have hB0 : Hid (Below w.heap.size w ((w.alloc (.cells #[.int .i64 a.I, .int .i64 a.X, .bool a.Cut] 42)).alloc (.cells #[.int .i64 b.I, .int .i64 b.X, .bool b.Cut] 42))) := Lib.hid (((Below.refl _ _).alloc (Nat.le_refl _) _).alloc (by simp) _)
  clear hT
  go_enter Tryd.func6, Tryd.ntmps6
  go_wp2_with fail
  refine (live_any _ (HT.out.below hB0.out hg) (by have := hB0.out.size; omega)).mono ?_
  rintro e w1 ⟨rfl, hb1⟩
  have hB1 := Lib.hid (hB0.out.trans (hb1.mono hB0.out.size))
  clear hb1
  go_wp2_with fail
  refine (live_any _ (HT.out.below hB1.out hg) (by have := hB1.out.size; omega)).mono ?_
  rintro e w2 ⟨rfl, hb2⟩
  go_wp2
  go_ret
  exact ⟨rfl, hB1.out.trans (hb2.mono hB1.out.size)⟩

set_option maxHeartbeats 1000000 in
theorem order_core (l : List SOp) (A : Option Addr) (c : Nat) (a b : SOp) (w : World) (hT : TabAt w) (hg : 0 < w.heap.size) (hn : l.length ≤ 100) (hl : OpsIn w.heap.size w A l) :
    Calls Tryd.prog 6 #[.slice A l.length c, .agg #[.int .i64 a.I, .int .i64 a.X, .bool a.Cut], .agg #[.int .i64 b.I, .int .i64 b.X, .bool b.Cut]] w (TrueOut w) := by
  have HT := Lib.hid hT
  have HL := Lib.hid hl
  have hB0 : Hid (Below w.heap.size w ((w.alloc (.cells #[.int .i64 a.I, .int .i64 a.X, .bool a.Cut] 42)).alloc (.cells #[.int .i64 b.I, .int .i64 b.X, .bool b.Cut] 42))) := Lib.hid (((Below.refl _ _).alloc (Nat.le_refl _) _).alloc (by simp) _)
  have hBa : Hid (Blk ((w.alloc (.cells #[.int .i64 a.I, .int .i64 a.X, .bool a.Cut] 42)).alloc (.cells #[.int .i64 b.I, .int .i64 b.X, .bool b.Cut] 42)) w.heap.size 42 #[.int .i64 a.I, .int .i64 a.X, .bool a.Cut]) := Lib.hid ((Blk.new w _ _).alloc _)
  have hBb : Hid (Blk ((w.alloc (.cells #[.int .i64 a.I, .int .i64 a.X, .bool a.Cut] 42)).alloc (.cells #[.int .i64 b.I, .int .i64 b.X, .bool b.Cut] 42)) (w.heap.size + 1) 42 #[.int .i64 b.I, .int .i64 b.X, .bool b.Cut]) := Lib.hid (by simpa using Blk.new (w.alloc (.cells #[.int .i64 a.I, .int .i64 a.X, .bool a.Cut] 42)) 42 #[.int .i64 b.I, .int .i64 b.X, .bool b.Cut])
  have hlen : (l.length : Int) ≤ 100 := by omega
  clear hT hl
  go_enter Tryd.func6, Tryd.ntmps6
  go_wp2_with fail
  refine (live_any _ (HT.out.below hB0.out hg) (by have := hB0.out.size; omega)).mono ?_
  rintro e w1 ⟨rfl, hb1⟩
  have hz1 := hb1.size
  simp at hz1
  have hI1 : Hid (OrdInv w a b w1.heap.size m0 (w1.alloc (.cells #[.int .u32 0, .slice none 0 0] 26))) := Lib.hid
    ⟨(hBa.out.below hb1 hBa.out.lt).alloc _, (hBb.out.below hb1 hBb.out.lt).alloc _, (hB0.out.trans (hb1.mono hB0.out.size)).alloc (by omega) _, by omega, Box.new w1⟩
  clear hb1 hB0 hBa hBb
  go_wp2_with fail
  go_loopw [22] (fun i wr => ∃ k : Nat, k ≤ l.length ∧ i = .int .i64 k ∧ Hid (OrdInv w a b w1.heap.size (runM m0 (l.take k)) wr)) (fun i _ => (l.length - intOf i).toNat)
  case atStart => exact ⟨0, by omega, rfl, hI1⟩
  case round =>
    obtain ⟨k, hk, rfl, hJ⟩ := hrel
    by_cases hlt : k < l.length
    · obtain ⟨o, ho⟩ : ∃ o, l[k]? = some o := ⟨l[k], List.getElem?_eq_getElem hlt⟩
      obtain ⟨ad, rfl, hadB, hcells⟩ := (HL.out.below hJ.out.2.2.1) (by omega)
      obtain ⟨cl1, cl2, cl3⟩ := hcells k o ho
      have HR := Lib.hid (runM_succ m0 l k o ho)
      obtain ⟨A0, c0, hb, hv⟩ := hJ.out.2.2.2.2
      have f0 := hb.two
      have hgl : w1.heap.size < wr.heap.size := hb.lt
      have hHV := Lib.hid hv
      clear hcells ho hb hv
      go_wp2_with fail
      refine (does_any _ _ o _ _ (hHV.out.belowS ((Below.refl _ _).alloc (Nat.le_refl _) _) (fun k hk => hk.2))).mono ?_
      rintro e w2 ⟨v2, rfl, hv2, hb2⟩
      have hJ2 := Lib.hid ((hJ.out.below ((Below.refl _ _).alloc (Nat.le_refl _) (.cells #[.int .i64 o.I, .int .i64 o.X, .bool o.Cut] 42))).below hb2)
      have HV2 := Lib.hid hv2
      obtain ⟨-, -, A2, c2, rfl, -, -⟩ := hv2
      obtain ⟨A3, c3, hb3, hv3⟩ := hJ2.out.2.2.2.2
      have f2 := hb3.two
      have hz2 := hb2.size
      simp at hz2
      clear hb2 hb3 hv3 f0 cl1 cl2 cl3
      have hJ4 := Lib.hid (hJ2.out.does (fun j hj => by rcases hj with h | ⟨h, h'⟩; exact ⟨h.1, by omega⟩; simp at h; exact ⟨by omega, h'⟩) HV2.out)
      clear HV2
      go_wp2
      go_roundw
      case rel => exact ⟨k + 1, by omega, by go_num, by rw [HR.out]; exact hJ4⟩
      case measure => simp [intOf]; omega
    · have hkl : k = l.length := by omega
      subst hkl
      rw [List.take_length] at hJ
      have hM : Hid ((runM m0 l).length = 32) := Lib.hid (runM_len m0_len l)
      generalize runM m0 l = M at *
      have f1 := hJ.out.facts
      obtain ⟨A0, c0, HV, f2, f3⟩ := hJ.out.2.2.2.2.rw
      clear hI1 HL
      have hsz : w1.heap.size < wr.heap.size := by obtain ⟨_, _, hb, _⟩ := hJ.out.2.2.2.2; exact hb.lt
      have hs2 := hJ.out.2.2.2.1
      have HB := Lib.hid hJ.out.2.2.1
      have hB0 : Below wr.heap.size wr wr.drew := (Below.refl _ _).drew
      go_wp2_with fail
      go_upto_region 9 with fail
      go_cut [48] (fun s wx => s = .bool false ∧ Hid (Below wr.heap.size wr wx))
      case first =>
        by_cases hab : a.I = b.I
        · have hne : (a.I != b.I) = false := by simp [hab]
          go_quiet (fail)
          go_wp2_with fail
          go_meet
          exact ⟨rfl, Lib.hid (Below.trans (Below.refl _ wr) ⟨rfl, rfl, rfl, Nat.le_refl _, fun _ _ => rfl⟩)⟩
        · have hne : (a.I != b.I) = true := by simp [hab]
          have HC : Hid (decide (doM (doM M a) b = doM (doM M b) a) = true) := Lib.hid (decide_eq_true (doM_comm M a b hM.out hab))
          clear hab
          go_region_held3 (fun w' => w'.cell? ⟨w.heap.size, 0, none⟩ = some (.int .i64 a.I) ∧ w'.cell? ⟨w.heap.size, 1, none⟩ = some (.int .i64 a.X) ∧ w'.cell? ⟨w.heap.size, 2, none⟩ = some (.bool a.Cut) ∧ w'.cell? ⟨w.heap.size + 1, 0, none⟩ = some (.int .i64 b.I) ∧ w'.cell? ⟨w.heap.size + 1, 1, none⟩ = some (.int .i64 b.X) ∧ w'.cell? ⟨w.heap.size + 1, 2, none⟩ = some (.bool b.Cut) ∧ w'.cell? ⟨w1.heap.size, 0, none⟩ = some (.int .u32 (Sp.bitsL M)) ∧ w'.cell? ⟨w1.heap.size, 1, none⟩ = some (.slice A0 (Sp.vals M).length c0) ∧ Below wr.heap.size wr w' ∧ wr.heap.size ≤ w'.heap.size)
            (first | (exact ⟨f1.1, f1.2.1, f1.2.2.1, f1.2.2.2.1, f1.2.2.2.2.1, f1.2.2.2.2.2, f2, f3, hB0, Nat.le_refl _⟩) | (go_split_ands; refine ⟨?_, ?_, ?_, ?_, ?_, ?_, ?_, ?_, ?_, ?_⟩ <;> first | (rw [hb9.cell (by (try simp) <;> omega)]; assumption) | (exact Below.trans (by assumption) (hb9.mono (by (try simp) <;> omega))) | omega))
            (first | (go_at_call 13; go_split_ands; refine (does_rw (by solve_by_elim (maxDepth := 8) [Rw.up])).mono ?_; rintro e w9 ⟨v9, rfl, hv9, hb9⟩; have hz9 := hb9.size) | (go_at_call 17; go_split_ands; refine (alike_rw (by solve_by_elim (maxDepth := 8) [Rw.up]) (by solve_by_elim (maxDepth := 8) [Rw.up])).mono ?_; rintro e w9 ⟨rfl, hb9⟩; have hz9 := hb9.size; rw [HC.out]))
          all_goals (go_split_ands; go_wp2_with fail; go_meet; exact ⟨rfl, Lib.hid (by assumption)⟩)
      case rest =>
        obtain ⟨rfl, hbx⟩ := hcut
        have hJ1 := Lib.hid (hJ.out.below hbx.out)
        have f4 := hJ1.out.facts
        obtain ⟨A1, c1, HV1, f5, f6⟩ := hJ1.out.2.2.2.2.rw
        clear f1 f2 f3 hB0 HV hbx hJ HB hsz
        go_wp2_with fail
        refine (get_rw HV1).mono ?_
        rintro e w2 ⟨rfl, hb2⟩
        have hJ2 := Lib.hid (hJ1.out.below hb2)
        have HV2 := Rw.up HV1 hb2
        have HB := Lib.hid hJ2.out.2.2.1
        clear f4 f5 f6 hb2 hJ1 HV1
        have f4 := hJ2.out.facts
        obtain ⟨A1, c1, HV1, f5, f6⟩ := hJ2.out.2.2.2.2.rw
        have hsz : w1.heap.size < w2.heap.size := by obtain ⟨_, _, hb, _⟩ := hJ2.out.2.2.2.2; exact hb.lt
        have hB0 : Below w2.heap.size w2 w2.drew := (Below.refl _ _).drew
        have HC := Lib.hid (cut_back M a hM.out)
        have HD : Hid (decide (doM (doM M a) a = doM M a) = true) := Lib.hid (decide_eq_true (doM_same M a hM.out))
        clear HV2 hJ2
        generalize (Sp.getM M a.I).isSome = is at *
        generalize (Sp.getM M a.I).getD 0 = gx at *
        have hbb : ((!!is) == is) = true := by cases is <;> rfl
        go_wp2_with fail
        go_region_held3 (fun w' => w'.cell? ⟨w.heap.size, 0, none⟩ = some (.int .i64 a.I) ∧ w'.cell? ⟨w.heap.size, 1, none⟩ = some (.int .i64 a.X) ∧ w'.cell? ⟨w.heap.size, 2, none⟩ = some (.bool a.Cut) ∧ w'.cell? ⟨w1.heap.size, 0, none⟩ = some (.int .u32 (Sp.bitsL M)) ∧ w'.cell? ⟨w1.heap.size, 1, none⟩ = some (.slice A1 (Sp.vals M).length c1) ∧ Below w2.heap.size w2 w' ∧ w2.heap.size ≤ w'.heap.size)
          (first | (exact ⟨f4.1, f4.2.1, f4.2.2.1, f5, f6, hB0, Nat.le_refl _⟩) | (go_split_ands; refine ⟨?_, ?_, ?_, ?_, ?_, ?_, ?_⟩ <;> first | (rw [hb9.cell (by (try simp) <;> omega)]; assumption) | (exact Below.trans (by assumption) (hb9.mono (by (try simp) <;> omega))) | omega))
          (first | (go_at_call 13; go_split_ands; refine (does_rw (by solve_by_elim (maxDepth := 8) [Rw.up])).mono ?_; rintro e w9 ⟨v9, rfl, hv9, hb9⟩; have hz9 := hb9.size) | (go_at_call 18; go_split_ands; refine (cut_rw (by solve_by_elim (maxDepth := 8) [Rw.up])).mono ?_; rintro e w9 ⟨v9, rfl, hv9, hb9⟩; have hz9 := hb9.size) | (go_at_call 17; go_split_ands; refine (alike_rw (by solve_by_elim (maxDepth := 8) [Rw.up]) (by solve_by_elim (maxDepth := 8) [Rw.up])).mono ?_; rintro e w9 ⟨rfl, hb9⟩; have hz9 := hb9.size; first | rw [HC.out] | rw [HD.out]))
        all_goals (go_split_ands; have hBz : Hid (Below w2.heap.size w2 w9) := Lib.hid (by assumption))
        all_goals (go_wp2; go_ret; exact ⟨rfl, HB.out.trans (hBz.out.mono HB.out.size)⟩)

theorem sparseOrder_any (l : List SOp) (A : Option Addr) (c : Nat) (a b : SOp) (w : World) (hT : TabAt w) (hg : 0 < w.heap.size) (hl : OpsIn w.heap.size w A l) :
    Calls Tryd.prog 6 #[.slice A l.length c, .agg #[.int .i64 a.I, .int .i64 a.X, .bool a.Cut], .agg #[.int .i64 b.I, .int .i64 b.X, .bool b.Cut]] w (TrueOut w) := by
  by_cases h : 100 < l.length
  · exact order_long A _ c a b w hT hg h
  · exact order_core l A c a b w hT hg (by omega) hl
end Go.Proofs.YtbgmlcakdkkfdaaDoor
