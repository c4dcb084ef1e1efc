/-
  THE WALKS of the statements' helpers same, alike, live.
-/
import Derived.Test.YtbgmlcakdkkfdaaDoorSpG
namespace Go.Proofs.YtbgmlcakdkkfdaaDoor
open Go.RowKit Go.BigFrame

/-- The cells of a block, and that it is a block of so many. -/
def bcells (h : Array Obj) (g : Nat) : Array Value := match h[g]? with | some (.cells cs _ _) => cs | _ => #[]
def Whole (n : Nat) (h : Array Obj) (g : Nat) : Prop := ∃ cs t fr, h[g]? = some (.cells cs t fr) ∧ cs.size = n
theorem bcells_of {H : Array Obj} {g t : Nat} {cs : Array Value} {fr : Nat × Nat} (h : H[g]? = some (.cells cs t fr)) : bcells H g = cs := by simp [bcells, h]
theorem whole_of {H : Array Obj} {g t : Nat} {cs : Array Value} {fr : Nat × Nat} (h : H[g]? = some (.cells cs t fr)) (n : Nat) (hn : cs.size = n) : Whole n H g := ⟨cs, t, fr, h, hn⟩
theorem bcells_eq {H H' : Array Obj} {g : Nat} (h : H'[g]? = H[g]?) : bcells H' g = bcells H g := by simp [bcells, h]
theorem whole_eq {H H' : Array Obj} {g n : Nat} (h : H'[g]? = H[g]?) (hw : Whole n H g) : Whole n H' g := by
  obtain ⟨cs, t, fr, h1, h2⟩ := hw
  exact ⟨cs, t, fr, h.trans h1, h2⟩
theorem drew_heap (w : World) : w.drew.heap = w.heap := rfl
theorem drewN_heap (w : World) (n : Nat) : (w.drewN n).heap = w.heap := rfl
/-- A load of the document's row, whole. -/
theorem run_load_ref {w : World} {g : Nat} (h : Whole 64 w.heap g) :
    (Instr.loadAt 33 (.pointer (some ⟨g, 0, none⟩))).run Tryd.prog w = .ok (.agg (bcells w.heap g)) w := by
  obtain ⟨cs, t, fr, h1, h2⟩ := h
  simp only [Instr.loadAt, Instr.sureAddr, Sem.run_bind, Sem.run_pure, Result.andThen_ok]
  rw [bcells_of h1]
  exact run_loadVar_row w g t 33 _ fr _ h1 Tryd.underlying33 rfl (by rw [h2]; kernel_rfl)
def isHead : Value → Bool
  | .pointer (some ⟨_, 0, none⟩) => true
  | _ => false
def blockOf : Value → Nat
  | .pointer (some a) => a.block
  | _ => 0
theorem isHead_ptr (g : Nat) : isHead (.pointer (some ⟨g, 0, none⟩)) = true := rfl
theorem blockOf_ptr (a : Addr) : blockOf (.pointer (some a)) = a.block := rfl
theorem isHead_of {v : Value} (h : isHead v = true) : ∃ g, v = .pointer (some ⟨g, 0, none⟩) := by
  unfold isHead at h
  split at h
  · exact ⟨_, rfl⟩
  · cases h
theorem exec_load_ref {w : World} {ρ : Operand → Value} {dst : Option Tmp} {x : Operand} {ty : TypeId} {pos : String} {after : Array Edge} {guard : Option (Nat × Bool)} (h1 : isHead (ρ x) = true) (h2 : Whole 64 w.heap (blockOf (ρ x))) :
    (execOp ρ ⟨dst, .load 33 x, ty, pos, after, guard⟩).run Tryd.prog w = .ok (.value (.agg (bcells w.heap (blockOf (ρ x))))) w := by
  obtain ⟨g, hg⟩ := isHead_of h1
  rw [hg, blockOf_ptr] at h2 ⊢
  have := run_load_ref (g := g) h2
  unfold execOp
  simp only [hg, Sem.run_bind, Sem.run_pure]
  rw [this]
  rfl
attribute [local go_sem ↓] exec_load_ref
attribute [local go_sem] isHead_ptr blockOf_ptr drew_heap drewN_heap

theorem firstV_shape (m : List (Option Int)) : ∃ (i x : Int) (b : Bool), firstV m = .tuple #[.int .i64 i, .int .i64 x, .bool b] := by
  unfold firstV
  split
  · exact ⟨_, _, _, rfl⟩
  · exact ⟨_, _, _, rfl⟩
/-- The two boxes of 'same'. -/
def SameInv (w : World) (m : List (Option Int)) (A : Option Addr) (c : Nat) (wr : World) : Prop :=
  Blk wr w.heap.size 26 #[.int .u32 (Sp.bitsL m), .slice A (Sp.vals m).length c] ∧ Blk wr (w.heap.size + 1) 33 (refL m).toArray ∧ Below w.heap.size w wr
theorem SameInv.facts {w : World} {m : List (Option Int)} {A : Option Addr} {c : Nat} {wr : World} (h : SameInv w m A c wr) (hm : m.length = 32) :
    wr.cell? ⟨w.heap.size, 0, none⟩ = some (.int .u32 (Sp.bitsL m)) ∧ wr.cell? ⟨w.heap.size, 1, none⟩ = some (.slice A (Sp.vals m).length c) ∧ bcells wr.heap (w.heap.size + 1) = (refL m).toArray ∧ Whole 64 wr.heap (w.heap.size + 1) :=
  ⟨h.1.cell 0, h.1.cell 1, bcells_of h.2.1, whole_of h.2.1 64 (by simp [refL_len, hm])⟩
theorem SameInv.step {w : World} {m : List (Option Int)} {A : Option Addr} {c : Nat} {wr wr' : World} (h : SameInv w m A c wr) (hb : Below wr.heap.size wr wr') : SameInv w m A c wr' :=
  ⟨h.1.below hb h.1.lt, h.2.1.below hb h.2.1.lt, h.2.2.trans (hb.mono h.2.2.size)⟩

set_option maxHeartbeats 1000000 in
theorem same_any (m : List (Option Int)) (v : Value) (w : World) (S : Nat → Prop) (hv : RowIn w S m v) (hT : TabAt w) (hg : 0 < w.heap.size) :
    Calls Tryd.prog 12 #[v, .agg (refL m).toArray] w fun e w' => e = .returned (.bool true) ∧ Below w.heap.size w w' := by
  have HV := Lib.hid hv
  obtain ⟨hm, hS, A, c, rfl, hc, hr⟩ := hv
  have HSS := Lib.hid hS
  have HM := Lib.hid hm
  have HT := Lib.hid hT
  clear hm hc hr hS hT
  have hx1 : ((w.alloc (.cells #[.int .u32 (Sp.bitsL m), .slice A (Sp.vals m).length c] 26)).alloc (.cells (refL m).toArray 33)).heap[w.heap.size + 1]? = some (.cells (refL m).toArray 33 (0, 0)) := heap_alloc2_new _ _ _
  have L64 : (refL m).toArray.size = 64 := by simp [refL_len, HM.out]
  have hx2 := bcells_of hx1
  have hx3 := whole_of hx1 64 L64
  have HX1 := Lib.hid hx1
  have hB0 : Hid (Below w.heap.size w ((w.alloc (.cells #[.int .u32 (Sp.bitsL m), .slice A (Sp.vals m).length c] 26)).alloc (.cells (refL m).toArray 33))) := Lib.hid (((Below.refl _ _).alloc (Nat.le_refl _) _).alloc (by simp) _)
  have HL64 := Lib.hid L64
  clear hx1 L64
  go_enter Tryd.func12, Tryd.ntmps12
  go_wp2_with fail
  go_region_held3 (fun w' => w'.cell? ⟨w.heap.size, 0, none⟩ = some (.int .u32 (Sp.bitsL m)) ∧ w'.cell? ⟨w.heap.size, 1, none⟩ = some (.slice A (Sp.vals m).length c) ∧ bcells w'.heap (w.heap.size + 1) = (refL m).toArray ∧ Whole 64 w'.heap (w.heap.size + 1) ∧ Below w.heap.size w w' ∧ w'.heap[w.heap.size]? = some (.cells #[.int .u32 (Sp.bitsL m), .slice A (Sp.vals m).length c] 26 (0, 0)) ∧ w'.heap[w.heap.size + 1]? = some (.cells (refL m).toArray 33 (0, 0)))
    (first | (refine ⟨?_, ?_, hx2, hx3, hB0.out.drew, heap_alloc2_old _ _ _, HX1.out⟩ <;> go_simp) | (go_split_ands; refine ⟨?_, ?_, ?_, ?_, ?_, ?_, ?_⟩ <;> first | (exact Below.trans (by assumption) (hb1.mono (by (try simp) <;> omega))) | (rw [hb1.block _ (by (try simp) <;> omega)]; assumption) | (rw [hb1.cell (by (try simp) <;> omega)]; assumption) | (rw [bcells_eq (hb1.block _ (by (try simp) <;> omega))]; assumption) | (exact whole_eq (hb1.block _ (by (try simp) <;> omega)) (by assumption))))
    (first
      | (go_at_call 27; refine (len_any _ _ _ _ _).mono ?_; rintro e w1 ⟨rfl, hb1⟩; have hz1 := hb1.size; (try simp at hz1))
      | (go_at_call 20; refine (refLen_any _ _ HM.out).mono ?_; rintro e w1 ⟨rfl, hb1⟩; have hz1 := hb1.size; (try simp at hz1))
      | (go_at_call 23; refine (bits_any _ _ _).mono ?_; rintro e w1 ⟨rfl, hb1⟩; have hz1 := hb1.size; (try simp at hz1))
      | (go_at_call 24; refine (refBits_any _ _ HM.out).mono ?_; rintro e w1 ⟨rfl, hb1⟩; have hz1 := hb1.size; (try simp at hz1)))
  go_split_ands
  have hI : Hid (SameInv w m A c w1) := Lib.hid ⟨by assumption, by assumption, by assumption⟩
  clear hB0 HX1 HL64 hx2 hx3
  go_wp2
  go_loopw [5] (fun i wr => ∃ k : Nat, k ≤ 35 ∧ i = .int .i64 ((k : Int) - 1) ∧ Hid (SameInv w m A c wr)) (fun i _ => (34 - intOf i).toNat)
  case atStart => exact ⟨0, by omega, rfl, hI⟩
  case round =>
    obtain ⟨k, hk, rfl, hJ⟩ := hrel
    by_cases hlt : k < 35
    · have hk1 : (k : Int) - 1 < 34 := by omega
      have hsz := hJ.out.2.2.size
      have f1 := hJ.out.facts HM.out
      have hne1 : ((Sp.getM m ((k : Int) - 1)).getD 0 != (Sp.getM m ((k : Int) - 1)).getD 0) = false := by simp
      have hne2 : ((Sp.getM m ((k : Int) - 1)).isSome != (Sp.getM m ((k : Int) - 1)).isSome) = false := by simp
      go_wp2_with fail
      refine (get_any m _ _ _ S (HV.out.below hJ.out.2.2)).mono ?_
      rintro e w2 ⟨rfl, hb2⟩
      have hJ2 := Lib.hid (hJ.out.step hb2)
      clear f1 hb2
      have f2 := hJ2.out.facts HM.out
      go_wp2_with fail
      refine (refGet_any m _ _ HM.out).mono ?_
      rintro e w3 ⟨rfl, hb3⟩
      have hJ3 := Lib.hid (hJ2.out.step hb3)
      clear f2 hb3
      generalize (Sp.getM m ((k : Int) - 1)).getD 0 = gx at *
      generalize (Sp.getM m ((k : Int) - 1)).isSome = gb at *
      go_wp2
      go_roundw
      case rel => exact ⟨k + 1, by omega, by go_num, hJ3⟩
      case measure => simp [intOf]; omega
    · have hk35 : k = 35 := by omega
      subst hk35
      have f1 := hJ.out.facts HM.out
      go_wp2_with fail
      refine (first_any m _ _ S (HV.out.below hJ.out.2.2) (HT.out.below hJ.out.2.2 hg) (Nat.lt_of_lt_of_le hg hJ.out.2.2.size)).mono ?_
      rintro e w2 ⟨rfl, hb2⟩
      have hJ2 := Lib.hid (hJ.out.step hb2)
      clear f1 hb2
      have f2 := hJ2.out.facts HM.out
      obtain ⟨fi, fx, fb, hfv⟩ := firstV_shape m
      have HFV := Lib.hid hfv
      rw [hfv]
      clear hfv
      go_wp2_with fail
      refine (refFirst_any m _ HM.out).mono ?_
      rintro e w3 ⟨rfl, hb3⟩
      have hJ3 := Lib.hid (hJ2.out.step hb3)
      clear f2 hb3
      rw [HFV.out]
      have h1 : (fi == fi) = true := by simp
      have h2 : (fx == fx) = true := by simp
      have h3 : (fb == fb) = true := by simp
      go_wp2
      go_ret
      exact ⟨rfl, hJ3.out.2.2⟩
end Go.Proofs.YtbgmlcakdkkfdaaDoor
