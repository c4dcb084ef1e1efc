/-
  WHAT THE LAID TABLE GIVES THE WALKS; the door's own heap meets it.
-/
import Derived.Test.YtbgmlcakdkkfdaaDoorRows
import Derived.Test.YtbgmlcakdkkfdaaDoorSpC
import Derived.LaidMore
import Derived.OpenShut
import Derived.ProofKit
namespace Go.Proofs.YtbgmlcakdkkfdaaDoor
open Go.RowKit Go.ChangeShapes Go.WideShapes

abbrev tabLaid : List (String × DataW Unit) := [("math/bits.deBruijn32tab", Rows.laid_math_bits_deBruijn32tab)]

theorem ownGo : ownKnob Tryd.prog.godebug = none := by kernel_rfl
theorem laidOut : laidOutB Tryd.prog = true := by kernel_rfl
theorem gTab : Tryd.prog.globalNamed "math/bits.deBruijn32tab" = some 0 := by kernel_rfl
theorem tTab : (Tryd.prog.globals[0]?).map (·.type) = some 69 := by kernel_rfl

theorem door_met (os : Os) (args : Array Value) : laidMetH Tryd.prog tabLaid ((World.doorLaid Tryd.prog 400 os).forCall (fun _ _ => 0) ⟨#[], args, []⟩).memory :=
  laidMetH_of_parts3 (fuel := 8) (laidMet_of_run' 8 (by kernel_rfl) (by kernel_rfl)) (by kernel_rfl) (by kernel_rfl)

theorem tab_data : (Rows.laid_math_bits_deBruijn32tab : DataW Unit) = .agg (Lib.deBruijn32tab.map fun (n : Nat) => .lit (.int .u8 (n : Int))) := rfl

theorem tab_of_laid {W : World} (h : laidMetH Tryd.prog tabLaid W) : TabAt W ∧ 0 < W.heap.size := by
  rw [MakeChecks.laidMetH_plain _ _ _ (by kernel_rfl)] at h
  obtain ⟨ps, ⟨g0, t0, cs0, f0, p0, q0, hg0, ht0, hv0, hd0, _, _⟩, _, _⟩ := h
  obtain rfl := Option.some.inj (gTab.symm.trans hg0)
  obtain rfl := Option.some.inj (tTab.symm.trans ht0)
  obtain ⟨xs, m, rfl, hx, hlen, hn, hel⟩ := DataW.trod_array Tryd.underlying69 hd0
  have c1 : Tryd.prog.cellsOf 5 = 1 := by kernel_rfl
  have hT : TabAt W := by
    intro j hj
    have hj' : j < 32 := hj
    have hxj : j < xs.length := by omega
    have h0 := hel j hj'
    rw [c1, Nat.mul_one, List.getElem?_eq_getElem hxj] at h0
    obtain ⟨k, e1, e2, _⟩ := DataW.trod_int Tryd.underlying5 h0
    have hx1 := congrArg Prod.fst hx
    rw [tab_data] at hx1
    simp only [DataW.agg.injEq] at hx1
    have hx2 := congrArg (·[j]?) hx1
    simp only [List.getElem?_map, List.getElem?_eq_getElem hxj, List.getElem?_eq_getElem hj, Option.map_some, e2, Option.some.injEq, DataW.lit.injEq, Lit.int.injEq, true_and] at hx2
    rw [World.var?_cell hg0 hv0 j]
    have hc : cs0.toList[j]? = some (.int .u8 k) := by
      have := congrArg (·[0]?) e1
      simpa using this
    rw [Array.getElem?_toList] at hc
    rw [hc, ← hx2]
    simp [List.getD_eq_getElem?_getD, List.getElem?_eq_getElem hj]
  refine ⟨hT, ?_⟩
  have := hT 0 (by decide)
  unfold World.cell? at this
  cases hh : W.heap[0]? with
  | none => simp [hh] at this
  | some o => exact (Array.getElem?_eq_some_iff.1 hh).1
end Go.Proofs.YtbgmlcakdkkfdaaDoor
