/-
  WHAT THE LAID VARIABLES GIVE THE WALKS (the cell of errors.errorType); a world that meets the condition; a slice of texts that came in, opened.
-/
import Derived.Test.YtlhekohecbiljaaDoorRows
import Derived.Test.YtlhekohecbiljaaDoorPtToks
import Derived.Test.YtlhekohecbiljaaDoorPtFault
import Derived.LaidMore
import Derived.LaidHandle
import Derived.OpenShut
import Derived.ProofKit
import Derived.Lay
import Derived.Deep.Strs
namespace Go.Proofs.YtlhekohecbiljaaDoor
open Go.RowKit Go.ChangeShapes Go.WideShapes Go.Deep

abbrev ptPlain : List (String × DataW Unit) := [("unicode/utf8.acceptRanges", Rows.laid_unicode_utf8_acceptRanges), ("unicode/utf8.first", Rows.laid_unicode_utf8_first)]
abbrev ptLaid : List (String × DataW Unit) := [("unicode/utf8.acceptRanges", Rows.laid_unicode_utf8_acceptRanges), ("errors.errorType", Rows.laid_errors_errorType), ("unicode/utf8.first", Rows.laid_unicode_utf8_first)]

theorem ownGo : ownKnob Tryd.prog.godebug = none := by kernel_rfl
theorem laidOut : laidOutB Tryd.prog = true := by kernel_rfl
theorem et_ : Tryd.prog.globalNamed "errors.errorType" = some 0 := by kernel_rfl
theorem rt_ : (Tryd.prog.cutTypes.find? (·.1 == "internal/reflectlite.rtype")).map (·.2) = some 96 := by kernel_rfl
theorem oneRow_ : ((List.range 148).filter fun t => Tryd.prog.rowNamed t [101, 114, 114, 111, 114]) = [24] := by kernel_rfl
theorem size_ : Tryd.prog.types.size = 148 := by kernel_rfl
theorem ptParts : (ptLaid.filter fun x => x.2.handleName?.isSome) = [("errors.errorType", Rows.laid_errors_errorType)] := by kernel_rfl
theorem ptParts' : (ptLaid.filter fun x => x.2.handleName?.isNone) = ptPlain := by kernel_rfl
theorem typeHandle_ : typeHandle Tryd.prog 24 = .pointer (some ⟨4, 24, none⟩) := by kernel_rfl

/-- WHAT THE CONDITION GIVES A WALK. -/
theorem err_of_laid {W : World} (h : laidMetH Tryd.prog ptLaid W) : ErrT W ∧ 0 < W.heap.size := by
  unfold laidMetH at h
  rw [ptParts] at h
  obtain ⟨name, u, ty, e1, e2, e3, e4, e5⟩ := h.2 _ (List.mem_singleton.2 rfl)
  have en : name = [101, 114, 114, 111, 114] := (Option.some.inj e1).symm
  subst en
  obtain rfl := Option.some.inj (rt_.symm.trans e2)
  have hm : ty ∈ (List.range 148).filter fun t => Tryd.prog.rowNamed t [101, 114, 114, 111, 114] := List.mem_filter.2 ⟨List.mem_range.2 (by rw [← size_]; exact e3), e4⟩
  rw [oneRow_] at hm
  obtain rfl := List.mem_singleton.1 hm
  rw [typeHandle_] at e5
  have hT : ErrT W := by
    have := World.var?_cell et_ e5 0
    unfold ErrT
    simpa using this
  refine ⟨hT, ?_⟩
  have hc := hT
  unfold ErrT World.cell? at hc
  cases hh : W.heap[0]? with
  | none => simp [hh] at hc
  | some o => exact (Array.getElem?_eq_some_iff.1 hh).1

/-- A world that meets the condition: the handle's cell laid by hand, the tables by the library's function. -/
noncomputable def handWorld (os : Os) : World :=
  let w0 := World.holding Tryd.prog os ⟨#[], #[], []⟩
  { w0 with heap := w0.heap.modify 0 fun
      | .cells _ t frozen => .cells #[.iface 96 (.agg #[.pointer (some ⟨4, 24, none⟩)])] t frozen
      | o => o }
noncomputable def ptWorld (os : Os) : World := (handWorld os).layVars Tryd.prog ptPlain
set_option maxRecDepth 100000 in
theorem ptWorld_os (os : Os) : (ptWorld os).os = os := World.layVars_os _ _ _
set_option maxRecDepth 100000 in
theorem ptShaped (os : Os) : (ptWorld os).Shaped Tryd.prog := World.shaped_of_ZipB (by kernel_rfl) (by kernel_rfl)
theorem ptAll : (ptPlain.filter fun x => (ptPlain.map (·.1)).contains x.1) = ptPlain := by kernel_rfl
theorem ptNone : (ptPlain.filter fun x => !(ptPlain.map (·.1)).contains x.1) = [] := by kernel_rfl
set_option maxRecDepth 100000 in
theorem ptFits (os : Os) : (handWorld os).layFits Tryd.prog ptPlain [] = true := by kernel_rfl
set_option maxRecDepth 100000 in
theorem ptIfaces (os : Os) (args : Array Value) : (handWorld os).layIfaces Tryd.prog ptPlain ((ptWorld os).forCall (fun _ _ => 0) ⟨#[], args, []⟩).memory = true := by kernel_rfl
set_option maxRecDepth 100000 in
theorem ptMet (os : Os) (args : Array Value) : laidMetH Tryd.prog ptLaid ((ptWorld os).forCall (fun _ _ => 0) ⟨#[], args, []⟩).memory := by
  refine laidMetH_of_parts ?_ ?_
  · rw [ptParts']
    refine laidMet_layVars (w0 := handWorld os) (ptPlain.map (·.1)) [] (by rw [ptAll]; rfl) (by rw [ptAll]; exact ptFits os) (by rw [ptAll]; exact ptIfaces os args) (by rw [ptNone]; exact LaidIn.none)
  · rw [ptParts]
    kernel_rfl

theorem ba_eta (s : ByteArray) : (⟨s.data.toList.toArray⟩ : ByteArray) = s := by cases s; rfl

set_option maxRecDepth 100000 in
/-- A slice of texts that came in. -/
theorem open_texts {H : Type} {enc : TypeId × Value → H} {W : World} {r : Reach} {base : Nat} {v : Value} {d : DataW H} {ps : List MemPlace}
    (hval : Value.okWide Tryd.prog W r base 35 v) (hd : DataW.Trod enc Tryd.prog W 0 (fun _ => true) true 35 v d ps) (hlt : ∀ x ∈ ps, x.block < W.heap.size) :
    ∃ (A : Option Addr) (ts : List (List UInt8)) (c : Nat), v = .slice A ts.length c ∧ Strs W A ts ∧ ts.length ≤ maxLen ∧ ∀ t ∈ ts, t.length ≤ maxLen := by
  obtain ⟨A, n, c, rfl⟩ := okWide_slice Tryd.underlying35 hval
  obtain ⟨fuel, hf⟩ := hd
  rcases open_strs Tryd.underlying35 Tryd.underlying9 (by kernel_rfl) hf with ⟨h0, _⟩ | ⟨a, len, cap, m, Sx, h0, _, hl, hcm, hm, hx, hi⟩
  · simp [Value.cells] at h0
    obtain ⟨rfl, rfl, rfl⟩ := h0
    exact ⟨none, [], 0, rfl, by simpa [Strs] using Reads.none_, Nat.zero_le _, fun t h => by cases h⟩
  · simp [Value.cells] at h0
    obtain ⟨rfl, rfl, rfl⟩ := h0
    simp at hm
    refine ⟨some a, (List.range n).map fun i => (Sx i).data.toList, c, by simp, ⟨by simp, fun hn => ⟨a, rfl, ?_, fun j u hu => ?_⟩⟩, by rw [List.length_map, List.length_range]; omega, fun t ht => ?_⟩
    · have : MemPlace.cell a.block a.off ∈ ps := by
        rw [(Prod.mk.inj hx).2]
        simp at hn
        simp [MemPlace.row]
        omega
      exact hlt _ this
    · simp only [List.map_map, List.getElem?_map, Option.map_eq_some_iff] at hu
      obtain ⟨i, hi2, rfl⟩ := hu
      obtain ⟨h1, h2⟩ := List.getElem?_eq_some_iff.1 hi2
      simp at h1 h2
      subst h2
      rw [(hi j (by omega)).1]
      simp [sv]
    · obtain ⟨i, hi2, rfl⟩ := List.mem_map.1 ht
      have := List.mem_range.1 hi2
      have := (hi i (by omega)).2
      exact this
end Go.Proofs.YtlhekohecbiljaaDoor
