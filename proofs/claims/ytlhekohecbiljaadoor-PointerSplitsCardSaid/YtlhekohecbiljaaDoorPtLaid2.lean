/-
  The capacity of a slice of texts that came in.
-/
import Derived.Test.YtlhekohecbiljaaDoorPtLaid
namespace Go.Proofs.YtlhekohecbiljaaDoor
open Go.RowKit Go.ChangeShapes Go.WideShapes Go.Deep

set_option maxRecDepth 100000 in
theorem texts_cap {H : Type} {enc : TypeId × Value → H} {W : World} {A : Option Addr} {n c : Nat} {d : DataW H} {ps : List MemPlace}
    (hd : DataW.Trod enc Tryd.prog W 0 (fun _ => true) true 35 (.slice A n c) d ps) : n ≤ c := by
  obtain ⟨fuel, hf⟩ := hd
  rcases open_strs Tryd.underlying35 Tryd.underlying9 (by kernel_rfl) hf with ⟨h0, _⟩ | ⟨a, len, cap, m, Sx, h0, _, hl, hcm, hm, hx, hi⟩
  · simp [Value.cells] at h0
    obtain ⟨rfl, rfl, rfl⟩ := h0
    exact Nat.le_refl _
  · simp [Value.cells] at h0
    obtain ⟨rfl, rfl, rfl⟩ := h0
    exact hl
end Go.Proofs.YtlhekohecbiljaaDoor
