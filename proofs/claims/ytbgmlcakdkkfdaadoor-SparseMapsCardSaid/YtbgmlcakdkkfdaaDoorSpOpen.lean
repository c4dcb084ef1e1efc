/-
  THE ARGUMENTS of the laws over operations, opened: a slice of operations, one operation.
-/
import Derived.Test.YtbgmlcakdkkfdaaDoorOpenStructs
import Derived.Test.YtbgmlcakdkkfdaaDoorSpO
import Derived.Lib.SmallJoins
namespace Go.Proofs.YtbgmlcakdkkfdaaDoor
open Go.Joins Go.ChangeShapes Go.WideShapes Go.RowKit Go.Deep

variable {H : Type} {enc : TypeId × Value → H}
theorem open_op {W : World} {r : Reach} {base : Nat} {v : Value} {d : DataW H} {p : List MemPlace} (hv : Value.okWide Tryd.prog W r base 42 v) (h : DataW.Trod enc Tryd.prog W 0 (fun _ => true) true 42 v d p) :
    ∃ a : SOp, v = .agg #[.int .i64 a.I, .int .i64 a.X, .bool a.Cut] := by
  obtain ⟨v0, v1, v2, y0, y1, y2, n, rfl, -, -, h0, h1, h2⟩ := open_agg3 Tryd.underlying42 (by kernel_rfl) (by kernel_rfl) hv h
  obtain ⟨a, e0, -⟩ := DataW.trod_int Tryd.underlying3 h0
  obtain ⟨b, e1, -⟩ := DataW.trod_int Tryd.underlying3 h1
  obtain ⟨c, e2, -⟩ := DataW.trod_bool Tryd.underlying4 h2
  simp at e0 e1 e2
  subst e0 e1 e2
  exact ⟨⟨a, b, c⟩, rfl⟩

theorem open_ops {W : World} {r : Reach} {base : Nat} {v : Value} {d : DataW H} {ps : List MemPlace} (hval : Value.okWide Tryd.prog W r base 38 v)
    (hd : DataW.Trod enc Tryd.prog W 0 (fun _ => true) true 38 v d ps) (hlt : ∀ x ∈ ps, x.block < W.heap.size) :
    ∃ (A : Option Addr) (l : List SOp) (c : Nat), v = .slice A l.length c ∧ OpsIn W.heap.size W A l := by
  obtain ⟨A, n, c, rfl⟩ := okWide_slice Tryd.underlying38 hval
  obtain ⟨fuel, hf⟩ := hd
  rcases open_slice_fields Tryd.underlying38 Tryd.underlying42 (by kernel_rfl) (by kernel_rfl) hf with ⟨h0, _⟩ | ⟨a, len, cap, m, D, Pl, h0, _, hl, _, hm, hx, hi⟩
  · simp [Value.cells] at h0
    obtain ⟨rfl, rfl, rfl⟩ := h0
    exact ⟨none, [], 0, rfl, fun h => absurd h (by simp)⟩
  · simp [Value.cells] at h0
    obtain ⟨rfl, rfl, rfl⟩ := h0
    simp at hm
    subst hm
    have each : ∀ i, ∃ o : SOp, i < n → W.cell? (a.add (i * 3)) = some (.int .i64 o.I) ∧ W.cell? ⟨(a.add (i * 3)).block, (a.add (i * 3)).off + 1, none⟩ = some (.int .i64 o.X) ∧ W.cell? ⟨(a.add (i * 3)).block, (a.add (i * 3)).off + 2, none⟩ = some (.bool o.Cut) := fun i => by
      by_cases hin : i < n
      · obtain ⟨ys, k, _, _, _, hf⟩ := hi i (by omega)
        obtain ⟨v0, y0, c0, -, t0⟩ := hf 0 _ rfl
        obtain ⟨v1, y1, c1, -, t1⟩ := hf 1 _ rfl
        obtain ⟨v2, y2, c2, -, t2⟩ := hf 2 _ rfl
        obtain ⟨x0, e0, -⟩ := DataW.trod_int Tryd.underlying3 t0
        obtain ⟨x1, e1, -⟩ := DataW.trod_int Tryd.underlying3 t1
        obtain ⟨x2, e2, -⟩ := DataW.trod_bool Tryd.underlying4 t2
        simp at e0 e1 e2
        subst e0 e1 e2
        refine ⟨⟨x0, x1, x2⟩, fun _ => ⟨by simpa using c0, ?_, ?_⟩⟩
        · rw [← c1]
          show W.cell? ((a.add (i * 3)).add 1) = _
          rw [Go.Deep.add_add]; rfl
        · rw [← c2]
          show W.cell? ((a.add (i * 3)).add 2) = _
          rw [Go.Deep.add_add]; rfl
      · exact ⟨⟨0, 0, false⟩, fun h => absurd h hin⟩
    refine ⟨some a, (List.range n).map fun i => (each i).choose, m, by simp, fun hn => ⟨a, rfl, ?_, fun k o hk => ?_⟩⟩
    · have : MemPlace.cell a.block a.off ∈ ps := by
        rw [(Prod.mk.inj hx).2]
        simp at hn
        simp [MemPlace.row]
        omega
      exact hlt _ this
    · rw [List.getElem?_map, Option.map_eq_some_iff] at hk
      obtain ⟨i, hi2, rfl⟩ := hk
      obtain ⟨h1, h2⟩ := List.getElem?_eq_some_iff.1 hi2
      simp at h1 h2
      subst h2
      exact (each k).choose_spec h1
end Go.Proofs.YtbgmlcakdkkfdaaDoor
