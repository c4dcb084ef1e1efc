/-
  AN ADDRESS that came in: a slice of steps, opened.
-/
import Derived.Test.YtlhekohecbiljaaDoorPtLaid
import Derived.Test.YtlhekohecbiljaaDoorOpenStructs
import Derived.Test.YtlhekohecbiljaaDoorPtSteps
namespace Go.Proofs.YtlhekohecbiljaaDoor
open Go.RowKit Go.ChangeShapes Go.WideShapes Go.Deep

set_option maxRecDepth 100000 in
theorem open_steps {H : Type} {enc : TypeId × Value → H} {W : World} {r : Reach} {base : Nat} {v : Value} {d : DataW H} {ps : List MemPlace} (hval : Value.okWide Tryd.prog W r base 45 v)
    (hd : DataW.Trod enc Tryd.prog W 0 (fun _ => true) true 45 v d ps) (hlt : ∀ x ∈ ps, x.block < W.heap.size) :
    ∃ (A : Option Addr) (l : List St) (c : Nat), v = .slice A l.length c ∧ StepsIn W A l ∧ l.length ≤ maxLen ∧ ∀ s ∈ l, -9223372036854775808 ≤ s.I ∧ s.I ≤ 9223372036854775807 := by
  obtain ⟨A, n, c, rfl⟩ := okWide_slice Tryd.underlying45 hval
  obtain ⟨fuel, hf⟩ := hd
  rcases open_slice_fields Tryd.underlying45 Tryd.underlying57 (by kernel_rfl) (by kernel_rfl) hf with ⟨h0, _⟩ | ⟨a, len, cap, m, D, Pl, h0, _, hl, hcm, hm, hx, hi⟩
  · simp [Value.cells] at h0
    obtain ⟨rfl, rfl, rfl⟩ := h0
    exact ⟨none, [], 0, rfl, fun h => absurd h (by simp), Nat.zero_le _, fun s h => by cases h⟩
  · simp [Value.cells] at h0
    obtain ⟨rfl, rfl, rfl⟩ := h0
    simp at hm
    subst hm
    have each : ∀ i, ∃ o : St, (-9223372036854775808 ≤ o.I ∧ o.I ≤ 9223372036854775807) ∧ (i < n → W.cell? (a.add (i * 3)) = some (.int .i64 o.K) ∧ W.cell? ⟨(a.add (i * 3)).block, (a.add (i * 3)).off + 1, none⟩ = some (.int .i64 o.I) ∧ W.cell? ⟨(a.add (i * 3)).block, (a.add (i * 3)).off + 2, none⟩ = some (.string ⟨o.T.toArray⟩)) := fun i => by
      by_cases hin : i < n
      · obtain ⟨ys, k, _, _, _, hf⟩ := hi i (by omega)
        obtain ⟨v0, y0, c0, -, t0⟩ := hf 0 _ rfl
        obtain ⟨v1, y1, c1, -, t1⟩ := hf 1 _ rfl
        obtain ⟨v2, y2, c2, -, t2⟩ := hf 2 _ rfl
        obtain ⟨x0, e0, -⟩ := DataW.trod_int Tryd.underlying3 t0
        obtain ⟨x1, e1, -, wf1⟩ := DataW.trod_int Tryd.underlying3 t1
        obtain ⟨x2, e2, -⟩ := DataW.trod_string Tryd.underlying9 t2
        simp at e0 e1 e2
        subst e0 e1 e2
        refine ⟨⟨x0, x1, x2.data.toList⟩, ?_, fun _ => ⟨by simpa using c0, ?_, ?_⟩⟩
        · simpa [Lit.wf, IntKind.min, IntKind.max, IntKind.signed, IntKind.bits] using wf1
        · rw [← c1]
          show W.cell? ((a.add (i * 3)).add 1) = _
          rw [Go.Deep.add_add]; rfl
        · show W.cell? ((a.add (i * 3)).add 2) = _
          rw [Go.Deep.add_add]
          have e : (⟨x2.data.toList.toArray⟩ : ByteArray) = x2 := ba_eta x2
          rw [e]
          exact c2
      · exact ⟨⟨0, 0, []⟩, by decide, fun h => absurd h hin⟩
    refine ⟨some a, (List.range n).map fun i => (each i).choose, m, by simp, fun hn => ⟨a, rfl, ?_, fun k o hk => ?_⟩, by rw [List.length_map, List.length_range]; omega, fun s hs => ?_⟩
    · have : MemPlace.cell a.block a.off ∈ ps := by
        rw [(Prod.mk.inj hx).2]
        simp at hn
        simp [MemPlace.row]
        omega
      exact hlt _ this
    · rw [List.getElem?_map, Option.map_eq_some_iff] at hk
      obtain ⟨i, hi2, rfl⟩ := hk
      obtain ⟨h1, h2⟩ := List.getElem?_eq_some_iff.1 hi2
      simp at h1 h2
      subst h2
      exact (each k).choose_spec.2 h1
    · obtain ⟨i, _, rfl⟩ := List.mem_map.1 hs
      exact (each i).choose_spec.1
end Go.Proofs.YtlhekohecbiljaaDoor
