/-
  A ROW GONE THROUGH: its pairs (place, thing) by rising places; what is left of the bits behind k rounds. Plain Lean.
-/
import Derived.Test.YtbgmlcakdkkfdaaDoorSpMath
namespace Go.Proofs.YtbgmlcakdkkfdaaDoor
namespace Sp
variable {α : Type}

/-- The pairs of a row. -/
def prs : List (Option α) → List (Nat × α)
  | [] => []
  | some x :: m => (0, x) :: (prs m).map fun p => (p.1 + 1, p.2)
  | none :: m => (prs m).map fun p => (p.1 + 1, p.2)
/-- The row without its first k things (their places stay, empty). -/
def drp : Nat → List (Option α) → List (Option α)
  | 0, m => m
  | _ + 1, [] => []
  | k + 1, some _ :: m => none :: drp k m
  | k + 1, none :: m => none :: drp (k + 1) m
theorem drp_len : ∀ (k : Nat) (m : List (Option α)), (drp k m).length = m.length
  | 0, m => by simp [drp]
  | k + 1, [] => rfl
  | k + 1, some _ :: m => by simp [drp, drp_len k m]
  | k + 1, none :: m => by simp [drp, drp_len (k + 1) m]
theorem prs_snd : ∀ m : List (Option α), (prs m).map (·.2) = vals m
  | [] => rfl
  | some x :: m => by simp [prs, vals_cons, ← prs_snd m, Function.comp_def]
  | none :: m => by simp [prs, vals_cons, ← prs_snd m, Function.comp_def]
theorem prs_len (m : List (Option α)) : (prs m).length = (vals m).length := by rw [← prs_snd]; simp
theorem first_drp : ∀ (k : Nat) (m : List (Option α)), firstM (drp k m) = (prs m)[k]?
  | 0, [] => rfl
  | 0, some x :: m => by simp [drp, firstM, prs]
  | 0, none :: m => by
    have := first_drp 0 m
    simp only [drp] at this
    simp [drp, firstM, prs, this]
  | k + 1, [] => rfl
  | k + 1, some x :: m => by simp [drp, firstM, prs, first_drp k m]
  | k + 1, none :: m => by simp [drp, firstM, prs, first_drp (k + 1) m]
theorem drp_succ : ∀ (k : Nat) (m : List (Option α)) (i : Nat) (x : α), (prs m)[k]? = some (i, x) → drp (k + 1) m = (drp k m).set i none
  | _, [], _, _, h => by simp [prs] at h
  | 0, some y :: m, i, x, h => by
    simp [prs] at h
    obtain ⟨rfl, rfl⟩ := h
    simp [drp]
  | 0, none :: m, i, x, h => by
    simp only [prs, List.getElem?_map, Option.map_eq_some_iff] at h
    obtain ⟨⟨j, y⟩, h1, h2⟩ := h
    simp only [Prod.mk.injEq] at h2
    obtain ⟨rfl, rfl⟩ := h2
    have := drp_succ 0 m j y h1
    simp only [drp] at this ⊢
    rw [List.set_cons_succ, ← this]
  | k + 1, some y :: m, i, x, h => by
    simp only [prs, List.getElem?_cons_succ, List.getElem?_map, Option.map_eq_some_iff] at h
    obtain ⟨⟨j, z⟩, h1, h2⟩ := h
    simp only [Prod.mk.injEq] at h2
    obtain ⟨rfl, rfl⟩ := h2
    simp only [drp]
    rw [List.set_cons_succ, ← drp_succ k m j z h1]
  | k + 1, none :: m, i, x, h => by
    simp only [prs, List.getElem?_map, Option.map_eq_some_iff] at h
    obtain ⟨⟨j, z⟩, h1, h2⟩ := h
    simp only [Prod.mk.injEq] at h2
    obtain ⟨rfl, rfl⟩ := h2
    simp only [drp]
    rw [List.set_cons_succ, ← drp_succ (k + 1) m j z h1]
theorem prs_at : ∀ (m : List (Option α)) (i : Nat) (x : α), (i, x) ∈ prs m ↔ at_ m i = some x
  | [], i, x => by simp [prs, at_]
  | some y :: m, 0, x => by simp [prs, at_, eq_comm]
  | some y :: m, i + 1, x => by
    have := prs_at m i x
    simp only [at_] at this
    simp [prs, at_, this]
  | none :: m, 0, x => by simp [prs, at_]
  | none :: m, i + 1, x => by
    have := prs_at m i x
    simp only [at_] at this
    simp [prs, at_, this]
theorem prs_rise : ∀ m : List (Option α), (prs m).Pairwise fun p q => p.1 < q.1
  | [] => List.Pairwise.nil
  | some x :: m => by
    refine List.Pairwise.cons (fun q hq => ?_) ?_
    · simp only [List.mem_map] at hq
      obtain ⟨r, _, rfl⟩ := hq
      simp
    · exact (prs_rise m).map _ (fun p q h => by simpa using h)
  | none :: m => (prs_rise m).map _ (fun p q h => by simpa using h)
end Sp
end Go.Proofs.YtbgmlcakdkkfdaaDoor
