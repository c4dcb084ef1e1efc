/-
  Parts of the proof that AddrTold,AddrBegins calls on: Hb.
-/
import Derived.Deep.DeepMust
import Derived.Deep.RegionLaw
import Derived.IntWalk
import Derived.Test.YtfcegalckjeafaaGreatDoorM106
import Derived.Test.YtfcegalckjeafaaGreatDoorM108
namespace Go.Proofs.YtfcegalckjeafaaGreatDoor
open Go.RowKit Go.BigFrame
/-- A row of slots, as a value. -/
def RowIn (w : World) (S : Nat → Prop) (m : List (Option SL)) (v : Value) : Prop := m.length = 32 ∧ ∃ A c, v = .agg #[.int .u32 (Sp.bitsL m), .slice A (Sp.vals m).length c] ∧ (Sp.vals m).length ≤ c ∧ Reads w S 13 A (Sp.vals m).length (eS.fl (Sp.vals m))
theorem RowIn.keeps {w w' : World} {S : Nat → Prop} {m : List (Option SL)} {v : Value} (h : RowIn w S m v) (hk : Keeps S w w') : RowIn w' S m v := by
  obtain ⟨h1, A, c, h2, h3, h4⟩ := h
  exact ⟨h1, A, c, h2, h3, h4.keeps hk⟩
theorem RowIn.more {w : World} {S S' : Nat → Prop} {m : List (Option SL)} {v : Value} (h : RowIn w S m v) (hS : ∀ k, S k → S' k) : RowIn w S' m v := by
  obtain ⟨h1, A, c, h2, h3, h4⟩ := h
  exact ⟨h1, A, c, h2, h3, h4.more hS⟩
theorem EB.list {α : Type} {E : Enc α} {t : TypeId} {w : World} {g : Nat} {x : α} (h : EB E t w g x) : ∀ j u, (E.l x)[j]? = some u → w.cell? ((⟨g, 0, none⟩ : Addr).add j) = some u := fun j u hu => by
  rw [addr_plain, Blk.cell h]
  simpa using hu
end Go.Proofs.YtfcegalckjeafaaGreatDoor
