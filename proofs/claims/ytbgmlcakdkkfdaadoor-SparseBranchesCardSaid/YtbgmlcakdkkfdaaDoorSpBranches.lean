/-
  Proved: SparseBranches returns true for every three slices of operations (nil included), never panics, and its arguments read behind the call as they read before. Conditions: none of ours; the one listed package variable (the table of math/bits) is tied to the program's text by the card.
  The walk is in SpBranchesW; this text has the row and its tied card.
-/
import Derived.Test.YtbgmlcakdkkfdaaDoorCards
import Derived.Test.YtbgmlcakdkkfdaaDoorTie
import Derived.Test.YtbgmlcakdkkfdaaDoorSpLaid
import Derived.Test.YtbgmlcakdkkfdaaDoorLawRow
import Derived.Test.YtbgmlcakdkkfdaaDoorSpOpen
import Derived.Test.YtbgmlcakdkkfdaaDoorSpBranchesW
import Derived.Stop.Joined
namespace Go.Proofs.YtbgmlcakdkkfdaaDoor
open Go.RowKit Go.ChangeShapes Go.WideShapes

set_option maxRecDepth 100000 in
theorem sparseBranches_lifted (os : Os) (started : os.Started) (H : Type) (enc : TypeId × Value → H) :
    ReturnsInHanded {} Tryd.checked os 5 .any (fun w args => (Rows.sparseBranchesSpec.pre enc Tryd.prog Tryd.f5 [] false w args ∧ laidMetH Tryd.prog tabLaid w) ∧ sizedMet enc Tryd.prog Tryd.f5 (OpenSpec.ofChange Rows.sparseBranchesSpec) false w args)
      (Rows.sparseBranchesSpec.post enc Tryd.prog Tryd.f5 false true false false) := by
  refine returnsInHanded_of_change_and (C := Tryd.checked) (X := fun w _ => laidMetH Tryd.prog tabLaid w) (fun _ _ _ hh h => h.of_heap hh) ownGo started (by kernel_rfl) Tryd.func5
    (ChangeSpec.witness_shaped (enc := enc) (C := Tryd.checked) (os := os) (X := fun w _ => laidMetH Tryd.prog tabLaid w) false (World.doorLaid Tryd.prog 400 os) #[.slice none 0 0, .slice none 0 0, .slice none 0 0] 8 rfl (World.shaped_of_RefB (by kernel_rfl) (by kernel_rfl)) (by kernel_rfl) (by kernel_rfl) (by kernel_rfl) (door_met os _)) ?_
  intro W base args ds gs before hval0 hW _ _ hL _
  have hval : ∀ (j : Nat) t v, Tryd.f5.params[j]? = some t → args[j]? = some v → Value.okWide Tryd.prog W .any base t v := hval0
  have hW' := hW
  have hlt := hW.lt
  obtain ⟨p, q, hA0, hV, rfl, hfz, hnd⟩ := hW
  have hA : DataW.TrodAll enc Tryd.prog W 0 (fun _ => true) true Tryd.f5.params.toList args.toList ds p := hA0
  rw [Tryd.params5] at hA hval
  obtain ⟨v0, v1, v2, d0, d1, d2, p0, p1, p2, rfl, rfl, rfl, h0, h1, h2⟩ := trodAll_three hA
  obtain ⟨rfl, rfl⟩ := trodVars_none hV
  obtain ⟨A0, l0, c0, rfl, hl0⟩ := open_ops (hval 0 38 v0 rfl rfl) h0 (fun x hx => hlt x (by simp [hx]))
  obtain ⟨A1, l1, c1, rfl, hl1⟩ := open_ops (hval 1 38 v1 rfl rfl) h1 (fun x hx => hlt x (by simp [hx]))
  obtain ⟨A2, l2, c2, rfl, hl2⟩ := open_ops (hval 2 38 v2 rfl rfl) h2 (fun x hx => hlt x (by simp [hx]))
  clear hA0 hval0
  obtain ⟨hT, hg⟩ := tab_of_laid hL
  refine (sparseBranches_any l0 A0 c0 l1 A1 c1 l2 A2 c2 W hT hg hl0 hl1 hl2 ).mono fun e W' ⟨he, hb⟩ => ?_
  subst he
  exact ⟨_, rfl, post_true laidOut (by kernel_rfl) (by kernel_rfl) Tryd.underlying4 rfl hW' rfl hb⟩

theorem sparseBranches_holds : Rows.SparseBranchesSaid :=
  OpenClaim.holds_of_wide 5 Tryd.f5 rfl rfl rfl rfl rfl rfl rfl ⟨rfl, rfl, rfl, rfl, rfl⟩ rfl rfl rfl rfl rfl (by kernel_rfl) Tryd.func5 (by kernel_rfl)
    (of_decide_eq_true (by kernel_rfl)) (by unfold Func.isWrapper; first | (rw [if_pos (by decide +kernel)]; kernel_rfl) | (rw [if_neg (by decide +kernel)]; exact ⟨rfl, rfl⟩))
    (fun os started H enc _ => sparseBranches_lifted os started H enc)

/-- THE TIED CARD. -/
theorem sparseBranches_card : Rows.SparseBranchesCardSaid :=
  Claim7.holds_tied_plain_at .later [] [.data] true (true, "e6ed6280d2b8862abdd2c471f1c66c356796ec2ae8ffa1a298343f8c917826f5") false
    sparseBranches_holds (fun _ h => by cases h) (by kernel_rfl) (fun _ h => by cases h) sparseBranches_row_tie rfl ⟨rfl, rfl⟩ (by kernel_rfl) rfl
    (fun f fn hf hfn => by
      obtain rfl : f = 5 := Option.some.inj ((show Tryd.prog.funcNamed "placket/placketlaw06.SparseBranches" = some 5 by kernel_rfl).symm.trans hf) |>.symm
      obtain rfl : fn = Tryd.f5 := (Option.some.inj (Tryd.func5.symm.trans hfn)).symm
      exact ⟨by kernel_rfl, fun j t ht => by
        rw [Tryd.params5] at ht
        have hm : t ∈ [38, 38, 38] := by simpa using Array.mem_of_getElem? ht
        have hall : ([38, 38, 38].all fun u => !Tryd.prog.wantsStandIn u) = true := by kernel_rfl
        exact (show Tryd.prog.wantsStandIn t = false by simpa using List.all_eq_true.1 hall t hm)⟩)
    (by kernel_rfl)
#print axioms sparseBranches_card
end Go.Proofs.YtbgmlcakdkkfdaaDoor
