/-
  Proved: PointerAddresses returns true for every slice of steps (nil included), never panics, and its arguments read behind the call as they read before. Conditions: none of ours; the listed package variables (errors.errorType and the two tables of unicode/utf8) are tied to the program's text by the card.
  The walk is in PtAddrW; this text has the row and its tied card.
-/
import Derived.Test.YtlhekohecbiljaaDoorCards
import Derived.Test.YtlhekohecbiljaaDoorTie
import Derived.Test.YtlhekohecbiljaaDoorPtOpenSteps
import Derived.Test.YtlhekohecbiljaaDoorLawRow
import Derived.Test.YtlhekohecbiljaaDoorPtAddrW
import Derived.ChangeMaps5
import Derived.Stop.Joined
namespace Go.Proofs.YtlhekohecbiljaaDoor
open Go.RowKit Go.ChangeShapes Go.WideShapes

set_option maxRecDepth 100000 in
theorem pointerAddresses_lifted (os : Os) (started : os.Started) (H : Type) (enc : TypeId × Value → H) :
    ReturnsInHanded {} Tryd.checked os 6 .any (fun w args => (Rows.pointerAddressesSpec.pre enc Tryd.prog Tryd.f6 [] false w args ∧ laidMetH Tryd.prog ptLaid w) ∧ sizedMet enc Tryd.prog Tryd.f6 (OpenSpec.ofChange Rows.pointerAddressesSpec) false w args)
      (Rows.pointerAddressesSpec.post enc Tryd.prog Tryd.f6 false true false false) := by
  refine returnsInHanded_of_change_and (C := Tryd.checked) (X := fun w _ => laidMetH Tryd.prog ptLaid w) (fun _ _ _ hh h => h.of_heap hh) ownGo started (by kernel_rfl) Tryd.func6
    (ChangeSpec.witness_shaped (enc := enc) (C := Tryd.checked) (os := os) (X := fun w _ => laidMetH Tryd.prog ptLaid w) false (ptWorld os) #[.slice none 0 0] 8 (ptWorld_os os) (ptShaped os) (by kernel_rfl) (by kernel_rfl) (by kernel_rfl) (ptMet os _)) ?_
  intro W base args ds gs before hval0 hW _ _ hL _
  have hval : ∀ (j : Nat) t v, Tryd.f6.params[j]? = some t → args[j]? = some v → Value.okWide Tryd.prog W .any base t v := hval0
  have hW' := hW
  have hlt := hW.lt
  obtain ⟨p, q, hA0, hV, rfl, hfz, hnd⟩ := hW
  have hA : DataW.TrodAll enc Tryd.prog W 0 (fun _ => true) true Tryd.f6.params.toList args.toList ds p := hA0
  clear hA0
  rw [Tryd.params6] at hA hval
  obtain ⟨v0, d0, rfl, rfl, h0⟩ := trodAll_one hA
  obtain ⟨rfl, rfl⟩ := trodVars_none hV
  obtain ⟨A0, l0, c0, rfl, hA0, hn0, hr0⟩ := open_steps (hval 0 45 v0 rfl rfl) h0 (fun x hx => hlt x (by simp [hx]))
  clear hval0
  obtain ⟨hE, hg⟩ := err_of_laid hL
  refine (pointerAddresses_any A0 c0 l0 W hE hg hA0 (Nat.le_trans hn0 (by decide)) hr0).mono fun e W' ⟨he, hb⟩ => ?_
  subst he
  exact ⟨_, rfl, post_true laidOut (by kernel_rfl) (by kernel_rfl) Tryd.underlying4 rfl hW' rfl hb⟩

theorem pointerAddresses_holds : Rows.PointerAddressesSaid :=
  OpenClaim.holds_of_wide 6 Tryd.f6 rfl rfl rfl rfl rfl rfl rfl ⟨rfl, rfl, rfl, rfl, rfl⟩ rfl rfl rfl rfl rfl (by kernel_rfl) Tryd.func6 (by kernel_rfl)
    (of_decide_eq_true (by kernel_rfl)) (by unfold Func.isWrapper; first | (rw [if_pos (by decide +kernel)]; kernel_rfl) | (rw [if_neg (by decide +kernel)]; exact ⟨rfl, rfl⟩))
    (fun os started H enc _ => pointerAddresses_lifted os started H enc)

/-- THE TIED CARD. -/
theorem pointerAddresses_card : Rows.PointerAddressesCardSaid :=
  Claim7.holds_tied_plain_at .later [] [.data, .handle, .pinned] true (true, "d05110ee09dcff552d0f88e6fb00500d80f30c35007a08cc051b3f26b24fe33f") true
    pointerAddresses_holds (fun _ h => by cases h) (by kernel_rfl) (fun _ h => by cases h) pointerAddresses_row_tie rfl ⟨rfl, rfl⟩ (by kernel_rfl) rfl
    (fun f fn hf hfn => by
      obtain rfl : f = 6 := Option.some.inj ((show Tryd.prog.funcNamed "placket/placketlaw22.PointerAddresses" = some 6 by kernel_rfl).symm.trans hf) |>.symm
      obtain rfl : fn = Tryd.f6 := (Option.some.inj (Tryd.func6.symm.trans hfn)).symm
      exact ⟨by kernel_rfl, fun j t ht => by
        rw [Tryd.params6] at ht
        have hm : t ∈ [45] := by simpa using Array.mem_of_getElem? ht
        have hall : ([45].all fun u => !Tryd.prog.wantsStandIn u) = true := by kernel_rfl
        exact (show Tryd.prog.wantsStandIn t = false by simpa using List.all_eq_true.1 hall t hm)⟩)
    (by kernel_rfl)
#print axioms pointerAddresses_card
end Go.Proofs.YtlhekohecbiljaaDoor
