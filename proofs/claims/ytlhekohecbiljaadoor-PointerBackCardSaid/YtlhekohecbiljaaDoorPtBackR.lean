/-
  Proved: PointerBack returns true for every slice of strings (nil included) and every string, never panics, and its arguments read behind the call as they read before. Conditions: none of ours; the listed package variables (errors.errorType and the two tables of unicode/utf8) are tied to the program's text by the card.
  The walk is in PtBackW; this text has the row and its tied card.
-/
import Derived.Test.YtlhekohecbiljaaDoorCards
import Derived.Test.YtlhekohecbiljaaDoorTie
import Derived.Test.YtlhekohecbiljaaDoorPtLaid
import Derived.Test.YtlhekohecbiljaaDoorLawRow
import Derived.Test.YtlhekohecbiljaaDoorPtBackW
import Derived.ChangeMaps5
import Derived.Stop.Joined
namespace Go.Proofs.YtlhekohecbiljaaDoor
open Go.RowKit Go.ChangeShapes Go.WideShapes

set_option maxRecDepth 100000 in
theorem pointerBack_lifted (os : Os) (started : os.Started) (H : Type) (enc : TypeId × Value → H) :
    ReturnsInHanded {} Tryd.checked os 4 .any (fun w args => (Rows.pointerBackSpec.pre enc Tryd.prog Tryd.f4 [] false w args ∧ laidMetH Tryd.prog ptLaid w) ∧ sizedMet enc Tryd.prog Tryd.f4 (OpenSpec.ofChange Rows.pointerBackSpec) false w args)
      (Rows.pointerBackSpec.post enc Tryd.prog Tryd.f4 false true false false) := by
  refine returnsInHanded_of_change_and (C := Tryd.checked) (X := fun w _ => laidMetH Tryd.prog ptLaid w) (fun _ _ _ hh h => h.of_heap hh) ownGo started (by kernel_rfl) Tryd.func4
    (ChangeSpec.witness_shaped (enc := enc) (C := Tryd.checked) (os := os) (X := fun w _ => laidMetH Tryd.prog ptLaid w) false (ptWorld os) #[.slice none 0 0, .string ⟨#[]⟩] 8 (ptWorld_os os) (ptShaped os) (by kernel_rfl) (by kernel_rfl) (by kernel_rfl) (ptMet os _)) ?_
  intro W base args ds gs before hval0 hW _ _ hL _
  have hval : ∀ (j : Nat) t v, Tryd.f4.params[j]? = some t → args[j]? = some v → Value.okWide Tryd.prog W .any base t v := hval0
  have hW' := hW
  have hlt := hW.lt
  obtain ⟨p, q, hA0, hV, rfl, hfz, hnd⟩ := hW
  have hA : DataW.TrodAll enc Tryd.prog W 0 (fun _ => true) true Tryd.f4.params.toList args.toList ds p := hA0
  clear hA0
  rw [Tryd.params4] at hA hval
  obtain ⟨v0, v1, d0, d1, p0, p1, rfl, rfl, rfl, h0, h1⟩ := trodAll_two hA
  obtain ⟨rfl, rfl⟩ := trodVars_none hV
  obtain ⟨A0, ts0, c0, rfl, hA0, hn0, ht0⟩ := open_texts (hval 0 35 v0 rfl rfl) h0 (fun x hx => hlt x (by simp [hx]))
  obtain ⟨x1, rfl, rfl, rfl, wx1⟩ := Go.ChangeMaps.open_string Tryd.underlying9 (hval 1 9 v1 rfl rfl) h1
  clear hval0
  obtain ⟨hE, hg⟩ := err_of_laid hL
  refine (pointerBack_any A0 c0 ts0 x1 W hE hg hA0 (Nat.le_trans hn0 (by decide))).mono fun e W' ⟨he, hb⟩ => ?_
  subst he
  exact ⟨_, rfl, post_true laidOut (by kernel_rfl) (by kernel_rfl) Tryd.underlying4 rfl hW' rfl hb⟩

theorem pointerBack_holds : Rows.PointerBackSaid :=
  OpenClaim.holds_of_wide 4 Tryd.f4 rfl rfl rfl rfl rfl rfl rfl ⟨rfl, rfl, rfl, rfl, rfl⟩ rfl rfl rfl rfl rfl (by kernel_rfl) Tryd.func4 (by kernel_rfl)
    (of_decide_eq_true (by kernel_rfl)) (by unfold Func.isWrapper; first | (rw [if_pos (by decide +kernel)]; kernel_rfl) | (rw [if_neg (by decide +kernel)]; exact ⟨rfl, rfl⟩))
    (fun os started H enc _ => pointerBack_lifted os started H enc)

/-- THE TIED CARD. -/
theorem pointerBack_card : Rows.PointerBackCardSaid :=
  Claim7.holds_tied_plain_at .later [] [.data, .handle, .pinned] true (true, "d05110ee09dcff552d0f88e6fb00500d80f30c35007a08cc051b3f26b24fe33f") true
    pointerBack_holds (fun _ h => by cases h) (by kernel_rfl) (fun _ h => by cases h) pointerBack_row_tie rfl ⟨rfl, rfl⟩ (by kernel_rfl) rfl
    (fun f fn hf hfn => by
      obtain rfl : f = 4 := Option.some.inj ((show Tryd.prog.funcNamed "placket/placketlaw22.PointerBack" = some 4 by kernel_rfl).symm.trans hf) |>.symm
      obtain rfl : fn = Tryd.f4 := (Option.some.inj (Tryd.func4.symm.trans hfn)).symm
      exact ⟨by kernel_rfl, fun j t ht => by
        rw [Tryd.params4] at ht
        have hm : t ∈ [35, 9] := by simpa using Array.mem_of_getElem? ht
        have hall : ([35, 9].all fun u => !Tryd.prog.wantsStandIn u) = true := by kernel_rfl
        exact (show Tryd.prog.wantsStandIn t = false by simpa using List.all_eq_true.1 hall t hm)⟩)
    (by kernel_rfl)
#print axioms pointerBack_card
end Go.Proofs.YtlhekohecbiljaaDoor
