/-
  Proved: PointerSplits returns true for every slice of strings (nil included) and every two strings, never panics, and its arguments read behind the call as they read before. Conditions: none of ours; the listed package variables (errors.errorType and the two tables of unicode/utf8) are tied to the program's text by the card.
  The walk is in PtSplitsW; this text has the row and its tied card.
-/
import Derived.Test.YtlhekohecbiljaaDoorCards
import Derived.Test.YtlhekohecbiljaaDoorTie
import Derived.Test.YtlhekohecbiljaaDoorPtLaid2
import Derived.Test.YtlhekohecbiljaaDoorLawRow
import Derived.Test.YtlhekohecbiljaaDoorPtSplitsW
import Derived.ChangeMaps5
import Derived.Stop.Joined
namespace Go.Proofs.YtlhekohecbiljaaDoor
open Go.RowKit Go.ChangeShapes Go.WideShapes

set_option maxRecDepth 100000 in
theorem pointerSplits_lifted (os : Os) (started : os.Started) (H : Type) (enc : TypeId × Value → H) :
    ReturnsInHanded {} Tryd.checked os 5 .any (fun w args => (Rows.pointerSplitsSpec.pre enc Tryd.prog Tryd.f5 [] false w args ∧ laidMetH Tryd.prog ptLaid w) ∧ sizedMet enc Tryd.prog Tryd.f5 (OpenSpec.ofChange Rows.pointerSplitsSpec) false w args)
      (Rows.pointerSplitsSpec.post enc Tryd.prog Tryd.f5 false true false false) := by
  refine returnsInHanded_of_change_and (C := Tryd.checked) (X := fun w _ => laidMetH Tryd.prog ptLaid w) (fun _ _ _ hh h => h.of_heap hh) ownGo started (by kernel_rfl) Tryd.func5
    (ChangeSpec.witness_shaped (enc := enc) (C := Tryd.checked) (os := os) (X := fun w _ => laidMetH Tryd.prog ptLaid w) false (ptWorld os) #[.string ⟨#[]⟩, .slice none 0 0, .slice none 0 0] 8 (ptWorld_os os) (ptShaped os) (by kernel_rfl) (by kernel_rfl) (by kernel_rfl) (ptMet os _)) ?_
  intro W base args ds gs before hval0 hW _ _ hL _
  have hval : ∀ (j : Nat) t v, Tryd.f5.params[j]? = some t → args[j]? = some v → Value.okWide Tryd.prog W .any base t v := hval0
  have hW' := hW
  have hlt := hW.lt
  obtain ⟨p, q, hA0, hV, rfl, hfz, hnd⟩ := hW
  have hA : DataW.TrodAll enc Tryd.prog W 0 (fun _ => true) true Tryd.f5.params.toList args.toList ds p := hA0
  clear hA0
  rw [Tryd.params5] at hA hval
  obtain ⟨v0, v1, v2, d0, d1, d2, p0, p1, p2, rfl, rfl, rfl, h0, h1, h2⟩ := trodAll_three hA
  obtain ⟨rfl, rfl⟩ := trodVars_none hV
  obtain ⟨x0, rfl, rfl, rfl, wx0⟩ := Go.ChangeMaps.open_string Tryd.underlying9 (hval 0 9 v0 rfl rfl) h0
  obtain ⟨A1, ts1, c1, rfl, hA1, hn1, ht1⟩ := open_texts (hval 1 35 v1 rfl rfl) h1 (fun x hx => hlt x (by simp [hx]))
  obtain ⟨A2, ts2, c2, rfl, hA2, hn2, ht2⟩ := open_texts (hval 2 35 v2 rfl rfl) h2 (fun x hx => hlt x (by simp [hx]))
  clear hval0
  obtain ⟨hE, hg⟩ := err_of_laid hL
  refine (pointerSplits_any x0 A1 A2 c1 c2 ts1 ts2 W hE hg hA1 hA2 (Nat.le_trans hn1 (by decide)) (Nat.le_trans hn2 (by decide)) (texts_cap h2)).mono fun e W' ⟨he, hb⟩ => ?_
  subst he
  exact ⟨_, rfl, post_true laidOut (by kernel_rfl) (by kernel_rfl) Tryd.underlying4 rfl hW' rfl hb⟩

theorem pointerSplits_holds : Rows.PointerSplitsSaid :=
  OpenClaim.holds_of_wide 5 Tryd.f5 rfl rfl rfl rfl rfl rfl rfl ⟨rfl, rfl, rfl, rfl, rfl⟩ rfl rfl rfl rfl rfl (by kernel_rfl) Tryd.func5 (by kernel_rfl)
    (of_decide_eq_true (by kernel_rfl)) (by unfold Func.isWrapper; first | (rw [if_pos (by decide +kernel)]; kernel_rfl) | (rw [if_neg (by decide +kernel)]; exact ⟨rfl, rfl⟩))
    (fun os started H enc _ => pointerSplits_lifted os started H enc)

/-- THE TIED CARD. -/
theorem pointerSplits_card : Rows.PointerSplitsCardSaid :=
  Claim7.holds_tied_plain_at .later [] [.data, .handle, .pinned] true (true, "d05110ee09dcff552d0f88e6fb00500d80f30c35007a08cc051b3f26b24fe33f") true
    pointerSplits_holds (fun _ h => by cases h) (by kernel_rfl) (fun _ h => by cases h) pointerSplits_row_tie rfl ⟨rfl, rfl⟩ (by kernel_rfl) rfl
    (fun f fn hf hfn => by
      obtain rfl : f = 5 := Option.some.inj ((show Tryd.prog.funcNamed "placket/placketlaw22.PointerSplits" = some 5 by kernel_rfl).symm.trans hf) |>.symm
      obtain rfl : fn = Tryd.f5 := (Option.some.inj (Tryd.func5.symm.trans hfn)).symm
      exact ⟨by kernel_rfl, fun j t ht => by
        rw [Tryd.params5] at ht
        have hm : t ∈ [9, 35, 35] := by simpa using Array.mem_of_getElem? ht
        have hall : ([9, 35, 35].all fun u => !Tryd.prog.wantsStandIn u) = true := by kernel_rfl
        exact (show Tryd.prog.wantsStandIn t = false by simpa using List.all_eq_true.1 hall t hm)⟩)
    (by kernel_rfl)
#print axioms pointerSplits_card
end Go.Proofs.YtlhekohecbiljaaDoor
