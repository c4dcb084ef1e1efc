/-
  Proved: AddrTexts returns true for every slice of steps (nil included) and every string, never panics, and its arguments read behind the call as they read before. Conditions: none of ours; the listed package variables (the table of math/bits, errors.errorType and lex.signs) are tied to the program's text by the card.
  The walk is in Lx; this text has the row and its tied card.
-/
import Derived.ChangeMaps5
import Derived.Stop.Joined
import Derived.Test.YtfcegalckjeafaaGreatDoorCards
import Derived.Test.YtfcegalckjeafaaGreatDoorTie
import Derived.Test.YtfcegalckjeafaaGreatDoorM308
import Derived.Test.YtfcegalckjeafaaGreatDoorM325
import Derived.Test.YtfcegalckjeafaaGreatDoorM329
namespace Go.Proofs.YtfcegalckjeafaaGreatDoor
open Go.RowKit Go.ChangeShapes Go.WideShapes
set_option maxRecDepth 100000 in
theorem addrTexts_lifted (os : Os) (started : os.Started) (H : Type) (enc : TypeId × Value → H) :
    ReturnsInHanded {} Tryz.checked os 7 .any (fun w args => (Rows.addrTextsSpec.pre enc Tryz.prog Tryz.f7 [] false w args ∧ laidMetH Tryz.prog texLaid w) ∧ sizedMet enc Tryz.prog Tryz.f7 (OpenSpec.ofChange Rows.addrTextsSpec) false w args)
      (Rows.addrTextsSpec.post enc Tryz.prog Tryz.f7 false true false false) := by
  refine returnsInHanded_of_change_and (C := Tryz.checked) (X := fun w _ => laidMetH Tryz.prog texLaid w) (fun _ _ _ hh h => h.of_heap hh) ownGo started (by kernel_rfl) Tryz.func7
    (ChangeSpec.witness_shaped (enc := enc) (C := Tryz.checked) (os := os) (X := fun w _ => laidMetH Tryz.prog texLaid w) false (World.doorLaid Tryz.prog 400 os) #[.slice none 0 0, .string ⟨#[]⟩] 8 rfl (World.shaped_of_RefB (by kernel_rfl) (by kernel_rfl)) (by kernel_rfl) (by kernel_rfl) (by kernel_rfl) (tex_met os _)) ?_
  intro W base args ds gs before hval0 hW _ _ hL _
  have hval : ∀ (j : Nat) t v, Tryz.f7.params[j]? = some t → args[j]? = some v → Value.okWide Tryz.prog W .any base t v := hval0
  have hW' := hW
  have hlt := hW.lt
  obtain ⟨p, q, hA0, hV, rfl, hfz, hnd⟩ := hW
  have hA : DataW.TrodAll enc Tryz.prog W 0 (fun _ => true) true Tryz.f7.params.toList args.toList ds p := hA0
  clear hA0
  rw [Tryz.params7] at hA hval
  obtain ⟨v0, v1, d0, d1, p0, p1, rfl, rfl, rfl, h0, h1⟩ := trodAll_two hA
  obtain ⟨rfl, rfl⟩ := trodVars_none hV
  obtain ⟨l0, A0, c0, rfl, hr0, hc0, hz0, hn0, hi0⟩ := open_steps (hval 0 46 v0 rfl rfl) h0 (fun x hx => hlt x (by simp [hx]))
  obtain ⟨x1, rfl, rfl, rfl, wx1⟩ := Go.ChangeMaps.open_string Tryz.underlying9 (hval 1 9 v1 rfl rfl) h1
  clear hval0
  obtain ⟨hT, hg⟩ := sgs_of_laid hL
  obtain ⟨hE, hge⟩ := err_of_laid hL
  have hmax : maxLen ≤ 9223372036854775807 := by decide
  refine (addrTexts_any A0 c0 l0 x1 W hT hg hE hge hr0 (by omega) (fun x hx => (hi0 x hx).1)).mono fun e W' ⟨he, hb⟩ => ?_
  subst he
  exact ⟨_, rfl, post_true laidOut (by kernel_rfl) (by kernel_rfl) Tryz.underlying4 rfl hW' rfl hb⟩
theorem addrTexts_holds : Rows.AddrTextsSaid :=
  OpenClaim.holds_of_wide 7 Tryz.f7 rfl rfl rfl rfl rfl rfl rfl ⟨rfl, rfl, rfl, rfl, rfl⟩ rfl rfl rfl rfl rfl (by kernel_rfl) Tryz.func7 (by kernel_rfl)
    (of_decide_eq_true (by kernel_rfl)) (by unfold Func.isWrapper; first | (rw [if_pos (by decide +kernel)]; kernel_rfl) | (rw [if_neg (by decide +kernel)]; exact ⟨rfl, rfl⟩))
    (fun os started H enc _ => addrTexts_lifted os started H enc)
/-- THE TIED CARD. -/
theorem addrTexts_card : Rows.AddrTextsCardSaid :=
  Claim7.holds_tied_plain_at .later [] [.data, .handle, .data] true (true, "580840e1eee41d1ce52a0be8d3cfaa7fe92b28aa451517d03a1085c737f7d925") true
    addrTexts_holds (fun _ h => by cases h) (by kernel_rfl) (fun _ h => by cases h) addrTexts_row_tie rfl ⟨rfl, rfl⟩ (by kernel_rfl) rfl
    (fun f fn hf hfn => by
      obtain rfl : f = 7 := Option.some.inj ((show Tryz.prog.funcNamed "placket/placketlaw15.AddrTexts" = some 7 by kernel_rfl).symm.trans hf) |>.symm
      obtain rfl : fn = Tryz.f7 := (Option.some.inj (Tryz.func7.symm.trans hfn)).symm
      exact ⟨by kernel_rfl, fun j t ht => by
        rw [Tryz.params7] at ht
        have hm : t ∈ [46, 9] := by simpa using Array.mem_of_getElem? ht
        have hall : ([46, 9].all fun u => !Tryz.prog.wantsStandIn u) = true := by kernel_rfl
        exact (show Tryz.prog.wantsStandIn t = false by simpa using List.all_eq_true.1 hall t hm)⟩)
    (by kernel_rfl)
#print axioms addrTexts_card
end Go.Proofs.YtfcegalckjeafaaGreatDoor
