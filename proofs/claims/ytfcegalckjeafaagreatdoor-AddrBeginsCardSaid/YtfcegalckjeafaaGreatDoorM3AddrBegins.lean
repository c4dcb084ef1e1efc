/-
  Proved: AddrBegins returns true for every two slices of steps and every slice of such (nil included), never panics, and its arguments read behind the call as they read before. Conditions: none of ours; the listed package variables (the table of math/bits and lex.signs) are tied to the program's text by the card.
  The walk is in Lb; this text has the row and its tied card.
-/
import Derived.ChangeMaps5
import Derived.Stop.Joined
import Derived.Test.YtfcegalckjeafaaGreatDoorCards
import Derived.Test.YtfcegalckjeafaaGreatDoorTie
import Derived.Test.YtfcegalckjeafaaGreatDoorM308
import Derived.Test.YtfcegalckjeafaaGreatDoorM325
namespace Go.Proofs.YtfcegalckjeafaaGreatDoor
open Go.RowKit Go.ChangeShapes Go.WideShapes
set_option maxRecDepth 100000 in
theorem addrBegins_lifted (os : Os) (started : os.Started) (H : Type) (enc : TypeId × Value → H) :
    ReturnsInHanded {} Tryz.checked os 6 .any (fun w args => (Rows.addrBeginsSpec.pre enc Tryz.prog Tryz.f6 [] false w args ∧ laidMetH Tryz.prog lexLaid w) ∧ sizedMet enc Tryz.prog Tryz.f6 (OpenSpec.ofChange Rows.addrBeginsSpec) false w args)
      (Rows.addrBeginsSpec.post enc Tryz.prog Tryz.f6 false true false false) := by
  refine returnsInHanded_of_change_and (C := Tryz.checked) (X := fun w _ => laidMetH Tryz.prog lexLaid w) (fun _ _ _ hh h => h.of_heap hh) ownGo started (by kernel_rfl) Tryz.func6
    (ChangeSpec.witness_shaped (enc := enc) (C := Tryz.checked) (os := os) (X := fun w _ => laidMetH Tryz.prog lexLaid w) false (World.doorLaid Tryz.prog 400 os) #[.slice none 0 0, .slice none 0 0, .slice none 0 0] 8 rfl (World.shaped_of_RefB (by kernel_rfl) (by kernel_rfl)) (by kernel_rfl) (by kernel_rfl) (by kernel_rfl) (door_met os _)) ?_
  intro W base args ds gs before hval0 hW _ _ hL _
  have hval : ∀ (j : Nat) t v, Tryz.f6.params[j]? = some t → args[j]? = some v → Value.okWide Tryz.prog W .any base t v := hval0
  have hW' := hW
  have hlt := hW.lt
  obtain ⟨p, q, hA0, hV, rfl, hfz, hnd⟩ := hW
  have hA : DataW.TrodAll enc Tryz.prog W 0 (fun _ => true) true Tryz.f6.params.toList args.toList ds p := hA0
  clear hA0
  rw [Tryz.params6] at hA hval
  obtain ⟨v0, v1, v2, d0, d1, d2, p0, p1, p2, rfl, rfl, rfl, h0, h1, h2⟩ := trodAll_three hA
  obtain ⟨rfl, rfl⟩ := trodVars_none hV
  obtain ⟨l0, A0, c0, rfl, hr0, hc0, hz0, hn0, hi0⟩ := open_steps (hval 0 46 v0 rfl rfl) h0 (fun x hx => hlt x (by simp [hx]))
  obtain ⟨l1, A1, c1, rfl, hr1, hc1, hz1, hn1, hi1⟩ := open_steps (hval 1 46 v1 rfl rfl) h1 (fun x hx => hlt x (by simp [hx]))
  obtain ⟨A2, L2, c2, rfl, hr2, hc2, hn2, hi2⟩ := open_addrs (hval 2 31 v2 rfl rfl) h2 (fun x hx => hlt x (by simp [hx]))
  clear hval0
  obtain ⟨hT, hg⟩ := signs_of_laid hL
  have hmax : maxLen ≤ 9223372036854775807 := by decide
  refine (addrBegins_any A0 A1 A2 c0 c1 c2 l0 l1 L2 W hT hg hr0 hr1 hr2 hc0 hc1 hc2 (by omega) (by omega) (by omega) (fun l hl => Nat.le_trans (hi2 l hl) hmax)).mono fun e W' ⟨he, hb⟩ => ?_
  subst he
  exact ⟨_, rfl, post_true laidOut (by kernel_rfl) (by kernel_rfl) Tryz.underlying4 rfl hW' rfl hb⟩
theorem addrBegins_holds : Rows.AddrBeginsSaid :=
  OpenClaim.holds_of_wide 6 Tryz.f6 rfl rfl rfl rfl rfl rfl rfl ⟨rfl, rfl, rfl, rfl, rfl⟩ rfl rfl rfl rfl rfl (by kernel_rfl) Tryz.func6 (by kernel_rfl)
    (of_decide_eq_true (by kernel_rfl)) (by unfold Func.isWrapper; first | (rw [if_pos (by decide +kernel)]; kernel_rfl) | (rw [if_neg (by decide +kernel)]; exact ⟨rfl, rfl⟩))
    (fun os started H enc _ => addrBegins_lifted os started H enc)
/-- THE TIED CARD. -/
theorem addrBegins_card : Rows.AddrBeginsCardSaid :=
  Claim7.holds_tied_plain_at .later [] [.data, .data] true (true, "580840e1eee41d1ce52a0be8d3cfaa7fe92b28aa451517d03a1085c737f7d925") true
    addrBegins_holds (fun _ h => by cases h) (by kernel_rfl) (fun _ h => by cases h) addrBegins_row_tie rfl ⟨rfl, rfl⟩ (by kernel_rfl) rfl
    (fun f fn hf hfn => by
      obtain rfl : f = 6 := Option.some.inj ((show Tryz.prog.funcNamed "placket/placketlaw15.AddrBegins" = some 6 by kernel_rfl).symm.trans hf) |>.symm
      obtain rfl : fn = Tryz.f6 := (Option.some.inj (Tryz.func6.symm.trans hfn)).symm
      exact ⟨by kernel_rfl, fun j t ht => by
        rw [Tryz.params6] at ht
        have hm : t ∈ [46, 46, 31] := by simpa using Array.mem_of_getElem? ht
        have hall : ([46, 46, 31].all fun u => !Tryz.prog.wantsStandIn u) = true := by kernel_rfl
        exact (show Tryz.prog.wantsStandIn t = false by simpa using List.all_eq_true.1 hall t hm)⟩)
    (by kernel_rfl)
#print axioms addrBegins_card
end Go.Proofs.YtfcegalckjeafaaGreatDoor
