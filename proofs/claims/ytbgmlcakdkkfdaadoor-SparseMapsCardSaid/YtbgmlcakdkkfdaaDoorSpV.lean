/-
  A REGION THAT DRAWS ITS ORDER IN A ROUND, by the laws for plain regions; a row of what a rule makes of each pair (plain).
-/
import Derived.Test.YtbgmlcakdkkfdaaDoorSpU
namespace Go.Proofs.YtbgmlcakdkkfdaaDoor
open Go.RowKit Go.BigFrame Go.Shelf

/-- Only to the end. -/
def onlyNormal (Q : Exit → Act → World → Prop) : Exit → Act → World → Prop
  | .normal, a, w => Q .normal a w
  | _, _, _ => False
theorem upon_round {l n : Nat} {P : Program} {o : Oper} {a : Act} {next next' : Act → World → Prop} {Q : Exit → Act → World → Prop} (hn : ∀ a w, next a w → next' a w) :
    ∀ r, o.upon P a next Q r → o.uponIn (Fence.wide.inRound l) n P a next' Q r
  | .ok (.value _) _, h => hn _ _ h
  | .ok .skip _, h => hn _ _ h
  | .ok (.defer _) _, h => hn _ _ h
  | .ok (.enter _ _) _, h => ⟨by simp [Fence.wide], (CallsIn.inRound l (callsIn_wide.2 h)).mono fun e _ h => by
      cases e with
      | returned v => exact hn _ _ h
      | panicked c => exact h
      | outgrown => exact h⟩
  | .ok (.row _ _) _, h => ⟨by simp [Fence.wide], fun c cs _ => let ⟨v, w'', r, s⟩ := h c cs; ⟨v, w'', hn _ _ r, stepsIn_wide.2 s⟩⟩
  | .ok (.round _ _ _ _ _) _, h => h.elim
  | .halt (.panic _) _, h => h
  | .halt (.unsupported _) _, h => h.elim
  | .halt (.stuck _) _, h => h.elim
theorem wpOps_round {l n : Nat} {P : Program} {ops : Array Oper} {Q : Exit → Act → World → Prop} (hQ : ¬ LetsOut Q) (hd : ∀ (i : Nat) (o : Oper), ops[i]? = some o → ∀ c, o.op ≠ .defer c) :
    ∀ (order : List Nat) (a : Act) (w : World), wpOps P ops Q order a w → wpOpsIn (Fence.wide.inRound l) n P ops Q order a w
  | [], _, _, h => h
  | i :: rest, a, w, h => by
    unfold wpOps at h
    unfold wpOpsIn
    cases ho : ops[i]? with
    | none => rw [ho] at h; exact wpOps_round hQ hd rest a w h
    | some o =>
      rw [ho] at h
      simp only at h ⊢
      split at h
      · rename_i hw
        rw [if_pos hw]
        refine ⟨fun _ _ => trivial, ?_⟩
        rw [Oper.semAt_plain _ _ _ (hd i o ho)]
        rcases h with h | ⟨_, h⟩
        · exact upon_round (fun a w => wpOps_round hQ hd rest a w) _ h
        · exact absurd h hQ
      · rename_i hw
        rw [if_neg hw]
        exact ⟨fun _ _ => trivial, wpOps_round hQ hd rest _ w h⟩
def noDefer (ops : List Oper) : Bool := ops.all fun o => match o.op with | .defer _ => false | _ => true
/-- A region that draws its order, in a round: by the plain laws. -/
theorem wpIn_region_ht {P : Program} {Q : Exit → Act → World → Prop} {rd k : Nat} {id : Nat} {l : List Oper} {a : Act} {w : World} (n : Nat) (S : World → Prop) (hm : P.follows .mixedOrders = true) (hst : htB .any l.toArray n = true) (hnd : noDefer l = true) (hS : S w.drew)
    (h : htB .any l.toArray n = true → S w.drew → wpAnyT P .any l.toArray (onlyNormal Q) S n (l.length - n) (fun a w => wpList P l.toArray (onlyNormal Q) (l.drop n) a w) n (Array.replicate l.length false) a w.drew) :
    (Code.region id l.toArray true).wpIn (Fence.wide.inRound rd) k P Q a w := by
  refine wpIn_mono (Q := onlyNormal Q) (wpIn_region_draw fun t => wpOps_round (fun ⟨_, _, h⟩ => h) (fun i o ho c => ?_) _ _ _ ?_) (fun e a w h => by cases e <;> first | exact h | exact h.elim)
  · have := List.all_eq_true.1 hnd o (by simpa using Array.mem_of_getElem? ho)
    intro e
    rw [e] at this
    cases this
  · simp only [Region.schedule, hm, Bool.true_or, if_true]
    refine wpAny_sound l.toArray.size t _ a _ ?_
    have hn : n < l.length := by
      simp only [htB, Bool.and_eq_true, decide_eq_true_eq] at hst
      simpa using hst.1.1.2
    have := wpAny_of_T (Q := onlyNormal Q) (g := l.length - n) (fun listed a w hB hT => by
      have := wpAny_of_seq (md := .any) (Q' := onlyNormal Q) (l.drop n) n listed a w (fun j => by simp [List.getElem?_drop]) (by simpa using hB) hT
      simpa using this) _ _ _ _ (h hst hS)
    rw [show n + (l.length - n) = l.toArray.size by simp; omega] at this
    simpa using this

namespace Sp
variable {α β : Type}
/-- What a rule makes of each place and thing. -/
def mapI (f : Nat → α → β) : List (Option α) → List (Option β)
  | [] => []
  | o :: m => o.map (f 0) :: mapI (fun i => f (i + 1)) m
theorem mapI_len (f : Nat → α → β) : ∀ m : List (Option α), (mapI f m).length = m.length
  | [] => rfl
  | o :: m => by simp [mapI, mapI_len _ m]
theorem mapI_bits (f : Nat → α → β) : ∀ m : List (Option α), bitsL (mapI f m) = bitsL m
  | [] => rfl
  | o :: m => by rw [mapI, bitsL_cons, bitsL_cons, mapI_bits _ m]; simp
theorem mapI_at (f : Nat → α → β) : ∀ (m : List (Option α)) (i : Nat), at_ (mapI f m) i = (at_ m i).map (f i)
  | [], i => by simp [mapI, at_]
  | o :: m, 0 => by simp [mapI, at_]
  | o :: m, i + 1 => by
    have := mapI_at (fun i => f (i + 1)) m i
    simp only [at_] at this
    simpa [mapI, at_] using this
theorem mapI_get (f : Nat → α → β) (m : List (Option α)) (i : Int) : getM (mapI f m) i = (getM m i).map (f i.toNat) := by
  unfold getM
  split
  · exact mapI_at f m _
  · rfl
theorem mapI_vals : ∀ (f : Nat → α → β) (m : List (Option α)), vals (mapI f m) = (prs m).map fun p => f p.1 p.2
  | _, [] => rfl
  | f, none :: m => by
    rw [mapI, vals_cons, mapI_vals _ m]
    simp [prs]
  | f, some x :: m => by
    rw [mapI, vals_cons, mapI_vals _ m]
    simp [prs]
end Sp
end Go.Proofs.YtbgmlcakdkkfdaaDoor
