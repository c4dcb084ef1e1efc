/-
  Parts of the proof that AddrTold,AddrBegins calls on: Rk, Rl, Rm.
-/
import Derived.IntWalk
import Derived.Test.YtfcegalckjeafaaGreatDoorM103
import Derived.Test.YtfcegalckjeafaaGreatDoorM105
import Derived.Test.YtfcegalckjeafaaGreatDoorM110
namespace Go.Proofs.YtfcegalckjeafaaGreatDoor
open Go.RowKit Go.BigFrame
/-- A tree's first things, and the others. -/
def CutOut (w : World) (S : Nat → Prop) (i : Nat) (vs : List V) (e : Ending) (w' : World) : Prop := ∃ p q, e = .returned (.tuple #[.pointer p, .pointer q]) ∧ IsRope w' (up S w.heap.size) (vs.take i) p ∧ IsRope w' (up S w.heap.size) (vs.drop i) q ∧ Below w.heap.size w w'
end Go.Proofs.YtfcegalckjeafaaGreatDoor
namespace Go.Proofs.YtfcegalckjeafaaGreatDoor
open Go.RowKit Go.BigFrame
theorem CutOut.high {w : World} {S : Nat → Prop} {vs : List V} {p : Option Addr} {i : Nat} (h : IsRope w S vs p) (hi : vs.length ≤ i) : CutOut w S i vs (.returned (.tuple #[.pointer p, .pointer none])) w :=
  ⟨p, none, rfl, by rw [List.take_of_length_le hi]; exact h.more fun _ => up_in, by rw [List.drop_eq_nil_of_le hi]; exact .inl ⟨rfl, rfl⟩, Below.refl _ _⟩
theorem flat_parts {ks : List (List V)} {k : Nat} (h : k < ks.length) : ks.flatten = (ks.take k).flatten ++ (ks[k] ++ (ks.drop (k + 1)).flatten) := by
  have : ks.flatten = (ks.take k ++ ks[k] :: ks.drop (k + 1)).flatten := by rw [← List.drop_eq_getElem_cons h, List.take_append_drop]
  rw [this, List.flatten_append, List.flatten_cons]
theorem TreeOut.same {w w1 w' : World} {S : Nat → Prop} {vs : List V} {e : Ending} (h : TreeOut w1 (up S w.heap.size) vs e w') (hb : Below w.heap.size w w1) : ∃ p, e = .returned (.pointer p) ∧ IsRope w' (up S w.heap.size) vs p ∧ Below w1.heap.size w1 w' := by
  obtain ⟨p, h1, h2, h3⟩ := h
  exact ⟨p, h1, h2.more fun _ h => up_up h hb.size, h3⟩
end Go.Proofs.YtfcegalckjeafaaGreatDoor
namespace Go.Proofs.YtfcegalckjeafaaGreatDoor
open Go.RowKit Go.BigFrame
theorem IsRope.len {w : World} {S : Nat → Prop} {vs : List V} {p : Option Addr} (h : IsRope w S vs p) : (p = none ∧ vs.length = 0) ∨ ∃ b, p = some ⟨b, 0, none⟩ ∧ w.cell? ⟨b, 0, none⟩ = some (.int .i64 (vs.length : Int)) := by
  rcases h with ⟨rfl, rfl⟩ | ⟨d, h⟩
  · exact .inl ⟨rfl, rfl⟩
  · obtain ⟨b, u, x, e, -, hb⟩ := h.head
    exact .inr ⟨b, e, hb.cell 0⟩
set_option maxHeartbeats 1000000 in
theorem rlen_any (vs : List V) (p : Option Addr) (S : Nat → Prop) (w : World) (h : IsRope w S vs p) : Calls Tryz.prog 164 #[.agg #[.pointer p]] w fun e w' => e = .returned (.int .i64 (vs.length : Int)) ∧ Below w.heap.size w w' := by
  rcases h.len with ⟨rfl, hn⟩ | ⟨b, rfl, hc⟩
  · rw [hn]
    clear h hn
    go_enter Tryz.func164, Tryz.ntmps164
    go_wp2
    go_ret
    exact ⟨rfl, (Below.refl _ _).alloc (Nat.le_refl _) _⟩
  · clear h
    generalize (vs.length : Int) = N at *
    have hlt := World.block_lt_of_cell? w _ hc
    go_enter Tryz.func164, Tryz.ntmps164
    go_wp2
    go_ret
    exact ⟨rfl, (Below.refl _ _).alloc (Nat.le_refl _) _⟩
/-- Is there a place? -/
def inB (i : Int) (n : Nat) : Bool := decide (0 ≤ i ∧ i < (n : Int))
set_option maxHeartbeats 1000000 in
theorem has_any (i : Int) (vs : List V) (p : Option Addr) (S : Nat → Prop) (w : World) (h : IsRope w S vs p) : Calls Tryz.prog 151 #[.agg #[.pointer p], .int .i64 i] w fun e w' => e = .returned (.bool (inB i vs.length)) ∧ Below w.heap.size w w' := by
  have H := Lib.hid h
  clear h
  obtain ⟨b, hb⟩ : ∃ b, b = inB i vs.length := ⟨_, rfl⟩
  have HB := Lib.hid hb
  rw [← hb]
  clear hb
  by_cases h0 : 0 ≤ i
  · by_cases h1 : i < (vs.length : Int)
    · have hbt : b = true := by rw [HB.out, inB]; simp [h0, h1]
      subst hbt
      go_enter Tryz.func151, Tryz.ntmps151
      go_wp2_with fail
      refine (rlen_any vs p S _ (H.out.keeps (.of_below ((Below.refl _ _).alloc (Nat.le_refl _) _)))).mono ?_
      rintro e w1 ⟨rfl, hb1⟩
      go_wp2
      go_ret
      exact ⟨rfl, ((Below.refl _ _).alloc (Nat.le_refl _) _).trans (hb1.mono (by simp))⟩
    · have hbt : b = false := by rw [HB.out, inB]; simp [h1]
      subst hbt
      go_enter Tryz.func151, Tryz.ntmps151
      go_wp2_with fail
      refine (rlen_any vs p S _ (H.out.keeps (.of_below ((Below.refl _ _).alloc (Nat.le_refl _) _)))).mono ?_
      rintro e w1 ⟨rfl, hb1⟩
      go_wp2
      go_ret
      exact ⟨by simp [h1], ((Below.refl _ _).alloc (Nat.le_refl _) _).trans (hb1.mono (by simp))⟩
  · have hbt : b = false := by rw [HB.out, inB]; simp [h0]
    subst hbt
    go_enter Tryz.func151, Tryz.ntmps151
    go_wp2
    go_ret
    exact ⟨rfl, (Below.refl _ _).alloc (Nat.le_refl _) _⟩
/-- A rope and a code. -/
def RopeOut (w : World) (S : Nat → Prop) (vs : List V) (c : Int) (e : Ending) (w' : World) : Prop := ∃ p, e = .returned (.tuple #[.agg #[.pointer p], .int .i64 c]) ∧ IsRope w' (up S w.heap.size) vs p ∧ Below w.heap.size w w'
theorem reads_one_V (w : World) (v : V) : Reads (w.alloc (.cells v.l.toArray 42)) (fun j => j = w.heap.size) 11 (some ⟨w.heap.size, 0, none⟩) [v].length (flat [v]) := ⟨rfl, fun _ => ⟨_, rfl, rfl, fun j x hj => by
  have := (Blk.new w 42 v.l.toArray).cell j
  simp only [List.getElem?_toArray] at this
  rw [show flat [v] = v.l by simp [flat]] at hj
  rw [← hj, ← this]
  cases j with
  | zero => rfl
  | succ j => simp [Addr.add]⟩⟩
end Go.Proofs.YtfcegalckjeafaaGreatDoor
