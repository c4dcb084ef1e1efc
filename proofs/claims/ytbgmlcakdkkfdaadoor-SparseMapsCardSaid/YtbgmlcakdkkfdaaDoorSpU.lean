/-
  What a loop over a row's iterator carries: the place that came last, the pairs that came; how a function is left behind such a loop.
-/
import Derived.Test.YtbgmlcakdkkfdaaDoorSpT
namespace Go.Proofs.YtbgmlcakdkkfdaaDoor
open Go.RowKit Go.BigFrame Go.Shelf

/-- The place of the last pair that came; -1 ahead of the first. -/
def lastOf (pre : List (Nat × Int)) : Int := (pre.getLast?.map (fun p => (p.1 : Int))).getD (-1)
theorem lastOf_nil : lastOf [] = -1 := rfl
theorem lastOf_snoc (pre : List (Nat × Int)) (x : Nat × Int) : lastOf (pre ++ [x]) = x.1 := by simp [lastOf]
/-- What came last is not what was to come. -/
def Wrong (m : List (Option Int)) (pre : List (Nat × Int)) : Prop := ∃ ini x, pre = ini ++ [x] ∧ (Sp.getM m (x.1 : Int) ≠ some x.2 ∨ (x.1 : Int) ≤ lastOf ini)
theorem not_wrong {m : List (Option Int)} {pre : List (Nat × Int)} (hm : m.length = 32) (h : pre <+: Sp.prs m) : ¬ Wrong m pre := by
  rintro ⟨ini, x, rfl, hw⟩
  have hx : x ∈ Sp.prs m := h.subset (by simp)
  have hat := (Sp.prs_at m x.1 x.2).1 hx
  have hlt : x.1 < 32 := by
    rcases Nat.lt_or_ge x.1 m.length with h | h
    · omega
    · rw [Sp.at_, List.getElem?_eq_none h] at hat; simp at hat
  rcases hw with hw | hw
  · refine hw ?_
    rw [Sp.getM, if_pos (by omega), Int.toNat_natCast, hat]
  · have hp := (Sp.prs_rise m).sublist h.sublist
    cases hl : ini.getLast? with
    | none => simp [lastOf, hl] at hw; omega
    | some y =>
      rw [List.pairwise_append] at hp
      have hy : y ∈ ini := List.mem_of_getLast? hl
      have := hp.2.2 y hy x (by simp)
      simp [lastOf, hl] at hw
      omega
/-- Only by 'return'. -/
def retOnly (Q : Exit → Act → World → Prop) : Exit → Act → World → Prop
  | .ret, a, w => Q .ret a w
  | _, _, _ => False
/-- A function that holds a range over a function, opened. -/
theorem enter_marks {P : Program} {f : FuncId} {fn : Func} {c : Code} {args : Array Value} {w : World} {R : Ending → World → Prop} (hf : P.funcs[f]? = some fn) (hb : fn.body = some c)
    (h : c.wp P (retOnly (bodyPostM Fence.wide 3 P fn R)) { tmps := args ++ Array.replicate (fn.ntmps - args.size) undef, defers := [] } w) : Calls P f args w R :=
  callsIn_wide.1 (callsIn_of_wp_marks (n := 3) hf hb trivial (wpIn_wide.2 (wp_mono h fun e a w h => by cases e <;> first | exact h | exact h.elim)) rfl)
theorem keepsFrom_of_below {B : Nat} {W W' : World} (h : Below W.heap.size W W') : KeepsFrom B W W' :=
  ⟨h.size, fun k _ _ hk _ => (h.block k (Array.getElem?_eq_some_iff.1 hk).1).trans hk⟩
theorem blk_own {β : Type} (B : Nat) (t : TypeId) (f : β → Array Value) : Own (fun s W => Blk W B t (f s)) := fun s X Y row hs hg hrow =>
  hs.grown hg (fun e' => by obtain ⟨o, ho, hc⟩ := hrow B e'.symm; rw [show X.heap[B]? = _ from hs] at ho; cases ho; cases hc)

/-- A load of the document's row, in a round. -/
theorem wpListIn_load_ref {F : Fence} {n : Nat} {ops : Array Oper} {rest : List Oper} {o : Oper} {a : Act} {w : World} {Q : Exit → Act → World → Prop} (hg : o.guard = none) (p : Operand) (hop : o.op = .load 33 p)
    (d : Nat) (hp : a.eval p = .pointer (some ⟨d, 0, none⟩)) (h : Whole 64 w.heap d) (hK : wpListIn F n Tryd.prog ops Q rest (a.put o.dst (.agg (bcells w.heap d))) w) : wpListIn F n Tryd.prog ops Q (o :: rest) a w := by
  refine wpListIn_plain hg fun K hK' => ?_
  have hrun := run_load_ref h
  unfold Oper.wpIn
  refine ⟨?_, ?_⟩
  · simp [Oper.about, hop]
  · rw [Oper.semAt_plain F _ _ (by rw [hop]; intro c hc'; cases hc')]
    simp only [execOp, hop, hp, Sem.run_bind, hrun]
    exact hK' _ _ hK
/-- What the law's loop over an iterator carries: most (p3), the result (p4), the document's row (d), n (p9), last (p10). -/
def WI (p3 p4 d p9 p10 : Nat) (most : Int) (M : List (Option Int)) (k last : Int) (W : World) : Prop :=
  Blk W p3 3 #[.int .i64 most] ∧ Blk W p4 4 #[.bool false] ∧ Blk W d 33 (refL M).toArray ∧ Blk W p9 3 #[.int .i64 k] ∧ Blk W p10 3 #[.int .i64 last]
section
variable {p3 p4 d p9 p10 : Nat} {most : Int} {M : List (Option Int)} {k last : Int} {W W' : World}
theorem WI.below (h : WI p3 p4 d p9 p10 most M k last W) (hb : Below W.heap.size W W') : WI p3 p4 d p9 p10 most M k last W' := by
  obtain ⟨h1, h2, h3, h4, h5⟩ := h
  exact ⟨h1.below hb h1.lt, h2.below hb h2.lt, h3.below hb h3.lt, h4.below hb h4.lt, h5.below hb h5.lt⟩
theorem WI.facts (h : WI p3 p4 d p9 p10 most M k last W) (hM : M.length = 32) : W.cell? ⟨p3, 0, none⟩ = some (.int .i64 most) ∧ W.cell? ⟨p4, 0, none⟩ = some (.bool false) ∧ W.frozen? ⟨p4, 0, none⟩ = false ∧
    bcells W.heap d = (refL M).toArray ∧ Whole 64 W.heap d ∧ W.cell? ⟨p9, 0, none⟩ = some (.int .i64 k) ∧ W.frozen? ⟨p9, 0, none⟩ = false ∧ W.cell? ⟨p10, 0, none⟩ = some (.int .i64 last) ∧ W.frozen? ⟨p10, 0, none⟩ = false := by
  obtain ⟨h1, h2, h3, h4, h5⟩ := h
  exact ⟨h1.cell 0, h2.cell 0, h2.frozen 0, bcells_of h3, whole_of h3 64 (by simp [refL_len, hM]), h4.cell 0, h4.frozen 0, h5.cell 0, h5.frozen 0⟩
theorem WI.stored (h : WI p3 p4 d p9 p10 most M k last W) (h39 : p3 ≠ p9) (h30 : p3 ≠ p10) (h49 : p4 ≠ p9) (h40 : p4 ≠ p10) (hd9 : d ≠ p9) (hd0 : d ≠ p10) (h90 : p9 ≠ p10) (k' last' : Int) :
    WI p3 p4 d p9 p10 most M k' last' ((W.setCell ⟨p10, 0, none⟩ (.int .i64 last')).setCell ⟨p9, 0, none⟩ (.int .i64 k')) := by
  obtain ⟨h1, h2, h3, h4, h5⟩ := h
  refine ⟨(h1.far h30 _).far h39 _, (h2.far h40 _).far h49 _, (h3.far hd0 _).far hd9 _, ?_, ?_⟩
  · simpa using (h4.far (p := ⟨p10, 0, none⟩) h90 (.int .i64 last')).set_ 0 (.int .i64 k')
  · simpa using (h5.set_ 0 (.int .i64 last')).far (p := ⟨p9, 0, none⟩) (Ne.symm h90) (.int .i64 k')
theorem WI.own {β : Type} (f g : β → Int) : Own (fun s W => WI p3 p4 d p9 p10 most M (f s) (g s) W) := fun s X Y row h hg hr =>
  ⟨blk_own p3 3 (fun _ : β => _) s X Y row h.1 hg hr, blk_own p4 4 (fun _ : β => _) s X Y row h.2.1 hg hr, blk_own d _ (fun _ : β => _) s X Y row h.2.2.1 hg hr, blk_own p9 3 (fun s => #[.int .i64 (f s)]) s X Y row h.2.2.2.1 hg hr, blk_own p10 3 (fun s => #[.int .i64 (g s)]) s X Y row h.2.2.2.2 hg hr⟩
end
/-- The function is left behind its loop, true in its result's cell. -/
theorem leaves_true {fn : Func} {a : Act} {w W : World} {D p : Nat} (hfn : fn.results = #[.cell 4 4]) (ha : a.defers = [{ target := .collected D, args := #[] }]) (hp : a.tmps[4]? = some (.pointer (some ⟨p, 0, none⟩))) (hB : Below w.heap.size w W) (hD : w.heap.size ≤ D)
    (hK : W.heap[D]? = some (.deferred (some []))) (hc : W.cell? ⟨p, 0, none⟩ = some (.bool true)) : bodyPostM Fence.wide 3 Tryd.prog fn (TrueOut w) .ret a W := by
  show LeavesInM Fence.wide 3 Tryd.prog fn a.tmps (TrueOut w) a.defers .returning W
  rw [ha]
  refine ⟨by simp, .inl ⟨_, _, rfl, run_takeDeferred hK, ?_⟩⟩
  have hc5 := cell_kept hc (grownBy_putObj' _ D (.deferred none)) (fun r e => by cases e; exact ⟨_, hK, rfl⟩)
  refine ⟨.bool true, ?_, rfl, hB.trans (belowK_b (w := w) (Nat.le_refl _) _ D _ _ hD hK rfl rfl)⟩
  simp [results, hfn, go_sem, hc5, hp]
end Go.Proofs.YtbgmlcakdkkfdaaDoor
