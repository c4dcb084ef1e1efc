/-
  A ROW AND THE DOCUMENT's ROW in boxes of the call's own: what the laws over operations carry from round to round.
-/
import Derived.Test.YtbgmlcakdkkfdaaDoorSpO
import Derived.Test.YtbgmlcakdkkfdaaDoorHeadTail
namespace Go.Proofs.YtbgmlcakdkkfdaaDoor
open Go.RowKit Go.BigFrame

theorem RowIn.keep {w w' : World} {S : Nat → Prop} {m : List (Option Int)} {v : Value} (h : RowIn w S m v) (hk : ∀ k, S k → w'.heap[k]? = w.heap[k]?) (hs : w.heap.size ≤ w'.heap.size) : RowIn w' S m v := by
  obtain ⟨h1, h5, A, c, h2, h3, h4⟩ := h
  exact ⟨h1, fun k hk => Nat.lt_of_lt_of_le (h5 k hk) hs, A, c, h2, h3, h4.keep fun p hp => World.cell?_of_block (w := w) (hk _ hp)⟩

theorem runM_past (m : List (Option Int)) (l : List SOp) (k : Nat) (h : l.length ≤ k) : runM m (l.take (k + 1)) = runM m (l.take k) := by
  rw [List.take_of_length_le (by omega), List.take_of_length_le h]

/-- A row whose things lie in no box of X. -/
def RwX (w : World) (X : Nat → Prop) (m : List (Option Int)) (v : Value) : Prop := RowIn w (fun k => k < w.heap.size ∧ ¬ X k) m v
theorem RwX.up {w w' : World} {X : Nat → Prop} {m : List (Option Int)} {v : Value} (h : Hid (RwX w X m v)) (hb : Below w.heap.size w w') : Hid (RwX w' X m v) :=
  RowIn.more (RowIn.below (show RowIn _ _ _ _ from h) hb) (fun _ hk => ⟨Nat.lt_of_lt_of_le hk.1 hb.size, hk.2⟩) (fun _ hk => hk.1)
theorem does_rwx {m : List (Option Int)} {v : Value} {o : SOp} {w : World} {X : Nat → Prop} (hX : ∀ k, X k → k < w.heap.size) (hv : Hid (RwX w X m v)) :
    Calls Tryd.prog 13 #[v, .agg #[.int .i64 o.I, .int .i64 o.X, .bool o.Cut]] w fun e w' => ∃ v', e = .returned v' ∧ Hid (RwX w' X (doM m o) v') ∧ Below w.heap.size w w' :=
  (does_any m v o w _ hv).mono fun _ w' ⟨v', he, h, hb⟩ => ⟨v', he, h.more (fun k hk => by
    rcases hk with h | ⟨h1, h2⟩
    · exact ⟨Nat.lt_of_lt_of_le h.1 hb.size, h.2⟩
    · exact ⟨h2, fun hx => by have := hX k hx; omega⟩) (fun k hk => hk.1), hb⟩
theorem should_hid {m : List (Option Int)} {o : SOp} {w : World} (hm : Hid (m.length = 32)) :
    Calls Tryd.prog 14 #[.agg (refL m).toArray, .agg #[.int .i64 o.I, .int .i64 o.X, .bool o.Cut]] w (RefOut w (doM m o)) := should_any m o w hm

/-- The row in box g, the document's in box d. -/
def Two (w : World) (X : Nat → Prop) (g d : Nat) (m : List (Option Int)) : Prop :=
  m.length = 32 ∧ X g ∧ X d ∧ g ≠ d ∧ Blk w d 33 (refL m).toArray ∧
    ∃ (A : Option Addr) (c : Nat), Blk w g 26 #[.int .u32 (Sp.bitsL m), .slice A (Sp.vals m).length c] ∧ RwX w X m (.agg #[.int .u32 (Sp.bitsL m), .slice A (Sp.vals m).length c])
theorem Two.below {w w' : World} {X : Nat → Prop} {g d : Nat} {m : List (Option Int)} (h : Two w X g d m) (hb : Below w.heap.size w w') : Two w' X g d m := by
  obtain ⟨hm, hg, hd, hne, h1, A, c, h2, h3⟩ := h
  exact ⟨hm, hg, hd, hne, h1.below hb h1.lt, A, c, h2.below hb h2.lt, RwX.up h3 hb⟩
theorem Two.facts {w : World} {X : Nat → Prop} {g d : Nat} {m : List (Option Int)} (h : Two w X g d m) :
    ∃ (A : Option Addr) (c : Nat), Hid (RwX w X m (.agg #[.int .u32 (Sp.bitsL m), .slice A (Sp.vals m).length c])) ∧ w.cell? ⟨g, 0, none⟩ = some (.int .u32 (Sp.bitsL m)) ∧ w.cell? ⟨g, 1, none⟩ = some (.slice A (Sp.vals m).length c) ∧
      bcells w.heap d = (refL m).toArray ∧ Whole 64 w.heap d ∧ g < w.heap.size ∧ d < w.heap.size := by
  obtain ⟨hm, hg, hd, hne, h1, A, c, h2, h3⟩ := h
  exact ⟨A, c, h3, h2.cell 0, h2.cell 1, bcells_of h1, whole_of h1 64 (by simp [refL_len, hm]), h2.lt, h1.lt⟩
theorem Two.boxes {w : World} {X : Nat → Prop} {g d : Nat} {m : List (Option Int)} (h : Two w X g d m) (u u' : Value) :
    ∃ (A : Option Addr) (c : Nat), w.cell? ⟨g, 0, none⟩ = some (.int .u32 (Sp.bitsL m)) ∧ w.cell? ⟨g, 1, none⟩ = some (.slice A (Sp.vals m).length c) ∧ w.frozen? ⟨g, 0, none⟩ = false ∧ w.frozen? ⟨g, 1, none⟩ = false ∧
      Hid (((w.setCell ⟨g, 0, none⟩ u).setCell ⟨g, 1, none⟩ u').heap[d]? = some (.cells (refL m).toArray 33 (0, 0))) := by
  obtain ⟨hm, hg, hd, hne, h1, A, c, h2, h3⟩ := h
  exact ⟨A, c, h2.cell 0, h2.cell 1, h2.frozen 0, h2.frozen 1, (h1.far (p := ⟨g, 0, none⟩) (Ne.symm hne) u).far (p := ⟨g, 1, none⟩) (Ne.symm hne) u'⟩
theorem Two.box {w : World} {X : Nat → Prop} {g d : Nat} {m : List (Option Int)} {A : Option Addr} {c : Nat} (h : Two w X g d m) (h0 : w.cell? ⟨g, 1, none⟩ = some (.slice A (Sp.vals m).length c)) : Hid (Blk w g 26 #[.int .u32 (Sp.bitsL m), .slice A (Sp.vals m).length c]) := by
  obtain ⟨hm, hg, hd, hne, h1, A', c', h2, h3⟩ := h
  have := h2.cell 1
  rw [h0] at this
  simp at this
  obtain ⟨rfl, rfl⟩ := this
  exact h2
theorem RwX.shape {w : World} {X : Nat → Prop} {m : List (Option Int)} {v : Value} (h : Hid (RwX w X m v)) : ∃ A c, v = .agg #[.int .u32 (Sp.bitsL m), .slice A (Sp.vals m).length c] := by
  obtain ⟨-, -, A, c, h2, -, -⟩ := h
  exact ⟨A, c, h2⟩
/-- Both boxes are stored. -/
theorem Two.stored {w w2 w3 : World} {X : Nat → Prop} {g d : Nat} {m m1 : List (Option Int)} {A : Option Addr} {c : Nat} (h : Two w X g d m) (hm1 : m1.length = 32)
    (hv : Hid (RwX w X m1 (.agg #[.int .u32 (Sp.bitsL m1), .slice A (Sp.vals m1).length c])))
    (hw2 : w2 = (w.setCell ⟨g, 0, none⟩ (.int .u32 (Sp.bitsL m1))).setCell ⟨g, 1, none⟩ (.slice A (Sp.vals m1).length c))
    (hr : Hid (w3.heap[d]? = some (.cells (refL m1).toArray 33 (0, 0)))) (ho : ∀ k, k ≠ d → w3.heap[k]? = w2.heap[k]?) (hsz : w.heap.size ≤ w3.heap.size) : Two w3 X g d m1 := by
  obtain ⟨hm, hg, hd, hne, h1, A0, c0, h2, h3⟩ := h
  have hb2 : Blk w2 g 26 #[.int .u32 (Sp.bitsL m1), .slice A (Sp.vals m1).length c] := by
    have := (h2.set_ 0 (.int .u32 (Sp.bitsL m1))).set_ 1 (.slice A (Sp.vals m1).length c)
    rw [hw2]
    simpa using this
  refine ⟨hm1, hg, hd, hne, hr, A, c, (ho g hne).trans hb2, ?_⟩
  have hv' : RowIn w3 (fun k => k < w.heap.size ∧ ¬ X k) m1 _ := RowIn.keep (show RowIn _ _ _ _ from hv) (fun k hk => by
    have e1 : k ≠ d := by rintro rfl; exact hk.2 hd
    have e2 : k ≠ g := by rintro rfl; exact hk.2 hg
    rw [ho k e1, hw2, Below.heap_setCell _ _ _ _ e2, Below.heap_setCell _ _ _ _ e2]) hsz
  exact hv'.more (fun k hk => ⟨Nat.lt_of_lt_of_le hk.1 hsz, hk.2⟩) (fun k hk => hk.1)
/-- Another pair stays as it was. -/
theorem Two.other {w w2 w3 : World} {X : Nat → Prop} {g d g' d' : Nat} {m : List (Option Int)} {u u' : Value} (h : Two w X g' d' m) (hXg : X g) (hXd : X d) (h1 : g' ≠ g) (h2 : g' ≠ d) (h3 : d' ≠ g) (h4 : d' ≠ d)
    (hw2 : w2 = (w.setCell ⟨g, 0, none⟩ u).setCell ⟨g, 1, none⟩ u')
    (ho : ∀ k, k ≠ d → w3.heap[k]? = w2.heap[k]?) (hsz : w.heap.size ≤ w3.heap.size) : Two w3 X g' d' m := by
  obtain ⟨hm, hg, hd, hne, k1, A0, c0, k2, k3⟩ := h
  have key : ∀ k, k ≠ g → k ≠ d → w3.heap[k]? = w.heap[k]? := fun k e1 e2 => by
    rw [ho k e2, hw2, Below.heap_setCell _ _ _ _ e1, Below.heap_setCell _ _ _ _ e1]
  refine ⟨hm, hg, hd, hne, (key _ h3 h4).trans k1, A0, c0, (key _ h1 h2).trans k2, ?_⟩
  have hv' : RowIn w3 (fun k => k < w.heap.size ∧ ¬ X k) m _ := RowIn.keep (show RowIn _ _ _ _ from k3) (fun k hk => key k (by rintro rfl; exact hk.2 hXg) (by rintro rfl; exact hk.2 hXd)) hsz
  exact hv'.more (fun k hk => ⟨Nat.lt_of_lt_of_le hk.1 hsz, hk.2⟩) (fun k hk => hk.1)
/-- More boxes, made since. -/
theorem Two.more {w : World} {X X' : Nat → Prop} {g d : Nat} {m : List (Option Int)} (h : Two w X g d m) (hX : ∀ k, X k → X' k) {w' : World} (hb : Below w.heap.size w w') (hn : ∀ k, X' k → ¬ X k → w.heap.size ≤ k) : Two w' X' g d m := by
  obtain ⟨hm, hg, hd, hne, h1, A, c, h2, h3⟩ := h
  refine ⟨hm, hX _ hg, hX _ hd, hne, h1.below hb h1.lt, A, c, h2.below hb h2.lt, ?_⟩
  exact RowIn.more (RowIn.below (show RowIn _ _ _ _ from h3) hb) (fun k hk => ⟨Nat.lt_of_lt_of_le hk.1 hb.size, fun hx => by have := hn k hx hk.2; omega⟩) (fun _ hk => hk.1)
/-- What the laws carry: a pair in boxes of X, made behind w. -/
def PairInv (w : World) (X : Nat → Prop) (g d : Nat) (m : List (Option Int)) (wr : World) : Prop :=
  Two wr X g d m ∧ Below w.heap.size w wr ∧ (∀ k, X k → w.heap.size ≤ k ∧ k < wr.heap.size)
theorem PairInv.below {w wr wr' : World} {X : Nat → Prop} {g d : Nat} {m : List (Option Int)} (h : PairInv w X g d m wr) (hb : Below wr.heap.size wr wr') : PairInv w X g d m wr' :=
  ⟨h.1.below hb, h.2.1.trans (hb.mono h.2.1.size), fun k hk => ⟨(h.2.2 k hk).1, Nat.lt_of_lt_of_le (h.2.2 k hk).2 hb.size⟩⟩
theorem PairInv.stored {w w9 w3 : World} {X : Nat → Prop} {g d : Nat} {m m1 : List (Option Int)} {A : Option Addr} {c : Nat} (h : PairInv w X g d m w9) (hm1 : m1.length = 32)
    (hv : Hid (RwX w9 X m1 (.agg #[.int .u32 (Sp.bitsL m1), .slice A (Sp.vals m1).length c])))
    (hr : Hid (w3.heap[d]? = some (.cells (refL m1).toArray 33 (0, 0))))
    (ho : ∀ k, k ≠ d → w3.heap[k]? = ((w9.setCell ⟨g, 0, none⟩ (.int .u32 (Sp.bitsL m1))).setCell ⟨g, 1, none⟩ (.slice A (Sp.vals m1).length c)).heap[k]?)
    (hB : ∀ B w0, Below B w0 ((w9.setCell ⟨g, 0, none⟩ (.int .u32 (Sp.bitsL m1))).setCell ⟨g, 1, none⟩ (.slice A (Sp.vals m1).length c)) → B ≤ d → Below B w0 w3) : PairInv w X g d m1 w3 := by
  obtain ⟨h1, h2, h3⟩ := h
  have hb := hB _ _ ((h2.setCell (p := ⟨g, 0, none⟩) (h3 g h1.2.1).1 (.int .u32 (Sp.bitsL m1))).setCell (p := ⟨g, 1, none⟩) (h3 g h1.2.1).1 (.slice A (Sp.vals m1).length c)) (h3 d h1.2.2.1).1
  have hs : w9.heap.size ≤ w3.heap.size := by
    have := hB 0 _ (Below.refl _ _) (Nat.zero_le _)
    simpa [World.setCell] using this.size
  exact ⟨h1.stored hm1 hv rfl hr ho hs, hb, fun k hk => ⟨(h3 k hk).1, Nat.lt_of_lt_of_le (h3 k hk).2 hs⟩⟩
/-- The other pairs stay. -/
theorem PairInv.other {w w9 w3 : World} {X : Nat → Prop} {g d g' d' : Nat} {m mm : List (Option Int)} {u u' : Value} (h : PairInv w X g' d' m w9) (hp : PairInv w X g d mm w9) (h1 : g' ≠ g) (h2 : g' ≠ d) (h3 : d' ≠ g) (h4 : d' ≠ d)
    (ho : ∀ k, k ≠ d → w3.heap[k]? = ((w9.setCell ⟨g, 0, none⟩ u).setCell ⟨g, 1, none⟩ u').heap[k]?)
    (hB : ∀ B w0, Below B w0 ((w9.setCell ⟨g, 0, none⟩ u).setCell ⟨g, 1, none⟩ u') → B ≤ d → Below B w0 w3) : PairInv w X g' d' m w3 := by
  obtain ⟨k1, k2, k3⟩ := h
  have hb := hB _ _ ((k2.setCell (p := ⟨g, 0, none⟩) (k3 g hp.1.2.1).1 u).setCell (p := ⟨g, 1, none⟩) (k3 g hp.1.2.1).1 u') (k3 d hp.1.2.2.1).1
  have hs : w9.heap.size ≤ w3.heap.size := by
    have := hB 0 _ (Below.refl _ _) (Nat.zero_le _)
    simpa [World.setCell] using this.size
  exact ⟨k1.other hp.1.2.1 hp.1.2.2.1 h1 h2 h3 h4 rfl ho hs, hb, fun k hk => ⟨(k3 k hk).1, Nat.lt_of_lt_of_le (k3 k hk).2 hs⟩⟩
theorem PairInv.more {w wr wr' : World} {X X' : Nat → Prop} {g d : Nat} {m : List (Option Int)} (h : PairInv w X g d m wr) (hX : ∀ k, X k → X' k) (hb : Below wr.heap.size wr wr') (hn : ∀ k, X' k → ¬ X k → wr.heap.size ≤ k ∧ k < wr'.heap.size) : PairInv w X' g d m wr' := by
  refine ⟨h.1.more hX hb (fun k h1 h2 => (hn k h1 h2).1), h.2.1.trans (hb.mono h.2.1.size), fun k hk => ?_⟩
  by_cases hx : X k
  · exact ⟨(h.2.2 k hx).1, Nat.lt_of_lt_of_le (h.2.2 k hx).2 hb.size⟩
  · exact ⟨Nat.le_trans h.2.1.size (hn k hk hx).1, (hn k hk hx).2⟩
/-- A copy of a pair, in two boxes of its own. -/
theorem PairInv.copy {w wr : World} {X : Nat → Prop} {g d p u : Nat} {m : List (Option Int)} {A : Option Addr} {c : Nat} (h : PairInv w X g d m wr) (hp : X p) (hu : X u) (hne : p ≠ u)
    (h1 : Blk wr g 26 #[.int .u32 (Sp.bitsL m), .slice A (Sp.vals m).length c])
    (hP : Blk wr p 26 #[.int .u32 (Sp.bitsL m), .slice A (Sp.vals m).length c]) (hU : Blk wr u 33 (refL m).toArray) : PairInv w X p u m wr := by
  obtain ⟨⟨hm, hg, hd, hgd, k1, A', c', k2, k3⟩, h2, h3⟩ := h
  have he := h1.symm.trans k2
  simp only [Option.some.injEq, Obj.cells.injEq, Array.mk.injEq, List.cons.injEq, Value.slice.injEq, true_and, and_true] at he
  obtain ⟨rfl, rfl⟩ := he
  exact ⟨⟨hm, hp, hu, hne, hU, A, c, hP, k3⟩, h2, h3⟩
/-- Two new row boxes. -/
theorem new_rows (w : World) (a b : Value) :
    Hid (Blk ((w.alloc (.cells #[a, b] 26)).alloc (.cells #[a, b] 26)).drew w.heap.size 26 #[a, b]) ∧
    Hid (Blk ((w.alloc (.cells #[a, b] 26)).alloc (.cells #[a, b] 26)).drew (w.heap.size + 1) 26 #[a, b]) ∧
    Hid (Below w.heap.size w ((w.alloc (.cells #[a, b] 26)).alloc (.cells #[a, b] 26)).drew) := by
  have e2 : Blk ((w.alloc (.cells #[a, b] 26)).alloc (.cells #[a, b] 26)) (w.heap.size + 1) 26 #[a, b] := by simpa using Blk.new (w.alloc (.cells #[a, b] 26)) 26 #[a, b]
  exact ⟨(((Blk.new w _ _).alloc _).drew : Blk _ _ _ _), e2.drew, (((Below.refl _ _).alloc (Nat.le_refl _) _).alloc (by simp) _).drew⟩
/-- Two new boxes for the document's row. -/
theorem new_refs (w : World) :
    Hid (((w.drew.alloc (.cells (Value.agg (refL m0).toArray).cells 33)).alloc (.cells (Value.agg (refL m0).toArray).cells 33)).heap[w.heap.size]? = some (.cells (refL m0).toArray 33 (0, 0))) ∧
    Hid (((w.drew.alloc (.cells (Value.agg (refL m0).toArray).cells 33)).alloc (.cells (Value.agg (refL m0).toArray).cells 33)).heap[w.heap.size + 1]? = some (.cells (refL m0).toArray 33 (0, 0))) ∧
    Hid (Below w.heap.size w ((w.drew.alloc (.cells (Value.agg (refL m0).toArray).cells 33)).alloc (.cells (Value.agg (refL m0).toArray).cells 33))) :=
  ⟨(Below.heap_alloc _ _ _ (by simp)).trans (heap_alloc_new w.drew _), by
    have := heap_alloc_new (w.drew.alloc (.cells (Value.agg (refL m0).toArray).cells 33)) (.cells (Value.agg (refL m0).toArray).cells 33)
    simp only [World.size_alloc] at this
    exact this, ((Below.refl _ _).drew.alloc (Nat.le_refl _) _).alloc (by simp) _⟩
theorem same_two {w : World} {X : Nat → Prop} {m : List (Option Int)} {v : Value} (hv : Hid (RwX w X m v)) (hT : Hid (TabAt w)) (hg : 0 < w.heap.size) :
    Calls Tryd.prog 12 #[v, .agg (refL m).toArray] w fun e w' => e = .returned (.bool true) ∧ Below w.heap.size w w' := same_any m v w _ hv hT hg
end Go.Proofs.YtbgmlcakdkkfdaaDoor
