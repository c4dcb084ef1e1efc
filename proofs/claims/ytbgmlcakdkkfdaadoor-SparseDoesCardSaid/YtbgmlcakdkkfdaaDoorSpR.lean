/-
  WHAT SparseDoes CARRIES FROM ROUND TO ROUND: the two slices that keep all elder rows, beside the pair in its boxes.
-/
import Derived.Test.YtbgmlcakdkkfdaaDoorSpQ
import Derived.Great.BuildSlice
namespace Go.Proofs.YtbgmlcakdkkfdaaDoor
open Go.RowKit Go.BigFrame

theorem wp_build_one {P : Program} {o : Oper} {a : Act} {w : World} {K : Act → World → Prop} {Q : Exit → Act → World → Prop} (t e : TypeId) (x : Operand) (ho : o.op = .buildSlice t 1 #[(0, x)])
    (cs : List Value) (hx : a.eval x = .agg cs.toArray) (hu : P.underlying t = some (.slice e)) (hi : (P.info? e).map (·.size) = some cs.length) (hz : ((P.info? e).bind (·.zero)).isSome = true)
    (hpos : 0 < cs.length) (hsmall : cs.length ≤ 2 ^ 24) (h : K (a.put o.dst (.slice (some ⟨w.heap.size, 0, none⟩) 1 1)) (w.alloc (.cells cs.toArray e))) : o.wp P a w K Q := by
  cases hie : P.info? e with
  | none => simp [hie] at hi
  | some ie =>
    simp only [hie, Option.map_some, Option.some.injEq, Option.bind_some] at hi hz
    obtain ⟨z, hzz⟩ := Option.isSome_iff_exists.1 hz
    refine wp_buildSlice t e 1 _ ho cs.toArray ie z hu hie hzz (by rw [hi]; omega) (by rw [hi]; omega) ?_ h
    have := Great.fill_whole (s := ie.size) (by rw [hi]; exact hpos) [.agg cs.toArray] ((Array.range (1 * ie.size)).map (z.cells[· % z.cells.size]!)) (fun v hv => by
      simp only [List.mem_singleton] at hv
      subst hv
      simp [Value.cells, hi]) (by simp)
    simpa [hx, Value.cells] using this
theorem reads_blk {w : World} {b : Nat} {e : TypeId} {cs : List Value} (h : Blk w b e cs.toArray) : Reads w (fun k => k = b) cs.length (some ⟨b, 0, none⟩) 1 cs :=
  ⟨by simp, fun _ => ⟨⟨b, 0, none⟩, rfl, rfl, fun j u hu => by
    have := h.cell j
    rw [Addr.add_mid]
    simpa [hu] using this⟩⟩
theorem owns_built (w : World) (base : Nat) (e : TypeId) (cs : List Value) (hb : base ≤ w.heap.size) : (w.alloc (.cells cs.toArray e)).ownsRow base e cs.length (.slice (some ⟨w.heap.size, 0, none⟩) 1 1) 1 cs :=
  ⟨by simp, .inr ⟨w.heap.size, 1, cs.toArray, rfl, hb, Blk.new w e _, Nat.le_refl _, by decide, by simp, by simp⟩⟩

abbrev Hist := List (Option Int) × Option Addr × Nat
def hBox (h : Hist) : List Value := [.int .u32 (Sp.bitsL h.1), .slice h.2.1 (Sp.vals h.1).length h.2.2]
def rowsC (hs : List Hist) : List Value := hs.flatMap hBox
def wantsC (hs : List Hist) : List Value := hs.flatMap fun h => refL h.1
/-- The blocks that will be written: the two boxes, the arrays of both slices. -/
def XD (g d : Nat) (v7 v8 : Value) (k : Nat) : Prop := k = g ∨ k = d ∨ v7.ownBlock = some k ∨ v8.ownBlock = some k

/-- Behind w' all that lay in w is as it was, but for two blocks. -/
structure Turn (R R' : Option Nat) (w w' : World) : Prop where
  os : w'.os = w.os
  tape : w'.tape = w.tape
  output : w'.output = w.output
  size : w.heap.size ≤ w'.heap.size
  block : ∀ k, k < w.heap.size → some k ≠ R → some k ≠ R' → w'.heap[k]? = w.heap[k]?
theorem Turn.of_below {R R' : Option Nat} {w w' : World} (h : Below w.heap.size w w') : Turn R R' w w' := ⟨h.os, h.tape, h.output, h.size, fun k hk _ _ => h.block k hk⟩
theorem Turn.alloc {R R' : Option Nat} {w w' : World} (h : Turn R R' w w') (o : Obj) : Turn R R' w (w'.alloc o) :=
  ⟨h.os, h.tape, h.output, by have := h.size; simp; omega, fun k hk h1 h2 => (Below.heap_alloc w' o k (Nat.lt_of_lt_of_le hk h.size)).trans (h.block k hk h1 h2)⟩
theorem Turn.grown {R R' row : Option Nat} {w w' w2 : World} (h : Turn R R' w w') (hg : w'.grownBy w2 row) (hr : row = R ∨ row = R' ∨ ∃ k, row = some k ∧ w.heap.size ≤ k) : Turn R R' w w2 :=
  ⟨hg.os.trans h.os, hg.tape.trans h.tape, hg.output.trans h.output, Nat.le_trans h.size hg.size, fun k hk h1 h2 => (hg.block k (Nat.lt_of_lt_of_le hk h.size) (by
    rcases hr with rfl | rfl | ⟨j, rfl, hj⟩
    · exact h1
    · exact h2
    · intro e; injection e with e; omega)).trans (h.block k hk h1 h2)⟩
/-- It is a 'Below', seen from a world ahead of both blocks. -/
theorem Turn.below {R R' : Option Nat} {w0 w w' : World} (h : Turn R R' w w') (hb : Below w0.heap.size w0 w) (h1 : ∀ k, R = some k → w0.heap.size ≤ k) (h2 : ∀ k, R' = some k → w0.heap.size ≤ k) : Below w0.heap.size w0 w' :=
  ⟨h.os.trans hb.os, h.tape.trans hb.tape, h.output.trans hb.output, Nat.le_trans hb.size h.size, fun k hk => (h.block k (Nat.lt_of_lt_of_le hk hb.size) (fun e => by have := h1 k e.symm; omega) (fun e => by have := h2 k e.symm; omega)).trans (hb.block k hk)⟩

theorem ownsRow_keep {w w' : World} {base e size n : Nat} {v : Value} {xs : List Value} (h : w.ownsRow base e size v n xs) (hk : ∀ k, v.ownBlock = some k → w'.heap[k]? = w.heap[k]?) : w'.ownsRow base e size v n xs := by
  refine ⟨h.1, ?_⟩
  rcases h.2 with hn | ⟨g, cap, cur, rfl, hbg, hgg, rest⟩
  · exact .inl hn
  · exact .inr ⟨g, cap, cur, rfl, hbg, (hk g rfl).trans hgg, rest⟩
theorem ownsRow_in {w : World} {base e size n : Nat} {v : Value} {xs : List Value} (h : w.ownsRow base e size v n xs) {k : Nat} (hk : v.ownBlock = some k) : base ≤ k ∧ k < w.heap.size := by
  rcases h.2 with ⟨rfl, _⟩ | ⟨g, cap, cur, rfl, hbg, hgg, _⟩
  · simp [Value.ownBlock] at hk
  · simp [Value.ownBlock] at hk
    subst hk
    exact ⟨hbg, (Array.getElem?_eq_some_iff.1 hgg).1⟩

def HistIn (w : World) (X : Nat → Prop) (hs : List Hist) : Prop := ∀ h ∈ hs, h.1.length = 32 ∧ RwX w X h.1 (.agg (hBox h).toArray)
def DoesInv (w : World) (g d : Nat) (v7 v8 : Value) (hs : List Hist) (m : List (Option Int)) (wr : World) : Prop :=
  PairInv w (XD g d v7 v8) g d m wr ∧ wr.ownsRow w.heap.size 26 2 v7 hs.length (rowsC hs) ∧ wr.ownsRow w.heap.size 33 64 v8 hs.length (wantsC hs) ∧
  (v7.ownBlock ≠ some g ∧ v7.ownBlock ≠ some d ∧ v8.ownBlock ≠ some g ∧ v8.ownBlock ≠ some d) ∧ (∀ k, v7.ownBlock = some k → v8.ownBlock ≠ some k) ∧ HistIn wr (XD g d v7 v8) hs

theorem RwX.turn {w w' : World} {X X' : Nat → Prop} {m : List (Option Int)} {v : Value} (h : RwX w X m v) (hk : ∀ k, k < w.heap.size → ¬ X k → w'.heap[k]? = w.heap[k]?) (hs : w.heap.size ≤ w'.heap.size)
    (hX : ∀ k, k < w.heap.size → ¬ X k → ¬ X' k) : RwX w' X' m v :=
  (RowIn.keep (show RowIn _ _ _ _ from h) (fun k hh => hk k hh.1 hh.2) hs).more (fun k hh => ⟨Nat.lt_of_lt_of_le hh.1 hs, hX k hh.1 hh.2⟩) (fun _ hh => hh.1)

theorem DoesInv.below {w wr wr' : World} {g d : Nat} {v7 v8 : Value} {hs : List Hist} {m : List (Option Int)} (h : DoesInv w g d v7 v8 hs m wr) (hb : Below wr.heap.size wr wr') : DoesInv w g d v7 v8 hs m wr' := by
  obtain ⟨h1, h2, h3, h4, h5, h6⟩ := h
  exact ⟨h1.below hb, ownsRow_below h2 hb, ownsRow_below h3 hb, h4, h5, fun h hh => ⟨(h6 h hh).1, RwX.up (h6 h hh).2 hb⟩⟩

/-- Both boxes are stored: the pair turns, all else stays. -/
theorem DoesInv.stored {w w9 w3 : World} {g d : Nat} {v7 v8 : Value} {hs : List Hist} {m m1 : List (Option Int)} {A : Option Addr} {c : Nat} (h : DoesInv w g d v7 v8 hs m w9) (hm1 : m1.length = 32)
    (hv : Hid (RwX w9 (XD g d v7 v8) m1 (.agg #[.int .u32 (Sp.bitsL m1), .slice A (Sp.vals m1).length c])))
    (hr : Hid (w3.heap[d]? = some (.cells (refL m1).toArray 33 (0, 0))))
    (ho : ∀ k, k ≠ d → w3.heap[k]? = ((w9.setCell ⟨g, 0, none⟩ (.int .u32 (Sp.bitsL m1))).setCell ⟨g, 1, none⟩ (.slice A (Sp.vals m1).length c)).heap[k]?)
    (hB : ∀ B w0, Below B w0 ((w9.setCell ⟨g, 0, none⟩ (.int .u32 (Sp.bitsL m1))).setCell ⟨g, 1, none⟩ (.slice A (Sp.vals m1).length c)) → B ≤ d → Below B w0 w3) : DoesInv w g d v7 v8 hs m1 w3 := by
  obtain ⟨h1, h2, h3, h4, h5, h6⟩ := h
  have hs' : w9.heap.size ≤ w3.heap.size := by
    have := hB 0 _ (Below.refl _ _) (Nat.zero_le _)
    simpa [World.setCell] using this.size
  have key : ∀ k, k ≠ g → k ≠ d → w3.heap[k]? = w9.heap[k]? := fun k e1 e2 => by
    rw [ho k e2, Below.heap_setCell _ _ _ _ e1, Below.heap_setCell _ _ _ _ e1]
  refine ⟨h1.stored hm1 hv hr ho hB, ownsRow_keep h2 (fun k hk => key k ?_ ?_), ownsRow_keep h3 (fun k hk => key k ?_ ?_), h4, h5, fun h hh => ⟨(h6 h hh).1, (h6 h hh).2.turn (fun k hk hx => key k ?_ ?_) hs' (fun _ _ hx => hx)⟩⟩
  · rintro rfl; exact h4.1 hk
  · rintro rfl; exact h4.2.1 hk
  · rintro rfl; exact h4.2.2.1 hk
  · rintro rfl; exact h4.2.2.2 hk
  · rintro rfl; exact hx (.inl rfl)
  · rintro rfl; exact hx (.inr (.inl rfl))

theorem get_rwx {w : World} {X : Nat → Prop} {m : List (Option Int)} {v : Value} {i : Int} (hv : Hid (RwX w X m v)) :
    Calls Tryd.prog 15 #[v, .int .i64 i] w fun e w' => e = .returned (.tuple #[.int .i64 ((Sp.getM m i).getD 0), .bool (Sp.getM m i).isSome]) ∧ Below w.heap.size w w' := get_any m i v w _ hv
/-- What neither append touches. -/
theorem DoesInv.held {w wr w' : World} {g d : Nat} {v7 v8 : Value} {hs : List Hist} {m : List (Option Int)} {A : Option Addr} {c : Nat} (h : DoesInv w g d v7 v8 hs m wr) (ht : Hid (Turn v7.ownBlock v8.ownBlock wr w'))
    (g0 : wr.cell? ⟨g, 0, none⟩ = some (.int .u32 (Sp.bitsL m))) (g1 : wr.cell? ⟨g, 1, none⟩ = some (.slice A (Sp.vals m).length c)) (g2 : bcells wr.heap d = (refL m).toArray) (g3 : Whole 64 wr.heap d) :
    bcells w'.heap d = (refL m).toArray ∧ Whole 64 w'.heap d ∧ w'.cell? ⟨g, 0, none⟩ = some (.int .u32 (Sp.bitsL m)) ∧ w'.cell? ⟨g, 1, none⟩ = some (.slice A (Sp.vals m).length c) := by
  obtain ⟨h1, h2, h3, h4, h5, h6⟩ := h
  have kg : w'.heap[g]? = wr.heap[g]? := ht.out.block g (h1.2.2 g (.inl rfl)).2 (fun e => h4.1 e.symm) (fun e => h4.2.2.1 e.symm)
  have kd : w'.heap[d]? = wr.heap[d]? := ht.out.block d (h1.2.2 d (.inr (.inl rfl))).2 (fun e => h4.2.1 e.symm) (fun e => h4.2.2.2 e.symm)
  exact ⟨(bcells_eq kd).trans g2, whole_eq kd g3, (World.cell?_of_block (w := wr) kg).trans g0, (World.cell?_of_block (w := wr) kg).trans g1⟩
theorem ownsRow_turn {w w' : World} {R R' : Option Nat} {base e size n : Nat} {v : Value} {xs : List Value} (h : w.ownsRow base e size v n xs) (ht : Turn R R' w w') (h1 : ∀ k, v.ownBlock = some k → R ≠ some k) (h2 : ∀ k, v.ownBlock = some k → R' ≠ some k) : w'.ownsRow base e size v n xs :=
  ownsRow_keep h fun k hk => ht.block k (ownsRow_in h hk).2 (fun e => h1 k hk e.symm) (fun e => h2 k hk e.symm)
theorem Turn.of_grown {w w' : World} {R R' : Option Nat} (hg : w.grownBy w' R) : Turn R R' w w' := ⟨hg.os, hg.tape, hg.output, hg.size, fun k hk h1 _ => hg.block k hk h1⟩
theorem rowsC_snoc (hs : List Hist) (h : Hist) : rowsC (hs ++ [h]) = rowsC hs ++ hBox h := by simp [rowsC]
theorem wantsC_snoc (hs : List Hist) (h : Hist) : wantsC (hs ++ [h]) = wantsC hs ++ refL h.1 := by simp [wantsC]

/-- Both slices have one element more. -/
theorem DoesInv.appended {w wr w3 : World} {g d : Nat} {v7 v8 v7' v8' : Value} {hs : List Hist} {m : List (Option Int)} {A : Option Addr} {c : Nat} (h : DoesInv w g d v7 v8 hs m wr)
    (hA : Hid (RwX wr (XD g d v7 v8) m (.agg #[.int .u32 (Sp.bitsL m), .slice A (Sp.vals m).length c])))
    (ht : Turn v7.ownBlock v8.ownBlock wr w3) (h7 : w3.ownsRow w.heap.size 26 2 v7' (hs.length + 1) (rowsC hs ++ hBox (m, A, c))) (h8 : w3.ownsRow w.heap.size 33 64 v8' (hs.length + 1) (wantsC hs ++ refL m))
    (n7 : v7'.ownBlock = v7.ownBlock ∨ ∃ k, v7'.ownBlock = some k ∧ wr.heap.size ≤ k) (n8 : v8'.ownBlock = v8.ownBlock ∨ ∃ k, v8'.ownBlock = some k ∧ wr.heap.size ≤ k) (hne : ∀ k, v7'.ownBlock = some k → v8'.ownBlock ≠ some k) :
    DoesInv w g d v7' v8' (hs ++ [(m, A, c)]) m w3 := by
  obtain ⟨h1, h2, h3, h4, h5, h6⟩ := h
  have hgX := (h1.2.2 g (.inl rfl))
  have hdX := (h1.2.2 d (.inr (.inl rfl)))
  have key : ∀ k, k < wr.heap.size → ¬ XD g d v7 v8 k → w3.heap[k]? = wr.heap[k]? := fun k hk hx => ht.block k hk (fun e => hx (.inr (.inr (.inl e.symm)))) (fun e => hx (.inr (.inr (.inr e.symm))))
  have hX : ∀ k, k < wr.heap.size → ¬ XD g d v7 v8 k → ¬ XD g d v7' v8' k := fun k hk hx hx' => by
    rcases hx' with h | h | h | h
    · exact hx (.inl h)
    · exact hx (.inr (.inl h))
    · rcases n7 with n | ⟨j, n, hj⟩
      · exact hx (.inr (.inr (.inl (n ▸ h))))
      · rw [n] at h; injection h with h; omega
    · rcases n8 with n | ⟨j, n, hj⟩
      · exact hx (.inr (.inr (.inr (n ▸ h))))
      · rw [n] at h; injection h with h; omega
  have kg : w3.heap[g]? = wr.heap[g]? := ht.block g hgX.2 (fun e => h4.1 e.symm) (fun e => h4.2.2.1 e.symm)
  have kd : w3.heap[d]? = wr.heap[d]? := ht.block d hdX.2 (fun e => h4.2.1 e.symm) (fun e => h4.2.2.2 e.symm)
  have hbelow : Below w.heap.size w w3 := ht.below h1.2.1 (fun k hk => (ownsRow_in h2 hk).1) (fun k hk => (ownsRow_in h3 hk).1)
  have hne' : ∀ (v v' : Value) (j : Nat), j < wr.heap.size → v.ownBlock ≠ some j → (v'.ownBlock = v.ownBlock ∨ ∃ k, v'.ownBlock = some k ∧ wr.heap.size ≤ k) → v'.ownBlock ≠ some j := fun v v' j hj h n e => by
    rcases n with n | ⟨k, n, hk⟩
    · exact h (n ▸ e)
    · rw [n] at e; injection e with e; omega
  refine ⟨⟨?_, hbelow, ?_⟩, by simpa [rowsC_snoc] using h7, by simpa [wantsC_snoc] using h8, ⟨hne' v7 v7' g hgX.2 h4.1 n7, hne' v7 v7' d hdX.2 h4.2.1 n7, hne' v8 v8' g hgX.2 h4.2.2.1 n8, hne' v8 v8' d hdX.2 h4.2.2.2 n8⟩, hne, ?_⟩
  · obtain ⟨hm, hg, hd, hgd, k1, A0, c0, k2, k3⟩ := h1.1
    exact ⟨hm, .inl rfl, .inr (.inl rfl), hgd, kd.trans k1, A0, c0, kg.trans k2, RwX.turn k3 key ht.size hX⟩
  · intro k hk
    rcases hk with rfl | rfl | hk | hk
    · exact ⟨hgX.1, Nat.lt_of_lt_of_le hgX.2 ht.size⟩
    · exact ⟨hdX.1, Nat.lt_of_lt_of_le hdX.2 ht.size⟩
    · exact ownsRow_in h7 hk
    · exact ownsRow_in h8 hk
  · intro h hh
    rw [List.mem_append, List.mem_singleton] at hh
    rcases hh with hh | rfl
    · exact ⟨(h6 h hh).1, (h6 h hh).2.turn key ht.size hX⟩
    · exact ⟨h1.1.1, RwX.turn hA.out key ht.size hX⟩
theorem flat_at {α : Type} (f : α → List Value) (s : Nat) : ∀ (hs : List α), (∀ h ∈ hs, (f h).length = s) → ∀ (k : Nat) (h : α), hs[k]? = some h → ∀ j, j < s → (hs.flatMap f)[k * s + j]? = (f h)[j]?
  | [], _, k, h, hk, _, _ => by simp at hk
  | x :: hs, hl, 0, h, hk, j, hj => by
    simp only [List.getElem?_cons_zero, Option.some.injEq] at hk
    subst hk
    have := hl x (by simp)
    rw [List.flatMap_cons, Nat.zero_mul, Nat.zero_add, List.getElem?_append_left (by omega)]
  | x :: hs, hl, k + 1, h, hk, j, hj => by
    have h1 := hl x (by simp)
    rw [List.flatMap_cons, Nat.succ_mul, List.getElem?_append_right (by omega), h1, show k * s + s + j - s = k * s + j by omega]
    exact flat_at f s hs (fun y hy => hl y (by simp [hy])) k h (by simpa using hk) j hj
theorem ownsRow_cells {w : World} {base e size n c : Nat} {A : Option Addr} {xs : List Value} (h : w.ownsRow base e size (.slice A n c) n xs) (hn : 0 < n) :
    ∃ g, A = some ⟨g, 0, none⟩ ∧ ∀ j v, xs[j]? = some v → w.cell? ⟨g, j, none⟩ = some v := by
  obtain ⟨hl, h | ⟨g, cap, cur, hv, hb, hh, hc, hm, hs, ht⟩⟩ := h
  · omega
  · injection hv with h1 h2 h3
    refine ⟨g, h1, fun j v hj => ?_⟩
    rw [cell_of_row w g j cur e (0, 0) hh, ← Array.getElem?_toList]
    rw [← ht, List.getElem?_take] at hj
    split at hj
    · exact hj
    · cases hj
/-- The k-th row and the k-th of the document's, as they lie. -/
theorem DoesInv.at_ {w wr : World} {g d : Nat} {A7 A8 : Option Addr} {c7 c8 : Nat} {hs : List Hist} {m : List (Option Int)} (h : DoesInv w g d (.slice A7 hs.length c7) (.slice A8 hs.length c8) hs m wr) (k : Nat) (x : Hist) (hk : hs[k]? = some x) :
    ∃ a b, A7 = some ⟨a, 0, none⟩ ∧ A8 = some ⟨b, 0, none⟩ ∧ wr.cell? ⟨a, k * 2, none⟩ = some (.int .u32 (Sp.bitsL x.1)) ∧ wr.cell? ⟨a, k * 2 + 1, none⟩ = some (.slice x.2.1 (Sp.vals x.1).length x.2.2) ∧ wr.rangeAt b (k * 64) (refL x.1) ∧
      x.1.length = 32 ∧ Hid (RwX wr (XD g d (.slice A7 hs.length c7) (.slice A8 hs.length c8)) x.1 (.agg #[.int .u32 (Sp.bitsL x.1), .slice x.2.1 (Sp.vals x.1).length x.2.2])) := by
  obtain ⟨h1, h2, h3, h4, h5, h6⟩ := h
  have hlt := (List.getElem?_eq_some_iff.1 hk).1
  obtain ⟨a, ha, hca⟩ := ownsRow_cells h2 (by omega)
  obtain ⟨b, hb, hcb⟩ := ownsRow_cells h3 (by omega)
  have hx := h6 x (List.mem_of_getElem? hk)
  refine ⟨a, b, ha, hb, hca _ _ ?_, hca _ _ ?_, fun j v hj => hcb _ _ ?_, hx.1, hx.2⟩
  · have := flat_at hBox 2 hs (fun _ _ => rfl) k x hk 0 (by omega)
    simpa [hBox, rowsC] using this
  · have := flat_at hBox 2 hs (fun _ _ => rfl) k x hk 1 (by omega)
    simpa [hBox, rowsC] using this
  · have hl : (refL x.1).length = 64 := by simp [refL_len, hx.1]
    have hj' := (List.getElem?_eq_some_iff.1 hj).1
    exact (flat_at (fun h : Hist => refL h.1) 64 hs (fun y hy => by simp [refL_len, (h6 y hy).1]) k x hk j (by omega)).trans hj
end Go.Proofs.YtbgmlcakdkkfdaaDoor
