/-
  WHAT THE LAWS OVER LISTS OF OPERATIONS SHARE: the list as it lies in memory; what a list of operations makes of a row; rows as values that later worlds keep.
-/
import Derived.Test.YtbgmlcakdkkfdaaDoorSpJ
import Derived.Test.YtbgmlcakdkkfdaaDoorLaws2
namespace Go.Proofs.YtbgmlcakdkkfdaaDoor
open Go.RowKit Go.BigFrame

def TrueOut (w : World) (e : Ending) (w' : World) : Prop := e = .returned (.bool true) ∧ Below w.heap.size w w'

/-! ### The plain law -/
def runM (m : List (Option Int)) (l : List SOp) : List (Option Int) := l.foldl doM m
theorem runM_len {m : List (Option Int)} (h : m.length = 32) : ∀ l : List SOp, (runM m l).length = 32 := fun l => by
  induction l generalizing m with
  | nil => exact h
  | cons o l ih => exact ih (doM_len h)
theorem runM_succ (m : List (Option Int)) (l : List SOp) (k : Nat) (o : SOp) (h : l[k]? = some o) : runM m (l.take (k + 1)) = doM (runM m (l.take k)) o := by
  have hk := (List.getElem?_eq_some_iff.1 h).1
  have : l.take (k + 1) = l.take k ++ [o] := by
    rw [List.take_add_one, h]; rfl
  rw [this, runM, List.foldl_append]; rfl
theorem getM_at (m : List (Option Int)) (j : Nat) (hm : m.length = 32) : Sp.at_ m j = Sp.getM m (j : Int) := by
  unfold Sp.getM
  split
  · simp
  · exact Sp.at_none m j (by omega)
theorem getM_doM (m : List (Option Int)) (o : SOp) (i : Int) (hm : m.length = 32) :
    Sp.getM (doM m o) i = if i = o.I ∧ 0 ≤ i ∧ i < 32 then (if o.Cut then none else some o.X) else Sp.getM m i := by
  obtain ⟨I, X, c⟩ := o
  unfold doM Sp.getM Sp.cutM Sp.setM Sp.at_
  simp only
  by_cases hi : 0 ≤ i ∧ i < 32
  · by_cases hI : 0 ≤ I ∧ I < 32
    · by_cases he : i = I
      · subst he
        have : i.toNat < m.length := by omega
        cases c <;> simp [hi, this]
      · have : I.toNat ≠ i.toNat := by omega
        cases c <;> simp [hi, hI, he, this]
    · have : i ≠ I := by rintro rfl; exact hI hi
      cases c <;> simp [hi, hI, this]
  · cases c <;> simp [hi]
theorem ext_get {m m' : List (Option Int)} (hm : m.length = 32) (hm' : m'.length = 32) (h : ∀ i : Int, Sp.getM m i = Sp.getM m' i) : m = m' :=
  Sp.ext_at m m' (by rw [hm, hm']) fun j => by rw [getM_at m j hm, getM_at m' j hm', h]
theorem doM_comm (m : List (Option Int)) (a b : SOp) (hm : m.length = 32) (hab : a.I ≠ b.I) : doM (doM m a) b = doM (doM m b) a :=
  ext_get (doM_len (doM_len hm)) (doM_len (doM_len hm)) fun i => by
    rw [getM_doM _ b i (doM_len hm), getM_doM m a i hm, getM_doM _ a i (doM_len hm), getM_doM m b i hm]
    by_cases h1 : i = a.I
    · have h2 : i ≠ b.I := by rintro rfl; exact hab h1.symm
      simp [h2]
    · simp [h1]
theorem doM_same (m : List (Option Int)) (a : SOp) (hm : m.length = 32) : doM (doM m a) a = doM m a :=
  ext_get (doM_len (doM_len hm)) (doM_len hm) fun i => by
    rw [getM_doM _ a i (doM_len hm), getM_doM m a i hm]
    split <;> rfl
theorem cutM_doM (m : List (Option Int)) (i : Int) : Sp.cutM m i = doM m ⟨i, 0, true⟩ := rfl
theorem cut_back (m : List (Option Int)) (a : SOp) (hm : m.length = 32) : decide (Sp.cutM (doM m a) a.I = m) = !(Sp.getM m a.I).isSome := by
  have key : ∀ i, Sp.getM (Sp.cutM (doM m a) a.I) i = if i = a.I then none else Sp.getM m i := fun i => by
    rw [cutM_doM, getM_doM _ _ i (doM_len hm), getM_doM m a i hm]
    by_cases h1 : i = a.I
    · by_cases h2 : 0 ≤ i ∧ i < 32
      · simp [h1, h1 ▸ h2]
      · simp only [h1, Sp.getM]
        rw [h1] at h2
        simp [h2]
    · simp [h1]
  cases h : Sp.getM m a.I with
  | none =>
    simp only [Option.isSome_none, Bool.not_false, decide_eq_true_eq]
    exact ext_get (cutM_len (doM_len hm)) hm fun i => by
      rw [key]
      split
      · rename_i he; rw [he, h]
      · rfl
  | some x =>
    simp only [Option.isSome_some, Bool.not_true, decide_eq_false_iff_not]
    intro he
    have := key a.I
    rw [he, h] at this
    simp at this

/-! ### The list of operations in memory -/
def OpsIn (B : Nat) (w : World) (A : Option Addr) (l : List SOp) : Prop :=
  0 < l.length → ∃ ad, A = some ad ∧ ad.block < B ∧ ∀ k o, l[k]? = some o → w.cell? (ad.add (k * 3)) = some (.int .i64 o.I) ∧ w.cell? ⟨(ad.add (k * 3)).block, (ad.add (k * 3)).off + 1, none⟩ = some (.int .i64 o.X) ∧ w.cell? ⟨(ad.add (k * 3)).block, (ad.add (k * 3)).off + 2, none⟩ = some (.bool o.Cut)
theorem OpsIn.below {B : Nat} {w w' : World} {A : Option Addr} {l : List SOp} (h : OpsIn B w A l) (hb : Below B w w') : OpsIn B w' A l := fun hl => by
  obtain ⟨ad, e, hB, hc⟩ := h hl
  refine ⟨ad, e, hB, fun k o hk => ?_⟩
  obtain ⟨h1, h2, h3⟩ := hc k o hk
  exact ⟨(hb.cell (by show (ad.add (k * 3)).block < B; rw [block_of_add]; exact hB)).trans h1, (hb.cell (by show (ad.add (k * 3)).block < B; rw [block_of_add]; exact hB)).trans h2, (hb.cell (by show (ad.add (k * 3)).block < B; rw [block_of_add]; exact hB)).trans h3⟩

/-! ### Rows as values that later worlds keep -/
def Rw (w : World) (m : List (Option Int)) (v : Value) : Prop := ∃ S, RowIn w S m v
theorem Rw.up {w w' : World} {m : List (Option Int)} {v : Value} (h : Hid (Rw w m v)) (hb : Below w.heap.size w w') : Hid (Rw w' m v) := by
  obtain ⟨S, h⟩ := h
  exact ⟨S, h.below hb⟩
theorem Rw.len {w : World} {m : List (Option Int)} {v : Value} (h : Hid (Rw w m v)) : m.length = 32 := by
  obtain ⟨S, h⟩ := h
  exact h.1
def RwOut (w : World) (m : List (Option Int)) (e : Ending) (w' : World) : Prop := ∃ v, e = .returned v ∧ Hid (Rw w' m v) ∧ Below w.heap.size w w'
theorem RowOut.rw {w : World} {S : Nat → Prop} {m : List (Option Int)} {e : Ending} {w' : World} (h : RowOut w S m e w') : RwOut w m e w' := by
  obtain ⟨v, rfl, hv, hb⟩ := h
  exact ⟨v, rfl, ⟨_, hv⟩, hb⟩
theorem does_rw {m : List (Option Int)} {v : Value} {o : SOp} {w : World} (hv : Hid (Rw w m v)) :
    Calls Tryd.prog 13 #[v, .agg #[.int .i64 o.I, .int .i64 o.X, .bool o.Cut]] w (RwOut w (doM m o)) := by
  obtain ⟨S, hv⟩ := hv
  exact (does_any m v o w S hv).mono fun _ _ h => h.rw
theorem cut_rw {m : List (Option Int)} {v : Value} {i : Int} {w : World} (hv : Hid (Rw w m v)) :
    Calls Tryd.prog 18 #[v, .int .i64 i] w (RwOut w (Sp.cutM m i)) := by
  obtain ⟨S, hv⟩ := hv
  exact (cut_any m i v w S hv).mono fun _ _ h => h.rw
theorem alike_rw {m m' : List (Option Int)} {v v' : Value} {w : World} (hv : Hid (Rw w m v)) (hv' : Hid (Rw w m' v')) :
    Calls Tryd.prog 17 #[v, v'] w fun e w' => e = .returned (.bool (decide (m = m'))) ∧ Below w.heap.size w w' := by
  obtain ⟨S, hv⟩ := hv
  obtain ⟨S', hv'⟩ := hv'
  exact alike_any m m' v v' w S S' hv hv'
theorem get_rw {m : List (Option Int)} {v : Value} {i : Int} {w : World} (hv : Hid (Rw w m v)) :
    Calls Tryd.prog 15 #[v, .int .i64 i] w fun e w' => e = .returned (.tuple #[.int .i64 ((Sp.getM m i).getD 0), .bool (Sp.getM m i).isSome]) ∧ Below w.heap.size w w' := by
  obtain ⟨S, hv⟩ := hv
  exact get_any m i v w S hv
theorem row_zero_rw (w : World) : Hid (Rw w m0 (.agg #[.int .u32 0, .slice none 0 0])) := ⟨_, row_zero w⟩

/-- A row in a box of its own (block g), its things in blocks behind g. -/
def Box (w : World) (g : Nat) (m : List (Option Int)) : Prop :=
  ∃ (A : Option Addr) (c : Nat), Blk w g 26 #[.int .u32 (Sp.bitsL m), .slice A (Sp.vals m).length c] ∧ RowIn w (fun k => g < k ∧ k < w.heap.size) m (.agg #[.int .u32 (Sp.bitsL m), .slice A (Sp.vals m).length c])
theorem Box.new (w : World) : Box (w.alloc (.cells #[.int .u32 0, .slice none 0 0] 26)) w.heap.size m0 := by
  have e1 : Sp.bitsL m0 = 0 := by decide
  have e2 : (Sp.vals m0).length = 0 := by decide
  refine ⟨none, 0, by rw [e1, e2]; exact Blk.new w _ _, ?_⟩
  have h := row_zero (w.alloc (.cells #[.int .u32 0, .slice none 0 0] 26))
  rw [e1, e2]
  exact h.more (fun _ h => h.elim) (fun _ h => h.2)
theorem Box.below {w w' : World} {g : Nat} {m : List (Option Int)} (h : Box w g m) (hb : Below w.heap.size w w') : Box w' g m := by
  obtain ⟨A, c, h1, h2⟩ := h
  exact ⟨A, c, h1.below hb h1.lt, (h2.below hb).more (fun k hk => ⟨hk.1, Nat.lt_of_lt_of_le hk.2 hb.size⟩) (fun k hk => hk.2)⟩
theorem Box.rw {w : World} {g : Nat} {m : List (Option Int)} (h : Box w g m) : ∃ A c, Hid (Rw w m (.agg #[.int .u32 (Sp.bitsL m), .slice A (Sp.vals m).length c])) ∧ w.cell? ⟨g, 0, none⟩ = some (.int .u32 (Sp.bitsL m)) ∧ w.cell? ⟨g, 1, none⟩ = some (.slice A (Sp.vals m).length c) := by
  obtain ⟨A, c, h1, h2⟩ := h
  exact ⟨A, c, ⟨_, h2⟩, h1.cell 0, h1.cell 1⟩
/-- What an operation makes of the row in the box, stored back into the box. -/
theorem Box.does {w w1 : World} {g : Nat} {m m1 : List (Option Int)} {S : Nat → Prop} {A : Option Addr} {c : Nat} (h : Box w g m) (hb : Below w.heap.size w w1) (hS : ∀ k, S k → g < k ∧ k < w1.heap.size)
    (hv : RowIn w1 S m1 (.agg #[.int .u32 (Sp.bitsL m1), .slice A (Sp.vals m1).length c])) :
    Box ((w1.setCell ⟨g, 0, none⟩ (.int .u32 (Sp.bitsL m1))).setCell ⟨g, 1, none⟩ (.slice A (Sp.vals m1).length c)) g m1 := by
  obtain ⟨A0, c0, h1, h2⟩ := h
  have hg : ¬ S g := fun hk => by have := (hS g hk).1; omega
  refine ⟨A, c, ?_, ?_⟩
  · have := ((h1.below hb h1.lt).set_ 0 (.int .u32 (Sp.bitsL m1))).set_ 1 (.slice A (Sp.vals m1).length c)
    simpa using this
  · exact ((hv.setCell (p := ⟨g, 0, none⟩) hg _).setCell (p := ⟨g, 1, none⟩) hg _).more (fun k hk => ⟨(hS k hk).1, by simpa [World.setCell] using (hS k hk).2⟩) (fun k hk => hk.2)
end Go.Proofs.YtbgmlcakdkkfdaaDoor
