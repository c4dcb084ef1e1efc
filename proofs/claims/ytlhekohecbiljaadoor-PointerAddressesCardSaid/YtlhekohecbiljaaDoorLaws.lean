/-
  LAWS for slices whose elements take any number of cells: copy into a row that is known whole; a row that was made.
-/
import Derived.Test.YtlhekohecbiljaaDoorWords
import Derived.Laws.CopyOwn
import Derived.WalkKit
import Derived.Laws.ResultCell
namespace Go.Proofs.YtlhekohecbiljaaDoor
open Go.RowKit

theorem Reads.take_ {w : World} {B : Nat → Prop} {size n k : Nat} {A : Option Addr} {xs : List Value} (h : Reads w B size A n xs) (hk : k ≤ n) : Reads w B size A k (xs.take (k * size)) := by
  refine ⟨by rw [List.length_take, h.1]; exact Nat.min_eq_left (Nat.mul_le_mul_right _ hk), fun h0 => ?_⟩
  obtain ⟨ad, e, hb, hc⟩ := h.2 (by omega)
  refine ⟨ad, e, hb, fun j u hu => hc j u ?_⟩
  rw [List.getElem?_take] at hu
  split at hu
  · exact hu
  · cases hu
theorem ownsRow_whole {w : World} {base e size g n : Nat} {xs : List Value} (h : w.ownsRow base e size (.slice (some ⟨g, 0, none⟩) n n) n xs) : w.heap[g]? = some (.cells xs.toArray e (0, 0)) ∧ base ≤ g := by
  obtain ⟨hl, h | ⟨g', cap, cur, hv, hb, hh, hn, hc, hs, ht⟩⟩ := h
  · cases h.1
  · injection hv with h1 h2 h3
    subst h3
    injection h1 with h1
    injection h1 with h1
    subst h1
    refine ⟨?_, hb⟩
    rw [hh, ← ht, List.take_of_length_le (by simp [hs])]

theorem run_copy_cells {P : Program} (w : World) (dT sT ty elem : TypeId) (i : TypeInfo) (sz : Nat) (hu : P.underlying dT = some (.slice elem)) (hi : P.info? elem = some i) (hsz : i.size = sz)
    (dp sp : Option Addr) (dLen dCap sLen sCap n : Nat) (hn : n = Nat.min sLen dLen) (g off : Nat) (cur : List Value) (t : TypeId) (hg : w.heap[g]? = some (.cells cur.toArray t (0, 0))) (cs : List Value)
    (hcs : cs.length = n * sz) (hpos : 0 < cs.length → dp = some ⟨g, off, none⟩ ∧ ∃ ad, sp = some ad ∧ ∀ j v, cs[j]? = some v → w.cell? (ad.add j) = some v)
    (hfit : off + cs.length ≤ cur.length) (h1 : ∀ v ∈ cs, v.oneCell' = true) :
    (Builtin.copy_ #[dT, sT] ty #[.slice dp dLen dCap, .slice sp sLen sCap]).run P w = .ok (goInt n) (w.setRow g (splice cur off cs).toArray) := by
  subst hsz
  have hs : P.info? elem = some i := hi
  rcases Nat.eq_zero_or_pos cs.length with h0 | h0
  · obtain rfl : cs = [] := List.eq_nil_of_length_eq_zero h0
    have hw : w.setRow g (splice cur off []).toArray = w := by
      have : splice cur off ([] : List Value) = cur := by simp [splice]
      rw [this]
      exact setRow_self w g _ t (0, 0) hg
    have hz : n * i.size = 0 := by simpa using hcs.symm
    rw [hw]
    have hfc : (Builtin.firstCells i.size n (.slice sp sLen sCap)).run P w = .ok #[] w := by
      cases sp with
      | none => simp [Builtin.firstCells]
      | some a =>
        simp only [Builtin.firstCells, hz]
        have := run_loadCells_list (P := P) w a [] (by intro j v h; simp at h)
        simpa using this
    cases dp with
    | none => simp [Builtin.copy_, run_underlying hu, Builtin.lenOf, sizeOf, typeInfo, hs, ← hn, hfc]
    | some a => simp [Builtin.copy_, run_underlying hu, Builtin.lenOf, sizeOf, typeInfo, hs, ← hn, hfc, storeCells]
  · obtain ⟨rfl, ad, rfl, hsrc⟩ := hpos h0
    have hl := run_loadCells_list (P := P) w ad cs hsrc
    have hst := run_storeCells_at P g off t cs 0 cur.toArray w hg (by simpa using hfit) h1
    simp only [Nat.add_zero] at hst
    rw [hcs] at hl
    simp [Builtin.copy_, run_underlying hu, Builtin.lenOf, Builtin.firstCells, sizeOf, typeInfo, hs, ← hn, hl, hst, splice, hcs]

theorem wp_copy_cells {P : Program} {o : Oper} {a : Act} {w : World} {K : Act → World → Prop} {Q : Exit → Act → World → Prop} (d s : Operand) (dT sT : TypeId)
    (ho : o.op = .call { callee := .builtin .copy, args := #[d, s], argTypes := #[dT, sT] }) (elem : TypeId) (i : TypeInfo) (sz : Nat) (hu : P.underlying dT = some (.slice elem)) (hi : P.info? elem = some i) (hsz : i.size = sz)
    (dp sp : Option Addr) (dLen dCap sLen sCap n : Nat) (hd : a.eval d = .slice dp dLen dCap) (hs : a.eval s = .slice sp sLen sCap) (hn : n = Nat.min sLen dLen)
    (g off : Nat) (cur : List Value) (t : TypeId) (hg : w.heap[g]? = some (.cells cur.toArray t (0, 0))) (cs : List Value) (Bs : Nat → Prop)
    (hr : Reads w Bs sz sp n cs) (hdp : 0 < n → dp = some ⟨g, off, none⟩)
    (hfit : off + cs.length ≤ cur.length) (h1 : ∀ v ∈ cs, v.oneCell' = true) (B : Nat) (w0 : World) (hb : Below B w0 w) (hBg : B ≤ g)
    (h : ∀ w', Hid (w'.heap[g]? = some (.cells (splice cur off cs).toArray t (0, 0))) → (∀ k, k ≠ g → w'.heap[k]? = w.heap[k]?) → Below B w0 w' → K (a.put o.dst (goInt n)) w') : o.wp P a w K Q := by
  have hrun := run_copy_cells (P := P) w dT sT o.type elem i sz hu hi hsz dp sp dLen dCap sLen sCap n hn g off cur t hg cs hr.1 (fun h0 => by
    have hn0 : 0 < n := by
      rcases Nat.eq_zero_or_pos n with h | h
      · have h2 := hr.1; rw [h] at h2; simp at h2; rw [h2] at h0; simp at h0
      · exact h
    obtain ⟨ad, e, _, hc⟩ := hr.2 hn0
    exact ⟨hdp hn0, ad, e, hc⟩) hfit h1
  unfold Oper.wp execOp
  simp only [ho, resolve, invoke, builtin, Sem.run_bind, Sem.run_pure, Result.andThen_ok, List.map_toArray, List.map_cons, List.map_nil, hd, hs, hrun]
  exact h _ (show _ = _ by exact setRow_heap w g _ _ t _ hg) (fun k hk => setRow_other w g k _ hk) (below_setRow hb hBg _)

theorem wpList_copy_cells {P : Program} {w : World} {ops : Array Oper} {rest : List Oper} {o : Oper} {a : Act} {Q : Exit → Act → World → Prop} (hgd : o.guard = none) (d s : Operand) (dT sT : TypeId)
    (ho : o.op = .call { callee := .builtin .copy, args := #[d, s], argTypes := #[dT, sT] }) (elem : TypeId) (i : TypeInfo) (sz : Nat) (hu : P.underlying dT = some (.slice elem)) (hi : P.info? elem = some i) (hsz : i.size = sz)
    (dp sp : Option Addr) (dLen dCap sLen sCap n : Nat) (hd : a.eval d = .slice dp dLen dCap) (hs : a.eval s = .slice sp sLen sCap) (hn : n = Nat.min sLen dLen)
    (g off : Nat) (cur : List Value) (t : TypeId) (hg : w.heap[g]? = some (.cells cur.toArray t (0, 0))) (cs : List Value) (Bs : Nat → Prop)
    (hr : Reads w Bs sz sp n cs) (hdp : 0 < n → dp = some ⟨g, off, none⟩)
    (hfit : off + cs.length ≤ cur.length) (h1 : ∀ v ∈ cs, v.oneCell' = true) (B : Nat) (w0 : World) (hb : Below B w0 w) (hBg : B ≤ g)
    (h : ∀ w', Hid (w'.heap[g]? = some (.cells (splice cur off cs).toArray t (0, 0))) → (∀ k, k ≠ g → w'.heap[k]? = w.heap[k]?) → Below B w0 w' → wpList P ops Q rest (a.put o.dst (goInt n)) w') :
    wpList P ops Q (o :: rest) a w :=
  wpList_plain hgd fun _ hK => wp_copy_cells d s dT sT ho elem i sz hu hi hsz dp sp dLen dCap sLen sCap n hd hs hn g off cur t hg cs Bs hr hdp hfit h1 B w0 hb hBg fun w' h2 h3 h4 => hK _ _ (h w' h2 h3 h4)

theorem step_copy_cells {P : Program} {w : World} {ops : Array Oper} {o : Oper} {a : Act} {K : Act → World → Prop} {Q : Exit → Act → World → Prop} {E : Prop} (hgd : o.guard = none) (d s : Operand) (dT sT : TypeId)
    (ho : o.op = .call { callee := .builtin .copy, args := #[d, s], argTypes := #[dT, sT] }) (elem : TypeId) (i : TypeInfo) (sz : Nat) (hu : P.underlying dT = some (.slice elem)) (hi : P.info? elem = some i) (hsz : i.size = sz)
    (dp sp : Option Addr) (dLen dCap sLen sCap n : Nat) (hd : a.eval d = .slice dp dLen dCap) (hs : a.eval s = .slice sp sLen sCap) (hn : n = Nat.min sLen dLen)
    (g off : Nat) (cur : List Value) (t : TypeId) (hg : w.heap[g]? = some (.cells cur.toArray t (0, 0))) (cs : List Value) (Bs : Nat → Prop)
    (hr : Reads w Bs sz sp n cs) (hdp : 0 < n → dp = some ⟨g, off, none⟩)
    (hfit : off + cs.length ≤ cur.length) (h1 : ∀ v ∈ cs, v.oneCell' = true) (B : Nat) (w0 : World) (hb : Below B w0 w) (hBg : B ≤ g)
    (h : ∀ w', Hid (w'.heap[g]? = some (.cells (splice cur off cs).toArray t (0, 0))) → (∀ k, k ≠ g → w'.heap[k]? = w.heap[k]?) → Below B w0 w' → K (a.put o.dst (goInt n)) w') :
    if Region.wanted o (yielded ops a.tmps) = true then Oper.wp P o a w K Q else E := by
  have hw : Region.wanted o (yielded ops a.tmps) = true := by simp [Region.wanted, hgd]
  rw [if_pos hw]
  exact wp_copy_cells d s dT sT ho elem i sz hu hi hsz dp sp dLen dCap sLen sCap n hd hs hn g off cur t hg cs Bs hr hdp hfit h1 B w0 hb hBg h

theorem Blk.two {w : World} {g t : Nat} {a b : Value} (h : Blk w g t #[a, b]) : w.cell? ⟨g, 0, none⟩ = some a ∧ w.cell? ⟨g, 1, none⟩ = some b ∧ w.frozen? ⟨g, 0, none⟩ = false ∧ w.frozen? ⟨g, 1, none⟩ = false :=
  ⟨h.cell 0, h.cell 1, h.frozen 0, h.frozen 1⟩
theorem Blk.at_ {w : World} {g t : Nat} {cs : List Value} (h : w.heap[g]? = some (.cells cs.toArray t (0, 0))) (i : Nat) (hi : i < cs.length) : w.cell? ⟨g, i, none⟩ = some cs[i] ∧ w.frozen? ⟨g, i, none⟩ = false :=
  ⟨(Blk.cell (cs := cs.toArray) h i).trans (by simp [hi]), Blk.frozen (cs := cs.toArray) h i⟩
theorem heap_set {w : World} {g t : Nat} {cs : List Value} (h : w.heap[g]? = some (.cells cs.toArray t (0, 0))) (i : Nat) (u : Value) : (w.setCell ⟨g, i, none⟩ u).heap[g]? = some (.cells (cs.set i u).toArray t (0, 0)) := by
  have := Blk.set_ (w := w) (g := g) (t := t) (cs := cs.toArray) h i u
  simpa [Blk] using this

theorem results_cell_row_tmp {P : Program} {fn : Func} {p u : Tmp} {ty : TypeId} (h : fn.results = #[.cell p ty, .tmp u]) (tmps : Array Value) (w : World) (g : Nat) (t : TypeId) (cs : Array Value) (d : TypeDesc)
    (hp : tmps.getD p undef = .pointer (some ⟨g, 0, none⟩)) (hg : w.heap[g]? = some (.cells cs t (0, 0)))
    (hu : P.underlying ty = some d) (hd : (match d with | .struct _ | .array _ _ => true | _ => false) = true) (hi : (P.info? ty).map (·.size) = some cs.size) :
    (results fn tmps).run P w = .ok (.tuple #[.agg cs, tmps.getD u undef]) w := by
  rw [results_cell_tmp h, hp]
  simp [asAddr, run_loadVar_row w g t ty cs (0, 0) d hg hu hd hi]

theorem wp_store_row {P : Program} {o : Oper} {a : Act} {w : World} {K : Act → World → Prop} {Q : Exit → Act → World → Prop} (ty : TypeId) (p x : Operand) (ho : o.op = .store ty p x)
    (g : Nat) (hp : a.eval p = .pointer (some ⟨g, 0, none⟩)) (cs : Array Value) (hx : a.eval x = .agg cs) (t : TypeId) (cur : Array Value) (hg : w.heap[g]? = some (.cells cur t (0, 0)))
    (hi : (P.info? ty).map (·.size) = some cs.size) (hsz : cur.size = cs.size) (h1 : cs.all (·.oneCell') = true)
    (h : K (a.put o.dst undef) (w.setRow g cs)) : o.wp P a w K Q := by
  unfold Oper.wp execOp
  simp only [ho, hp, hx, Instr.storeAt, Instr.sureAddr, Sem.run_bind, Sem.run_pure, Result.andThen_ok, run_storeVar_row w g t ty cur cs hg hi hsz h1]
  exact h
theorem wpList_store_row {P : Program} {ops : Array Oper} {rest : List Oper} {o : Oper} {a : Act} {w : World} {Q : Exit → Act → World → Prop} (hgd : o.guard = none) (ty : TypeId) (p x : Operand) (ho : o.op = .store ty p x)
    (g : Nat) (hp : a.eval p = .pointer (some ⟨g, 0, none⟩)) (cs : Array Value) (hx : a.eval x = .agg cs) (t : TypeId) (cur : Array Value) (hg : w.heap[g]? = some (.cells cur t (0, 0)))
    (hi : (P.info? ty).map (·.size) = some cs.size) (hsz : cur.size = cs.size) (h1 : cs.all (·.oneCell') = true)
    (h : ∀ w', Hid (w'.heap[g]? = some (.cells cs t (0, 0))) → (∀ k, k ≠ g → w'.heap[k]? = w.heap[k]?) → (∀ B w0, Below B w0 w → B ≤ g → Below B w0 w') → wpList P ops Q rest (a.put o.dst undef) w') : wpList P ops Q (o :: rest) a w :=
  wpList_plain hgd fun _ hK => wp_store_row ty p x ho g hp cs hx t cur hg hi hsz h1 (hK _ _ (h _ (setRow_heap w g _ _ t _ hg) (fun k hk => setRow_other w g k _ hk) (fun _ _ hb hB => below_setRow hb hB _)))

theorem wp_alloc_blk {P : Program} {o : Oper} {a : Act} {w : World} {K : Act → World → Prop} {Q : Exit → Act → World → Prop} (t : TypeId) (ho : o.op = .alloc t) (z : Value) (hz : (P.info? t).bind (·.zero) = some z)
    (h : K (a.put o.dst (.pointer (some ⟨w.heap.size, 0, none⟩))) (w.alloc (.cells z.cells t))) : o.wp P a w K Q := by
  cases hq : P.info? t with
  | none => simp [hq] at hz
  | some i =>
    have hi : i.zero = some z := by simpa [hq] using hz
    unfold Oper.wp execOp
    simp [ho, Instr.alloc, newVar, newRow, newObj, zeroValue, typeInfo, hq, hi]
    exact h
theorem wpList_alloc_blk {P : Program} {ops : Array Oper} {rest : List Oper} {o : Oper} {a : Act} {w : World} {Q : Exit → Act → World → Prop} (hgd : o.guard = none) (t : TypeId) (ho : o.op = .alloc t) (z : Value) (hz : (P.info? t).bind (·.zero) = some z)
    (h : ∀ w', Hid (w'.heap[w.heap.size]? = some (.cells z.cells t (0, 0))) → Below w.heap.size w w' → Hid (w'.heap.size = w.heap.size + 1) → wpList P ops Q rest (a.put o.dst (.pointer (some ⟨w.heap.size, 0, none⟩))) w') : wpList P ops Q (o :: rest) a w :=
  wpList_plain hgd fun _ hK => wp_alloc_blk t ho z hz (hK _ _ (h _ (heap_alloc_new w _) ((Below.refl _ _).alloc (Nat.le_refl _) _) (World.size_alloc w _)))

theorem Blk.isSome {w : World} {g t : Nat} {cs : Array Value} (h : Blk w g t cs) (i : Nat) (hi : i < cs.size) : w.cell? ⟨g, i, none⟩ = some cs[i] := by
  rw [h.cell]; simp [hi]

theorem wpList_build_as {P : Program} {ops : Array Oper} {rest : List Oper} {o : Oper} {a : Act} {w : World} {Q : Exit → Act → World → Prop} (hg : o.guard = none) (t : TypeId) (parts : Array (Nat × Operand)) (ho : o.op = .build t parts)
    (cs : Array Value) (hf : P.built t (parts.map fun (i, x) => (i, a.eval x)).toList = some cs)
    (h : wpList P ops Q rest (a.put o.dst (.agg cs)) w) : wpList P ops Q (o :: rest) a w :=
  wpList_build hg t parts ho (by rw [hf]; rfl) (by rw [hf]; exact h)

theorem ownsRow_slice {w : World} {base e size n : Nat} {v : Value} {xs : List Value} (h : w.ownsRow base e size v n xs) : ∃ A c, v = .slice A n c ∧ n ≤ c := by
  rcases h.2 with ⟨rfl, rfl⟩ | ⟨g, cap, cur, rfl, _, _, hn, _⟩
  · exact ⟨none, 0, rfl, Nat.le_refl _⟩
  · exact ⟨_, cap, rfl, hn⟩
theorem ownsRow_empty (w : World) (e size : Nat) : (w.alloc (.cells #[] e)).ownsRow w.heap.size e size (.slice (some ⟨w.heap.size, 0, none⟩) 0 0) 0 [] :=
  ⟨by simp, .inr ⟨w.heap.size, 0, #[], rfl, Nat.le_refl _, heap_alloc_new w _, Nat.le_refl _, by simp [maxLen], by simp, by simp⟩⟩

/-- Two pieces and what stands between them, laid into a row. -/
theorem splice_three {α : Type} (Z f b : List α) (x : List α) (hl : Z.length = f.length + x.length + b.length) :
    splice (splice (splice Z 0 f) f.length x) (f.length + x.length) b = f ++ (x ++ b) := by
  simp only [splice, List.take_zero, List.nil_append, Nat.zero_add]
  have e1 : (f ++ List.drop f.length Z).take f.length = f := by simp
  rw [e1]
  have e2 : (f ++ List.drop f.length Z).drop (f.length + x.length) = Z.drop (f.length + x.length) := by
    rw [List.drop_append]; simp
  rw [e2]
  have e3 : List.take (f.length + x.length) (f ++ (x ++ List.drop (f.length + x.length) Z)) = f ++ x := by
    rw [← List.append_assoc]; exact List.take_left' (by simp)
  have e4 : List.drop (f.length + x.length + b.length) (f ++ (x ++ List.drop (f.length + x.length) Z)) = [] := by
    apply List.drop_eq_nil_of_le; simp; omega
  rw [e3, e4]
  simp
theorem set_splice {α : Type} (L : List α) (k : Nat) (x : α) (hk : k < L.length) : L.set k x = splice L k [x] := by
  simp only [splice, List.length_singleton]
  rw [List.set_eq_take_append_cons_drop, if_pos hk]; simp
theorem splice_put {α : Type} (Z f b : List α) (x : α) (k : Nat) (hk : f.length = k) (hl : Z.length = k + 1 + b.length) :
    splice ((splice Z 0 f).set k x) (k + 1) b = f ++ x :: b := by
  subst hk
  rw [set_splice _ _ _ (by rw [length_splice _ _ _ (by omega)]; omega)]
  exact splice_three Z f b [x] (by simp; omega)
theorem splice_two {α : Type} (Z f b : List α) (hl : Z.length = f.length + b.length) : splice (splice Z 0 f) f.length b = f ++ b := by
  simp only [splice, List.take_zero, List.nil_append, Nat.zero_add]
  have e1 : (f ++ List.drop f.length Z).take f.length = f := by simp
  have e4 : List.drop (f.length + b.length) (f ++ List.drop f.length Z) = [] := by
    apply List.drop_eq_nil_of_le; simp; omega
  rw [e1, e4]; simp
end Go.Proofs.YtlhekohecbiljaaDoor
