/-
  Parts of the proof that AddrBegins,AddrTexts calls on: Tw, Cg, Yf.
-/
import Derived.Deep.CutRange
import Derived.Test.YtfcegalckjeafaaGreatDoorM313
import Derived.Test.YtfcegalckjeafaaGreatDoorM315
import Derived.Test.YtfcegalckjeafaaGreatDoorM317
namespace Go.Proofs.YtfcegalckjeafaaGreatDoor
open Go
/-- The first n have come up. -/
def maskB (n m : Nat) : Array Bool := ((List.range m).map (fun i => decide (i < n))).toArray
def chain2B (md : Region.Mode) (ops : Array Oper) (n : Nat) : Bool :=
  (List.range ops.size).all fun t => decide (t ≤ n) || (List.range t).any fun j => decide (n ≤ j) && Region.waitsFor md ops t j
theorem mask_get {n m j : Nat} (h : (maskB n m).getD j true = false) : n ≤ j := by
  unfold maskB at h
  by_cases hj : j < m
  · simp [hj] at h; exact h
  · simp [hj] at h
theorem head_waits {ops : Array Oper} {md : Region.Mode} {n : Nat} {listed : Array Bool} (hs : Region.sinkB md ops n = true) (hn : n < ops.size) (inv : HeadInv md ops n listed) : ∀ (d i : Nat), n - i = d → i < n → listed.getD i true = false → n ∉ Region.ready md ops listed := by
  intro d
  induction d using Nat.strongRecOn with
  | _ d ih =>
    intro i hd hi hun hr
    obtain ⟨_, ot, hot, hall⟩ := mem_ready.1 hr
    have h1 := List.all_eq_true.1 hs i (List.mem_range.2 hi)
    obtain ⟨j, hj, hj2⟩ := List.any_eq_true.1 h1
    simp only [Bool.and_eq_true, decide_eq_true_eq] at hj2
    obtain ⟨oj, hoj, e, he, hb, hon⟩ := Region.waitsFor_spec hj2.2
    have hjle : j ≤ n := by have := List.mem_range.1 hj; omega
    by_cases hjt : j = n
    · subst hjt
      have : oj = ot := Option.some.inj (hoj.symm.trans hot)
      subst this
      have h2 := hall e he hb
      rw [hon, getD_both hun] at h2
      cases h2
    · cases hl : listed.getD j false with
      | true =>
        have h2 := inv.closed j oj hoj hl e he hb
        rw [hon, getD_both hun] at h2
        cases h2
      | false =>
        have hjs : j < listed.size := by rw [inv.size]; omega
        exact ih (n - j) (by omega) j rfl (by omega) (getD_in hjs hl) hr
theorem tail_waits2 {ops : Array Oper} {md : Region.Mode} {n : Nat} {listed : Array Bool} (hs : Region.sinkB md ops n = true) (hc : chain2B md ops n = true) (hn : n < ops.size) (inv : HeadInv md ops n listed) (d i : Nat) (hd : n - i = d) (hi : i < n) (hun : listed.getD i true = false) (t : Nat) (ht : n ≤ t) : t ∉ Region.ready md ops listed := by
  intro hr
  by_cases htn : t = n
  · subst htn
    exact head_waits hs hn inv d i hd hi hun hr
  · obtain ⟨_, ot, hot, hall⟩ := mem_ready.1 hr
    have htlt : t < ops.size := (Array.getElem?_eq_some_iff.1 hot).1
    have h1 := List.all_eq_true.1 hc t (List.mem_range.2 htlt)
    simp only [Bool.or_eq_true, decide_eq_true_eq] at h1
    rcases h1 with h1 | h1
    · omega
    · obtain ⟨j, hj, h2⟩ := List.any_eq_true.1 h1
      simp only [Bool.and_eq_true, decide_eq_true_eq] at h2
      have hjt := List.mem_range.1 hj
      obtain ⟨o', ho', e, he, hb, hon⟩ := Region.waitsFor_spec h2.2
      have : o' = ot := Option.some.inj (ho'.symm.trans hot)
      subst this
      have h3 := hall e he hb
      rw [hon, getD_both (inv.tail j h2.1 (by omega))] at h3
      cases h3
section
variable {P : Program} {ops : Array Oper} {Q : Exit → Act → World → Prop} {md : Region.Mode} {S : World → Prop} {T : Act → World → Prop} {n g : Nat}
def wpAnyU (P : Program) (md : Region.Mode) (ops : Array Oper) (Q : Exit → Act → World → Prop) (S : World → Prop) (n g : Nat) (T : Act → World → Prop) : Nat → Array Bool → Act → World → Prop
  | 0, listed, a, w => (listed == maskB n ops.size) = true ∧ T a w
  | fuel + 1, listed, a, w =>
    Region.ready md ops listed ≠ [] ∧
    ∀ i ∈ Region.ready md ops listed, i < n ∧ wpOp P ops Q i (fun a' w' => S w' ∧ wpAnyU P md ops Q S n g T fuel (listed.setIfInBounds i true) a' w') a w
theorem wpAny_of_U (hT : ∀ listed a w, (listed == maskB n ops.size) = true → T a w → wpAny P md ops Q g listed a w) :
    ∀ (f : Nat) (listed : Array Bool) (a : Act) (w : World), wpAnyU P md ops Q S n g T f listed a w → wpAny P md ops Q (f + g) listed a w
  | 0, listed, a, w, h => by rw [Nat.zero_add]; exact hT _ _ _ h.1 h.2
  | f + 1, listed, a, w, h => by
    rw [show f + 1 + g = (f + g) + 1 by omega]
    exact ⟨fun h0 => absurd h0 h.1, fun i hi => wpOp_mono (fun a' w' h' => wpAny_of_U hT f _ a' w' h'.2) (h.2 i hi).2⟩
theorem wpAnyU_first {i : Nat} {oi : Oper} {v : Value} (hi : ops[i]? = some oi) (hsel : ∀ (j : Nat) (o : Oper) cs b, ops[j]? = some o → o.op ≠ .select cs b)
    (hs : Region.sinkB md ops n = true) (hc : chain2B md ops n = true) (hn : n < ops.size) (hin : i < n)
    (hQ : ∀ c a w, Q (.panic c) (a.put oi.dst v) w → Q (.panic c) a w) :
    ∀ (fuel : Nat) (listed : Array Bool) (a : Act) (w : World), HeadInv md ops n listed →
      (∀ j oj, ops[j]? = some oj → j ≠ i → listed.getD j true = false → (∀ e ∈ oj.after, Region.binds md e = true → e.on ≠ i) → oi.apart ops oj = true) →
      i ∈ Region.ready md ops listed → YieldsIf P ops S oi v a → S w →
      wpAnyU P md ops Q S n g T fuel (listed.setIfInBounds i true) (a.put oi.dst v) w → wpAnyU P md ops Q S n g T (fuel + 1) listed a w := by
  intro fuel
  induction fuel with
  | zero =>
    intro listed a w inv _ hr hy hS H
    have hun := (mem_ready.1 hr).1
    refine ⟨fun h => (by rw [h] at hr; cases hr), fun j hj => ?_⟩
    have hjn : j < n := by
      rcases Nat.lt_or_ge j n with h | h
      · exact h
      · exact absurd hj (tail_waits2 hs hc hn inv _ i rfl hin hun j h)
    refine ⟨hjn, ?_⟩
    by_cases hji : j = i
    · subst hji; exact hy.wpOp hi hS ⟨hS, H⟩
    · have h0 := (mem_ready.1 (ready_mono hj hji)).1
      rw [eq_of_beq H.1] at h0
      have := mask_get h0
      omega
  | succ fuel ih =>
    intro listed a w inv hfree hr hy hS H
    have hun := (mem_ready.1 hr).1
    refine ⟨fun h => (by rw [h] at hr; cases hr), fun j hj => ?_⟩
    have hjn : j < n := by
      rcases Nat.lt_or_ge j n with h | h
      · exact h
      · exact absurd hj (tail_waits2 hs hc hn inv _ i rfl hin hun j h)
    refine ⟨hjn, ?_⟩
    by_cases hji : j = i
    · subst hji; exact hy.wpOp hi hS ⟨hS, H⟩
    · have h1 := (H.2 j (ready_mono hj hji)).2
      obtain ⟨hjun, oj, hoj, hall⟩ := mem_ready.1 hj
      have hnot : ∀ e ∈ oj.after, Region.binds md e = true → e.on ≠ i := fun e he hb heq => by
        have h1 := hall e he hb
        rw [heq, getD_both hun] at h1
        cases h1
      have h2 := wpOp_putIf hoj (hfree j oj hoj hji hjun hnot) (fun cs b => hsel i oi cs b hi) (fun cs b => hsel j oj cs b hoj) hQ hy h1
      have hfree' : ∀ k ok, ops[k]? = some ok → k ≠ i → (listed.setIfInBounds j true).getD k true = false →
          (∀ e ∈ ok.after, Region.binds md e = true → e.on ≠ i) → oi.apart ops ok = true := fun k ok hk hki hun hno => by
        refine hfree k ok hk hki ?_ hno
        by_cases hjk : j = k
        · subst hjk; exact hjun
        · rw [getD_set_ne true hjk] at hun; exact hun
      refine wpOp_mono (fun a' w' h3 => ⟨h3.2.1, ih (listed.setIfInBounds j true) a' w' (inv.set hj hjn) hfree' (ready_mono hr (Ne.symm hji)) h3.1 h3.2.1 ?_⟩) h2
      rw [Array.setIfInBounds_comm _ _ hji]
      exact h3.2.2
/-- What is fixed of the region. -/
def ht2B (md : Region.Mode) (ops : Array Oper) (n : Nat) : Bool := Region.noSelect ops && decide (n < ops.size) && Region.sinkB md ops n && chain2B md ops n
/-- What of the head has come up is closed; nothing of the tail has. -/
def head2B (md : Region.Mode) (ops : Array Oper) (n : Nat) (listed : Array Bool) : Bool :=
  decide (listed.size = ops.size) && (List.range ops.size).all (fun j => !listed.getD j false || ((ops[j]?).map (·.after.all fun e => !Region.binds md e || listed.getD e.on false)).getD true) &&
    (List.range ops.size).all fun t => decide (t < n) || !listed.getD t true
theorem head2B_inv {listed : Array Bool} (h : head2B md ops n listed = true) : HeadInv md ops n listed := by
  simp only [head2B, Bool.and_eq_true, decide_eq_true_eq] at h
  obtain ⟨⟨h1, h2⟩, h3⟩ := h
  refine ⟨h1, fun j oj hj hl e he hb => ?_, fun t ht ht' => ?_⟩
  · have hjs := (Array.getElem?_eq_some_iff.1 hj).1
    have := List.all_eq_true.1 h2 j (List.mem_range.2 hjs)
    rw [hl, hj] at this
    simp only [Bool.not_true, Bool.false_or, Option.map_some, Option.getD_some] at this
    have := Array.all_eq_true'.1 this e he
    rw [hb] at this
    simpa using this
  · have := List.all_eq_true.1 h3 t (List.mem_range.2 ht')
    simp only [Bool.or_eq_true, decide_eq_true_eq, Bool.not_eq_true'] at this
    rcases this with h | h
    · omega
    · exact h
def take2B (md : Region.Mode) (ops : Array Oper) (n : Nat) (listed : Array Bool) (i : Nat) : Bool :=
  Region.free md ops listed i && (Region.ready md ops listed).contains i && head2B md ops n listed && decide (i < n)
/-- Take number 'i' first. -/
theorem wpAnyU_take (i : Nat) {oi : Oper} {v : Value} {fuel : Nat} {listed : Array Bool} {a : Act} {w : World} (hst : ht2B md ops n = true) (hi : ops[i]? = some oi)
    (ht : take2B md ops n listed i = true)
    (hQ : ∀ c a w, Q (.panic c) (a.put oi.dst v) w → Q (.panic c) a w) (hy : YieldsIf P ops S oi v a) (hS : S w)
    (h : wpAnyU P md ops Q S n g T fuel (listed.setIfInBounds i true) (a.put oi.dst v) w) : wpAnyU P md ops Q S n g T (fuel + 1) listed a w := by
  simp only [ht2B, take2B, Bool.and_eq_true, decide_eq_true_eq] at hst ht
  exact wpAnyU_first hi (Region.noSelect_spec hst.1.1.1) hst.1.2 hst.2 hst.1.1.2 ht.2 hQ fuel listed a w (head2B_inv ht.1.2) (Region.free_spec hi ht.1.1.1) (by simpa using ht.1.1.2) hy hS h
/-- One that comes up alone is carried out. -/
theorem wpAnyU_one (i : Nat) {o : Oper} {fuel : Nat} {listed : Array Bool} {a : Act} {w : World} (hr : Region.ready md ops listed = [i]) (hin : decide (i < n) = true) (ho : ops[i]? = some o)
    (h : ∀ K' : Act → World → Prop, Shut (∀ a w, S w → (S w → wpAnyU P md ops Q S n g T fuel (listed.setIfInBounds i true) a w) → K' a w) → if Region.wanted o (yielded ops a.tmps) = true then Oper.wp P o a w K' Q else K' (a.put o.dst undef) w) :
    wpAnyU P md ops Q S n g T (fuel + 1) listed a w := by
  refine ⟨by rw [hr]; simp, fun j hj => ?_⟩
  rw [hr] at hj
  obtain rfl : j = i := by simpa using hj
  exact ⟨by simpa using hin, wpOp_step ho (fun K' hK => h K' (fun a w hS hW => hK a w ⟨hS, hW hS⟩))⟩
/-- Two that may come up, in either order. -/
theorem wpAnyU_two (i j : Nat) {o o' : Oper} {fuel : Nat} {listed : Array Bool} {a : Act} {w : World} (hr : Region.ready md ops listed = [i, j]) (hin : (decide (i < n) && decide (j < n)) = true) (ho : ops[i]? = some o) (ho' : ops[j]? = some o')
    (h : ∀ K' : Act → World → Prop, Shut (∀ a w, S w → (S w → wpAnyU P md ops Q S n g T fuel (listed.setIfInBounds i true) a w) → K' a w) → if Region.wanted o (yielded ops a.tmps) = true then Oper.wp P o a w K' Q else K' (a.put o.dst undef) w)
    (h' : ∀ K' : Act → World → Prop, Shut (∀ a w, S w → (S w → wpAnyU P md ops Q S n g T fuel (listed.setIfInBounds j true) a w) → K' a w) → if Region.wanted o' (yielded ops a.tmps) = true then Oper.wp P o' a w K' Q else K' (a.put o'.dst undef) w) :
    wpAnyU P md ops Q S n g T (fuel + 1) listed a w := by
  refine ⟨by rw [hr]; simp, fun k hk => ?_⟩
  simp only [Bool.and_eq_true, decide_eq_true_eq] at hin
  rw [hr] at hk
  simp only [List.mem_cons, List.not_mem_nil, or_false] at hk
  rcases hk with rfl | rfl
  · exact ⟨hin.1, wpOp_step ho (fun K' hK => h K' (fun a w hS hW => hK a w ⟨hS, hW hS⟩))⟩
  · exact ⟨hin.2, wpOp_step ho' (fun K' hK => h' K' (fun a w hS hW => hK a w ⟨hS, hW hS⟩))⟩
theorem wpAnyU_done {listed : Array Bool} {a : Act} {w : World} (hB : (listed == maskB n ops.size) = true) (h : T a w) : wpAnyU P md ops Q S n g T 0 listed a w := ⟨hB, h⟩
end
section
variable {P : Program} {ops : Array Oper} {Q : Exit → Act → World → Prop} {md : Region.Mode} {S : World → Prop} {T : Act → World → Prop} {n g : Nat}
/-- The order is one that may be taken. -/
def ord2B (md : Region.Mode) (ops : Array Oper) (n g : Nat) : List (Nat × Bool) → Array Bool → Bool
  | [], l => (l == maskB n ops.size)
  | (i, true) :: r, l => take2B md ops n l i && ord2B md ops n g r (l.setIfInBounds i true)
  | (i, false) :: r, l => (Region.ready md ops l == [i]) && decide (i < n) && ord2B md ops n g r (l.setIfInBounds i true)
theorem wpAnyU_sq (hst : ht2B md ops n = true) (hQ : ∀ c a d v w, Q (.panic c) (Act.put a d v) w → Q (.panic c) a w) : ∀ (r : List (Nat × Bool)) (listed : Array Bool) (a : Act) (w : World), ord2B md ops n g r listed = true → S w → wpSq P ops Q S T r a w → wpAnyU P md ops Q S n g T r.length listed a w
  | [], _, _, _, ho, _, h => wpAnyU_done ho h
  | (i, true) :: r, listed, a, w, ho, hS, h => by
    simp only [ord2B, Bool.and_eq_true] at ho
    obtain ⟨o, v, h1, h2, h3⟩ := h
    exact wpAnyU_take i hst h1 ho.1 (fun c a w h => hQ c a _ _ w h) h2 hS (wpAnyU_sq hst hQ r _ _ _ ho.2 hS h3)
  | (i, false) :: r, listed, a, w, ho, hS, h => by
    simp only [ord2B, Bool.and_eq_true] at ho
    obtain ⟨o, h1, h2⟩ := h
    refine wpAnyU_one i (by simpa using ho.1.1) ho.1.2 h1 fun K' hK => h2 K' ?_
    have hK' := hK.out
    exact fun a w hS hW => hK' a w hS fun hS => wpAnyU_sq hst hQ r _ _ _ ho.2 hS (hW hS)
end
section
variable {P : Program} {ops : Array Oper} {Q : Exit → Act → World → Prop} {md : Region.Mode} {S : World → Prop} {T T' : Act → World → Prop} {n g : Nat}
def pre2B (md : Region.Mode) (ops : Array Oper) (n : Nat) : List Nat → Array Bool → Bool
  | [], _ => true
  | i :: r, l => take2B md ops n l i && pre2B md ops n r (l.setIfInBounds i true)
theorem wpAnyU_pre (hst : ht2B md ops n = true) (hQ : ∀ c a d v w, Q (.panic c) (Act.put a d v) w → Q (.panic c) a w) (m : Nat) : ∀ (r : List Nat) (listed : Array Bool) (a : Act) (w : World), pre2B md ops n r listed = true → S w → wpSq P ops Q S T (r.map (·, true)) a w →
    (∀ a w, S w → T a w → wpAnyU P md ops Q S n g T' m (listedOf r listed) a w) → wpAnyU P md ops Q S n g T' (m + r.length) listed a w
  | [], _, a, w, _, hS, h, hT => hT a w hS h
  | i :: r, listed, a, w, ho, hS, h, hT => by
    simp only [pre2B, Bool.and_eq_true] at ho
    obtain ⟨o, v, h1, h2, h3⟩ := h
    exact wpAnyU_take i hst h1 ho.1 (fun c a w h => hQ c a _ _ w h) h2 hS (wpAnyU_pre hst hQ m r _ _ _ ho.2 hS h3 hT)
theorem wpAnyU_both (hst : ht2B md ops n = true) (hQ : ∀ c a d v w, Q (.panic c) (Act.put a d v) w → Q (.panic c) a w) (i j : Nat) (r1 r2 : List (Nat × Bool)) (listed : Array Bool) (a : Act) (w : World) (hl : r1.length = r2.length)
    (hr : ((Region.ready md ops listed == [i, j]) && (decide (i < n) && decide (j < n)) && ord2B md ops n g r1 (listed.setIfInBounds i true) && ord2B md ops n g r2 (listed.setIfInBounds j true)) = true)
    (h : wpBoth P ops Q S T i j r1 r2 a w) : wpAnyU P md ops Q S n g T (r1.length + 1) listed a w := by
  simp only [Bool.and_eq_true, beq_iff_eq] at hr
  obtain ⟨⟨⟨h1, h2⟩, h3⟩, h4⟩ := hr
  obtain ⟨⟨o, ho, hk⟩, ⟨o', ho', hk'⟩⟩ := h
  refine wpAnyU_two i j h1 (by simpa using h2) ho ho' (fun K' hK => hk K' ?_) (fun K' hK => hk' K' ?_)
  · have hK' := hK.out
    exact fun a w hS hW => hK' a w hS fun hS => wpAnyU_sq hst hQ r1 _ _ _ h3 hS (hW hS)
  · have hK' := hK.out
    exact fun a w hS hW => hK' a w hS fun hS => by rw [hl]; exact wpAnyU_sq hst hQ r2 _ _ _ h4 hS (hW hS)
end
section
variable {P : Program} {ops : Array Oper} {Q : Exit → Act → World → Prop} {md : Region.Mode} {S : World → Prop} {n g : Nat}
/-- The beginning: reads, then two in either order, each with what follows it, then the rest as it may come. -/
theorem wp_region_tw2 {id : Nat} {l : List Oper} {a : Act} {w : World} (n : Nat) (r : List Nat) (i j : Nat) (r1 r2 : List (Nat × Bool)) (S : World → Prop) (hm : P.follows .mixedOrders = true)
    (hst : (ht2B .any l.toArray n && pre2B .any l.toArray n r (Array.replicate l.length false) && decide (r1.length + 1 + r.length = n) && decide (r1.length = r2.length)) = true)
    (hrd : ((Region.ready .any l.toArray (listedOf r (Array.replicate l.length false)) == [i, j]) && (decide (i < n) && decide (j < n)) && ord2B .any l.toArray n (l.length - n) r1 ((listedOf r (Array.replicate l.length false)).setIfInBounds i true) && ord2B .any l.toArray n (l.length - n) r2 ((listedOf r (Array.replicate l.length false)).setIfInBounds j true)) = true) (hS : S w.drew)
    (h : S w.drew → wpSq P l.toArray (NoPanic Q) S (fun a w => S w ∧ wpBoth P l.toArray (NoPanic Q) S (fun a w => wpAny P .any l.toArray (NoPanic Q) (l.length - n) (maskB n l.length) a w) i j r1 r2 a w) (r.map (·, true)) a w.drew) : (Code.region id l.toArray true).wp P Q a w := by
  refine wp_region_noPanic ?_
  simp only [Bool.and_eq_true, decide_eq_true_eq] at hst
  obtain ⟨⟨⟨h1, h2⟩, h3⟩, h4⟩ := hst
  refine wp_region_any hm ?_
  have h5 := wpAnyU_pre (T' := fun a w => wpAny P .any l.toArray (NoPanic Q) (l.length - n) (maskB n l.length) a w) (g := l.length - n) h1 (fun _ _ _ _ _ h => h) (r1.length + 1) r (Array.replicate l.length false) a w.drew h2 hS (h hS)
    (fun a w _ hT => wpAnyU_both h1 (fun _ _ _ _ _ h => h) i j r1 r2 _ a w h4 hrd hT.2)
  rw [h3] at h5
  have := wpAny_of_U (g := l.length - n) (Q := NoPanic Q) (fun listed a w hl hT => by rw [eq_of_beq hl]; simpa using hT) _ _ _ _ h5
  have hn : n < l.length := by
    simp only [ht2B, Bool.and_eq_true, decide_eq_true_eq] at h1
    simpa using h1.1.1.2
  rw [show n + (l.length - n) = l.toArray.size by simp; omega] at this
  simpa using this
/-- THE TAIL: the one that is ready. -/
theorem tw_one {i : Nat} {o : Oper} {f : Nat} {listed : Array Bool} {a : Act} {w : World} (hr : (Region.ready md ops listed == [i]) = true) (ho : ops[i]? = some o)
    (h : ∀ K' : Act → World → Prop, Shut (∀ a w, wpAny P md ops Q f (listed.setIfInBounds i true) a w → K' a w) → if Region.wanted o (yielded ops a.tmps) = true then Oper.wp P o a w K' Q else K' (a.put o.dst undef) w) : wpAny P md ops Q (f + 1) listed a w :=
  wpAny_ready (eq_of_beq hr) (by simp) (.cons ho (fun K' hK => h K' hK) .nil)
/-- Two that are ready. -/
theorem tw_two {i j : Nat} {o o' : Oper} {f : Nat} {listed : Array Bool} {a : Act} {w : World} (hr : (Region.ready md ops listed == [i, j]) = true) (ho : ops[i]? = some o) (ho' : ops[j]? = some o')
    (h : ∀ K' : Act → World → Prop, Shut (∀ a w, wpAny P md ops Q f (listed.setIfInBounds i true) a w → K' a w) → if Region.wanted o (yielded ops a.tmps) = true then Oper.wp P o a w K' Q else K' (a.put o.dst undef) w)
    (h' : ∀ K' : Act → World → Prop, Shut (∀ a w, wpAny P md ops Q f (listed.setIfInBounds j true) a w → K' a w) → if Region.wanted o' (yielded ops a.tmps) = true then Oper.wp P o' a w K' Q else K' (a.put o'.dst undef) w) : wpAny P md ops Q (f + 1) listed a w :=
  wpAny_ready (eq_of_beq hr) (by simp) (.cons ho (fun K' hK => h K' hK) (.cons ho' (fun K' hK => h' K' hK) .nil))
/-- One that only computes is taken first. -/
theorem tw_take {i : Nat} {o : Oper} {v : Value} {f : Nat} {listed : Array Bool} {a : Act} {w : World} (hi : ops[i]? = some o) (hc : (Region.free md ops listed i && (Region.ready md ops listed).contains i && Region.noSelect ops) = true)
    (hw : Region.wanted o (yielded ops a.tmps) = true) (hy : ∀ w, (execOp a.eval o).run P w = .ok (.value v) w) (h : wpAny P md ops (NoPanic Q) f (listed.setIfInBounds i true) (a.put o.dst v) w) : wpAny P md ops (NoPanic Q) (f + 1) listed a w := by
  simp only [Bool.and_eq_true] at hc
  exact wpAny_first hi (Region.noSelect_spec hc.2) (fun _ _ _ h => h) _ _ _ _ (Region.free_spec hi hc.1.1) (by simpa using hc.1.2) (.inl ⟨hw, hy⟩) h
theorem tw_end {listed : Array Bool} {a : Act} {w : World} (hr : (Region.ready md ops listed == []) = true) (h : Q .normal a w) : wpAny P md ops Q 0 listed a w := ⟨eq_of_beq hr, h⟩
end
end Go.Proofs.YtfcegalckjeafaaGreatDoor
namespace Go.Proofs.YtfcegalckjeafaaGreatDoor
open Go.RowKit Go.BigFrame Go.Shelf
/-- Of the blocks that were, only those of F have changed. -/
structure Chg (F : Nat → Prop) (W W' : World) : Prop where
  base : Below 0 W W'
  same : ∀ k, k < W.heap.size → ¬ F k → W'.heap[k]? = W.heap[k]?
section
variable {F G : Nat → Prop} {W W' W'' w0 : World} {g : Nat} {t : TypeId} {cs : Array Value}
theorem Chg.refl (F : Nat → Prop) (W : World) : Chg F W W := ⟨Below.refl _ _, fun _ _ _ => rfl⟩
theorem Chg.size (h : Chg F W W') : W.heap.size ≤ W'.heap.size := h.base.size
theorem below_zero {B : Nat} (h : Below B W W') : Below 0 W W' := h.mono (Nat.zero_le _)
theorem Chg.of_below (h : Below W.heap.size W W') : Chg F W W' := ⟨below_zero h, fun k hk _ => h.block k hk⟩
theorem Chg.of_grown {r : Option Nat} (h : W.grownBy W' r) (hr : ∀ j, r = some j → F j) : Chg F W W' :=
  ⟨(Below.refl 0 W).grown h (Nat.zero_le _) (fun _ _ => Nat.zero_le _), fun k hk hf => h.block k hk (fun e => hf (hr k e.symm))⟩
theorem Chg.one (ho : ∀ k, k ≠ g → W'.heap[k]? = W.heap[k]?) (hB : ∀ B w0, Below B w0 W → B ≤ g → Below B w0 W') (hF : F g) : Chg F W W' :=
  ⟨hB _ _ (Below.refl 0 W) (Nat.zero_le _), fun k _ hf => ho k (fun e => hf (e ▸ hF))⟩
theorem Chg.trans (h : Chg F W W') (k : Chg G W' W'') (hG : ∀ i, i < W.heap.size → G i → F i) : Chg F W W'' :=
  ⟨h.base.trans k.base, fun i hi hf => (k.same i (Nat.lt_of_lt_of_le hi h.size) (fun hg => hf (hG i hi hg))).trans (h.same i hi hf)⟩
theorem Chg.mono (h : Chg F W W') (hG : ∀ i, i < W.heap.size → F i → G i) : Chg G W W' := ⟨h.base, fun i hi hg => h.same i hi (fun hf => hg (hG i hi hf))⟩
theorem Chg.blk (h : Chg F W W') (hg : Blk W g t cs) (hF : ¬ F g) : Blk W' g t cs := (h.same g hg.lt hF).trans hg
theorem Chg.keeps {S : Nat → Prop} (h : Chg F W W') (hS : ∀ k, k < W.heap.size → S k → ¬ F k) : Keeps S W W' := fun k hk hs => h.same k hk (hS k hk hs)
theorem below_of_zero {B : Nat} (h0 : Below 0 W W') (hB : ∀ k, k < B → W'.heap[k]? = W.heap[k]?) : Below B W W' := ⟨h0.os, h0.tape, h0.output, h0.size, hB⟩
theorem Chg.below {B : Nat} (h : Chg F W W') (hb : Below B w0 W) (hB : B ≤ W.heap.size) (hF : ∀ k, F k → B ≤ k) : Below B w0 W' :=
  hb.trans (below_of_zero h.base fun k hk => h.same k (Nat.lt_of_lt_of_le hk hB) (fun hf => absurd (hF k hf) (by omega)))
theorem Chg.own {B e sz n : Nat} {v : Value} {xs : List Value} (h : Chg F W W') (ho : W.ownsRow B e sz v n xs) (hF : ∀ j, v.ownBlock = some j → ¬ F j) : W'.ownsRow B e sz v n xs :=
  ⟨ho.1, ho.2.imp id fun ⟨g, cap, cur, e1, e2, e3, r⟩ => ⟨g, cap, cur, e1, e2, (h.same g (Array.getElem?_eq_some_iff.1 e3).1 (hF g (by subst e1; rfl))).trans e3, r⟩⟩
theorem Chg.left {S : Nat → Prop} {n₀ : Nat} (h : Chg F W W') (hS : ∀ k, S k → ¬ F k) (hc : ∀ k o, F k → W.heap[k]? = some o → o.isCells = false → k < n₀) (hb : ∀ k, F k → k < n₀ ∨ n₀ + 3 ≤ k) : Left n₀ S W W' :=
  ⟨⟨h.size, h.keeps fun k _ hs => hS k hs⟩, ⟨h.size, fun k o hk ho hf => (h.same k (Array.getElem?_eq_some_iff.1 ho).1 (fun hF => absurd (hc k o hF ho hf) (by omega))).trans ho⟩, fun k h1 h2 hk => h.same k hk (fun hF => by have := hb k hF; omega)⟩
theorem own_cells {B e sz n : Nat} {v : Value} {xs : List Value} (ho : W.ownsRow B e sz v n xs) {k : Nat} {o : Obj} (hk : v.ownBlock = some k) (h : W.heap[k]? = some o) : o.isCells = true := by
  rcases ho.2 with ⟨rfl, _⟩ | ⟨g, cap, cur, rfl, _, hgb, _⟩
  · simp [Value.ownBlock] at hk
  · obtain rfl : g = k := by simpa [Value.ownBlock] using hk
    rw [hgb] at h; cases h; rfl
end
/-- A list of one, built. -/
theorem reads_one_E {α : Type} (E : Enc α) (w : World) (t : TypeId) (v : α) : Reads (w.alloc (.cells (E.l v).toArray t)) (fun j => j = w.heap.size) E.sz (some ⟨w.heap.size, 0, none⟩) 1 (E.fl [v]) := ⟨by simp [Enc.fl, E.len], fun _ => ⟨_, rfl, rfl, fun j x hj => by
  rw [addr_plain, Blk.cell (Blk.new w t (E.l v).toArray)]
  simpa [Enc.fl] using hj⟩⟩
section
variable {ts e : TypeId} {size bytes : Nat} (E : El ts e size bytes) {ops : Array Oper} {o : Oper} {a : Act} {w : World} {Q : Exit → Act → World → Prop}
include E
theorem step_app3 {s x : Operand} {K : Act → World → Prop} {F : Prop} (hgd : o.guard = none) (ho : o.op = .call { callee := .builtin .append, args := #[s, x], argTypes := #[ts, ts] })
    {base : Nat} {v : Value} {n : Nat} {xs : List Value} (hown : w.ownsRow base e size v n xs) (hs : a.eval s = v)
    {B : Nat → Prop} {A : Option Addr} {m c : Nat} {news : List Value} (hr : Reads w B size A m news) (hx : a.eval x = .slice A m c) (h1 : ∀ u ∈ news, u.oneCell' = true)
    (h63 : n + m ≤ 16777216) (hsz : bytes ≤ 1024) (hbase : base ≤ w.heap.size)
    (h : ∀ v' w', Hid (w'.ownsRow base e size v' (n + m) (xs ++ news)) → Hid (w.grownBy w' v.ownBlock) → Hid (v'.ownBlock = v.ownBlock ∨ v'.ownBlock = some w.heap.size) → K (a.put o.dst v') w') : if Region.wanted o (yielded ops a.tmps) = true then Oper.wp Tryz.prog o a w K Q else F := by
  obtain ⟨i, z, e1, e2, e3, e4, e5, e6, e7⟩ := E.ex
  refine step_append_any w hgd s x ts ho base e i z size bytes e1 e2 e3 e4 e5 e6 e7 v n xs hs hown B A m c news hx hr h1 (by simp only [maxLen]; omega) ?_ hbase (fun v' w' h2 h3 h4 => h v' w' h2 h3 h4)
  have := Nat.mul_le_mul h63 hsz
  omega
end
section
variable {ops : Array Oper} {o : Oper} {a : Act} {w : World} {Q : Exit → Act → World → Prop} {K : Act → World → Prop} {F : Prop}
/-- An element of a row of the call's own is stored. -/
theorem step_stOwn (hgd : o.guard = none) {ty : Nat} {p x : Operand} (ho : o.op = .store ty p x)
    {B e sz g n c : Nat} {xs : List Value} (h : w.ownsRow B e sz (.slice (some ⟨g, 0, none⟩) n c) n xs) (k : Nat) (hk : k < n) {ad : Addr} (hp : a.eval p = .pointer (some ad)) (had : ad = ⟨g, k * sz, none⟩) {v : Value} (hx : a.eval x = v) (cs : List Value) (hv : v.cells.toList = cs) (hc : cs.length = sz)
    (hi : (Tryz.prog.info? ty).map (·.size) = some sz) (h1 : ∀ u ∈ cs, u.oneCell' = true)
    (hK : ∀ w', Hid (w'.ownsRow B e sz (.slice (some ⟨g, 0, none⟩) n c) n (splice xs (k * sz) cs)) → (∀ k, k ≠ g → w'.heap[k]? = w.heap[k]?) → (∀ B w0, Below B w0 w → B ≤ g → Below B w0 w') → K (a.put o.dst undef) w') : if Region.wanted o (yielded ops a.tmps) = true then Oper.wp Tryz.prog o a w K Q else F := by
  obtain ⟨cur, hh, hl, hb, hown⟩ := own_put (k := k) h hk hc
  subst had
  rw [if_pos (by simp [Region.wanted, hgd])]
  unfold Oper.wp execOp
  simp only [ho, hp, hx, Instr.storeAt, Instr.sureAddr, Sem.run_bind, Sem.run_pure, Result.andThen_ok, run_storeVar_at w g _ e ty v cs cur hh hv (by rw [hi, hc]) hl h1]
  exact hK _ hown (fun j hj => setRow_other w g j _ hj) (fun B w0 hb hB => below_setRow hb hB _)
/-- A cell of a block is stored. -/
theorem step_st1 (hgd : o.guard = none) {ty : Nat} {p x : Operand} (ho : o.op = .store ty p x)
    {g t k : Nat} {cs : List Value} (h : Blk w g t cs.toArray) (hk : k < cs.length) (hp : a.eval p = .pointer (some ⟨g, k, none⟩)) {v : Value} (hx : a.eval x = v) (hv : v.cells.toList = [v])
    (hi : (Tryz.prog.info? ty).map (·.size) = some 1) (h1 : v.oneCell' = true)
    (hK : ∀ w', Hid (Blk w' g t (cs.set k v).toArray) → (∀ k, k ≠ g → w'.heap[k]? = w.heap[k]?) → (∀ B w0, Below B w0 w → B ≤ g → Below B w0 w') → K (a.put o.dst undef) w') : if Region.wanted o (yielded ops a.tmps) = true then Oper.wp Tryz.prog o a w K Q else F := by
  rw [if_pos (by simp [Region.wanted, hgd])]
  unfold Oper.wp execOp
  simp only [ho, hp, hx, Instr.storeAt, Instr.sureAddr, Sem.run_bind, Sem.run_pure, Result.andThen_ok, run_storeVar_at w g k t ty v [v] cs.toArray h hv (by rw [hi]; rfl) (by simp; omega) (by simpa using h1)]
  refine hK _ ?_ (fun j hj => setRow_other w g j _ hj) (fun B w0 hb hB => below_setRow hb hB _)
  have e : splice cs k [v] = cs.set k v := by
    simp only [splice, List.length_cons, List.length_nil]
    rw [List.set_eq_take_append_cons_drop, if_pos hk]; simp
  show (w.setRow g (splice cs.toArray.toList k [v]).toArray).heap[g]? = _
  rw [setRow_heap w g _ _ t _ h]
  simp [e]
end
/-- each goes through n parts, each with its step. -/
def EachOk (w : World) (S : Nat → Prop) (v : V) (n : Nat) (st : Fin n → St) (vv : Fin n → V) : Prop := ∀ (fd : Nat) (env : Array Value) (J : List (Fin n) → World → Prop), (∀ args w, (callFunc fd args).run Tryz.prog w = .ok (.enter fd args) w) → Stay w.heap.size J → J [] w →
  (∀ pre (x : Fin n) W, J pre W → pre.length < n → w.heap.size + 3 ≤ W.heap.size → Calls Tryz.prog fd (#[(st x).a, (vv x).a] ++ env) W fun e W' => (∃ u, e = .returned u) ∧ J (pre ++ [x]) W' ∧ Left w.heap.size S W W') →
  Calls Tryz.prog 74 #[v.a, .func (.func fd) #[] env] w fun e W' => (∃ u, e = .returned u) ∧ J (List.finRange n) W'
/-- Its steps and parts are those of the tree. -/
def PartsOk (w : World) (S : Nat → Prop) (x : T) (n : Nat) (st : Fin n → St) (vv : Fin n → V) : Prop := n = x.xs.length ∧ ∀ i : Fin n, IsV w S (x.xs.getD i.val T.z) (vv i) ∧ (x.k = 4 → st i = ⟨0, i.val, []⟩) ∧ (x.k = 5 → st i = ⟨1, 0, x.ks.getD i.val []⟩) ∧ (x.k = 6 → st i = ⟨2, 0, (x.xs.getD i.val T.z).key⟩)
/-- each is right at a tree's value. -/
def EachAt (w : World) (S : Nat → Prop) (x : T) (v : V) : Prop := ∃ (n : Nat) (st : Fin n → St) (vv : Fin n → V), PartsOk w S x n st vv ∧ EachOk w S v n st vv
theorem each_pl {w : World} {S : Nat → Prop} {x : T} {v : V} (h : IsV w S x v) (hS : ∀ k, S k → k < w.heap.size) (hp : x.k ≤ 4) (hn : x.nodes ≤ 16384) : EachAt w S x v := by
  obtain ⟨k, i, t, ks, xs⟩ := x
  simp only [T.k] at hp
  rw [IsV] at h
  rcases h with ⟨h4, hsc, rfl, rfl, rfl⟩ | ⟨rfl, rfl, rfl, rfl, vs, p, hr, rfl, hxs⟩ | ⟨h, -⟩
  · refine ⟨0, nofun, nofun, ⟨rfl, nofun⟩, fun fd env J he hJ h0 hdo => ?_⟩
    have hk0 : 0 ≤ k := by rcases hsc with h | h | h | h <;> omega
    refine (each_leaf ⟨k, i, t, k, none, 0, 0, 0, none, 0, 0⟩ fd env w ⟨hk0, h4⟩).mono ?_
    rintro e w' ⟨hu, hb⟩
    exact ⟨hu, hJ _ _ _ none h0 (chg_below hb) nofun⟩
  · have hl := hxs.len
    have hnn : nodesL xs + 1 ≤ 16384 := by simpa [T.nodes] using hn
    have := len_nodesL xs
    refine ⟨vs.length, fun i => stepI i.val, fun i => vs[i.val], ⟨hl, fun i => ⟨?_, fun _ => rfl, fun h => absurd h (by simp [T.k]), fun h => absurd h (by simp [T.k])⟩⟩, fun fd env J he hJ h0 hdo => ?_⟩
    · have hi : i.val < xs.length := by have := i.isLt; omega
      simp only [T.xs]
      rw [List.getD_eq_getElem?_getD, List.getElem?_eq_getElem hi]
      exact hxs.at_ (List.getElem?_eq_getElem hi) (List.getElem?_eq_getElem i.isLt)
    · exact each_vec ⟨0, 0, [], 4, p, 0, 0, 0, none, depthL xs, nodesL xs⟩ vs S fd env J w rfl hr (by omega) hS he hJ h0 hdo
  · omega
end Go.Proofs.YtfcegalckjeafaaGreatDoor
namespace Go.Proofs.YtfcegalckjeafaaGreatDoor
open Go.RowKit Go.BigFrame Go.Shelf
/-- What comes of an address's rest: (tree, code, place). -/
def chgL (d : T → List St → T × Int) (last : Nat) : T → List St → Nat → T × Int × Nat
  | x, [], n => if (d x []).2 = 0 then ((d x []).1, 0, 0) else (T.z, (d x []).2, n)
  | x, s :: l, n => if (s :: l).length ≤ last then (if (d x (s :: l)).2 = 0 then ((d x (s :: l)).1, 0, 0) else (T.z, (d x (s :: l)).2, n)) else
    if (getT x s).2 ≠ 0 then (T.z, (getT x s).2, n) else if x.k = 6 then (T.z, 12, n) else
    if (chgL d last (getT x s).1 l (n + 1)).2.1 ≠ 0 then (T.z, (chgL d last (getT x s).1 l (n + 1)).2) else
    if (setT x s (chgL d last (getT x s).1 l (n + 1)).1).2 = 0 then ((setT x s (chgL d last (getT x s).1 l (n + 1)).1).1, 0, 0) else (T.z, (setT x s (chgL d last (getT x s).1 l (n + 1)).1).2, n)
theorem chg_end (d : T → List St → T × Int) (last : Nat) (x : T) (l : List St) (n : Nat) (h : l.length ≤ last) : chgL d last x l n = if (d x l).2 = 0 then ((d x l).1, 0, 0) else (T.z, (d x l).2, n) := by
  cases l with
  | nil => rw [chgL]
  | cons s l => rw [chgL, if_pos h]
theorem StepsIn.drop_ {w : World} {A : Option Addr} {l : List St} (h : StepsIn w A l) (n : Nat) : StepsIn w (A.map (·.add (n * 3))) (l.drop n) := fun h0 => by
  rw [List.length_drop] at h0
  obtain ⟨ad, rfl, hb, hc⟩ := h (by omega)
  refine ⟨ad.add (n * 3), rfl, by rw [block_of_add]; exact hb, fun k o ho => ?_⟩
  rw [List.getElem?_drop] at ho
  have := hc (n + k) o ho
  rwa [show (n + k) * 3 = n * 3 + k * 3 by omega, ← add_of_add] at this
/-- What is done at the end of an address. -/
def DoOk (P : T → Prop) (d : T → List St → T × Int) (last fd : Nat) (env : Array Value) (w0 : World) (S : Nat → Prop) : Prop := ∀ W, Below w0.heap.size w0 W → ∀ (x : T) (v : V) (A : Option Addr) (l : List St) (c : Nat), P x → IsV W S x v → StepsIn W A l → (∀ s ∈ l, s.T.length ≤ 100000) → l.length ≤ last → Calls Tryz.prog fd (#[v.a, .slice A l.length c] ++ env) W (SetOut W S (d x l))
set_option maxRecDepth 100000 in
set_option maxHeartbeats 4000000 in
theorem change_end {P : T → Prop} (d : T → List St → T × Int) (x : T) (v : V) (A : Option Addr) (l : List St) (m c n last fd : Nat) (env : Array Value) (S : Nat → Prop) (w0 w : World) (hS : ∀ k, S k → k < w0.heap.size) (hw0 : Below w0.heap.size w0 w) (hx : P x) (hv : IsV w S x v) (hA : A = none → c = 0) (hm : n + m ≤ c) (hc : n + m ≤ 1000000) (hlen : l.length = m) (hl : m ≤ last) (hL : StepsIn w (A.map (·.add (n * 3))) l) (hts : ∀ s ∈ l, s.T.length ≤ 100000)
    (he : ∀ args w, (callFunc fd args).run Tryz.prog w = .ok (.enter fd args) w)
    (hd : DoOk P d last fd env w0 S) :
    Calls Tryz.prog 67 #[v.a, .slice A (n + m) c, .int .i64 n, .int .i64 last, .func (.func fd) #[] env] w (ToldOut w S (chgL d last x l n)) := by
  obtain ⟨R, hR⟩ : ∃ R, R = chgL d last x l n := ⟨_, rfl⟩
  rw [← hR]
  have h1 : (0 : Int) ≤ (n : Int) := by omega
  have h2 : (n : Int) ≤ ((n + m : Nat) : Int) := by omega
  have h3 : ((n + m : Nat) : Int) ≤ (c : Int) := by omega
  have h4 : (m : Int) ≤ (last : Int) := by omega
  have h5 : (n : Int) ≤ (c : Int) := by omega
  have HD := Lib.hid hd
  have HX := Lib.hid hx
  have HVV := Lib.hid hv
  have HW0 := Lib.hid hw0
  have HSB := Lib.hid hS
  have HTS := Lib.hid hts
  have HR := Lib.hid hR
  have HLL := Lib.hid hlen
  clear hd hx hv hw0 hS hts hR
  simp only [V.a]
  by_cases hcn : c = n
  · subst hcn
    obtain rfl : m = 0 := by omega
    have hl0 : l = [] := List.length_eq_zero_iff.1 hlen
    subst hl0
    have HL : Hid (StepsIn w A []) := Lib.hid (fun h => absurd h (Nat.lt_irrefl 0))
    clear hL hlen
    go_enter Tryz.func67, Tryz.ntmps67
    go_wp2_with fail
    refine calls_at fun W hW => ?_
    obtain ⟨hB, hz, HV, HO⟩ := boxes2 (t2 := 42) (c2 := V.z.l.toArray) hW
    have HZ := Lib.hid hz
    clear hW
    have hcl := HD.out W (HW0.out.trans (hB.mono HW0.out.size)) x v A ([] : List St) 0 HX.out (HVV.out.keeps (.of_below hB)) (HL.out.below hB) HTS.out (Nat.zero_le _)
    simp only [List.length_nil] at hcl
    simp only [V.a] at hcl
    refine hcl.mono ?_
    rintro e w2 ⟨u, rfl, hu, hb2⟩
    have KU := Lib.hid hu
    have KO := Lib.hid (HO.below hb2 HO.lt)
    have KB := Lib.hid (hB.trans (hb2.mono hB.size))
    have hz2 := hb2.size
    clear HV HO hB hu hb2 HD HL hcl
    simp only [V.a]
    go_wp2_with (first
      | (refine wpList_stE (E := eV) (o := ⟨none, .store 42 (.tmp 13) _, _, _, _, _⟩) rfl rfl infoV11 rfl u (Blk.new w2 42 V.z.l.toArray) rfl rfl ?_; intro w3 HR3 ho3 hB3; have hb3 := hB3 _ _ ((Below.refl w2.heap.size w2).alloc (Nat.le_refl _) (.cells V.z.l.toArray 42)) (Nat.le_refl _))
      | (refine wpList_ldl rfl (o := ⟨some 34, _, _, _, _, _⟩) rfl rfl u.l isV (fun j u' hu => by have := Blk.cell HR3.out j; rw [at_zero, this]; simpa using (show (eV.l u)[j]? = some u' from hu)) ?_)
      | fail)
    have KU3 := Lib.hid (KU.out.keeps (.of_below hb3))
    have KO3 := Lib.hid (KO.out.below hb3 KO.out.lt)
    have KB3 := Lib.hid (KB.out.trans (hb3.mono KB.out.size))
    have hz3 := hb3.size
    clear hb3 hB3 ho3 HR3 KU KO KB
    refine (told_any u (d x ([] : List St)).1 (d x ([] : List St)).2 c _ w3 KU3.out).mono ?_
    rintro e w4 ⟨u', x', rfl, hu', hx', hb4⟩
    have KU4 := Lib.hid hu'
    have KX4 := Lib.hid hx'
    have KO4 := Lib.hid (KO3.out.below hb4 KO3.out.lt)
    have KB4 := Lib.hid (KB3.out.trans (hb4.mono KB3.out.size))
    clear hu' hx' hb4 KU3 KO3 KB3
    simp only [V.a]
    go_wp2_with (first
      | (refine wpList_stE (E := eV) rfl rfl infoV11 rfl u' KO4.out rfl rfl ?_; intro w8 HR8 ho8 hB8)
      | fail)
    refine ret_ct (p := 10) (u := 11) rfl rfl rfl HR8.out (by kernel_rfl) rfl ?_
    have HRR := HR.out
    rw [show chgL d last x ([] : List St) c = _ from chg_end d last x ([] : List St) c (Nat.zero_le _)] at HRR
    rw [HRR]
    exact ⟨u', x', rfl, (KU4.out.keeps (w' := w8) (fun k hk hs => ho8 k (by have := HZ.out; have := HSB.out k; have := HW0.out.size; rcases hs with (h | h) | h; have := HSB.out k h; omega; omega; omega))).more (fun k h => by have := HZ.out; rcases h with (h | h) | h; exact .inl h; exact .inr (by omega); exact .inr (by omega)), KX4.out.imp_right fun h => h.far_ ho8 KO4.out (by decide), hB8 _ _ KB4.out (by omega)⟩
  · cases A with
    | none => exact absurd (hA rfl) (by omega)
    | some ad =>
    have HL : Hid (StepsIn w (some (ad.add (n * 3))) l) := Lib.hid hL
    have h6 : n + m - n = m := by omega
    clear hL hlen hA
    go_enter Tryz.func67, Tryz.ntmps67
    go_wp2_with fail
    refine calls_at fun W hW => ?_
    obtain ⟨hB, hz, HV, HO⟩ := boxes2 (t2 := 42) (c2 := V.z.l.toArray) hW
    have HZ := Lib.hid hz
    clear hW
    have hcl := HD.out W (HW0.out.trans (hB.mono HW0.out.size)) x v (some (ad.add (n * 3))) l (c - n) HX.out (HVV.out.keeps (.of_below hB)) (HL.out.below hB) HTS.out (by have := HLL.out; omega)
    rw [HLL.out] at hcl
    simp only [V.a] at hcl
    refine hcl.mono ?_
    rintro e w2 ⟨u, rfl, hu, hb2⟩
    have KU := Lib.hid hu
    have KO := Lib.hid (HO.below hb2 HO.lt)
    have KB := Lib.hid (hB.trans (hb2.mono hB.size))
    have hz2 := hb2.size
    clear HV HO hB hu hb2 HD HL hcl
    simp only [V.a]
    go_wp2_with (first
      | (refine wpList_stE (E := eV) (o := ⟨none, .store 42 (.tmp 13) _, _, _, _, _⟩) rfl rfl infoV11 rfl u (Blk.new w2 42 V.z.l.toArray) rfl rfl ?_; intro w3 HR3 ho3 hB3; have hb3 := hB3 _ _ ((Below.refl w2.heap.size w2).alloc (Nat.le_refl _) (.cells V.z.l.toArray 42)) (Nat.le_refl _))
      | (refine wpList_ldl rfl (o := ⟨some 34, _, _, _, _, _⟩) rfl rfl u.l isV (fun j u' hu => by have := Blk.cell HR3.out j; rw [at_zero, this]; simpa using (show (eV.l u)[j]? = some u' from hu)) ?_)
      | fail)
    have KU3 := Lib.hid (KU.out.keeps (.of_below hb3))
    have KO3 := Lib.hid (KO.out.below hb3 KO.out.lt)
    have KB3 := Lib.hid (KB.out.trans (hb3.mono KB.out.size))
    have hz3 := hb3.size
    clear hb3 hB3 ho3 HR3 KU KO KB
    refine (told_any u (d x l).1 (d x l).2 n _ w3 KU3.out).mono ?_
    rintro e w4 ⟨u', x', rfl, hu', hx', hb4⟩
    have KU4 := Lib.hid hu'
    have KX4 := Lib.hid hx'
    have KO4 := Lib.hid (KO3.out.below hb4 KO3.out.lt)
    have KB4 := Lib.hid (KB3.out.trans (hb4.mono KB3.out.size))
    clear hu' hx' hb4 KU3 KO3 KB3
    simp only [V.a]
    go_wp2_with (first
      | (refine wpList_stE (E := eV) rfl rfl infoV11 rfl u' KO4.out rfl rfl ?_; intro w8 HR8 ho8 hB8)
      | fail)
    refine ret_ct (p := 10) (u := 11) rfl rfl rfl HR8.out (by kernel_rfl) rfl ?_
    have HRR := HR.out
    rw [show chgL d last x l n = _ from chg_end d last x l n (by have := HLL.out; omega)] at HRR
    rw [HRR]
    exact ⟨u', x', rfl, (KU4.out.keeps (w' := w8) (fun k hk hs => ho8 k (by have := HZ.out; have := HSB.out k; have := HW0.out.size; rcases hs with (h | h) | h; have := HSB.out k h; omega; omega; omega))).more (fun k h => by have := HZ.out; rcases h with (h | h) | h; exact .inl h; exact .inr (by omega); exact .inr (by omega)), KX4.out.imp_right fun h => h.far_ ho8 KO4.out (by decide), hB8 _ _ KB4.out (by omega)⟩
end Go.Proofs.YtfcegalckjeafaaGreatDoor
