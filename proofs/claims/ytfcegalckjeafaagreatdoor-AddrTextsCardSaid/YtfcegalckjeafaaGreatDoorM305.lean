/-
  Parts of the proof that AddrBegins,AddrTexts calls on: Te, HeadTail, Ro, Rp, St.
-/
import Derived.Deep.RegionHeld3
import Derived.OrdersHeld
import Derived.StillTail
import Derived.Test.YtfcegalckjeafaaGreatDoorM304
namespace Go.Proofs.YtfcegalckjeafaaGreatDoor
open Go.RowKit Go.BigFrame
/-- Two digits: their byte and where they end; or why not. -/
def pairL : List UInt8 → Nat → (UInt8 × Nat) ⊕ (Nat × Int)
  | [], p => .inr (p, 10)
  | a :: t, p => match hexv a with
    | none => .inr (p, 2)
    | some m => match t with
      | [] => .inr (p + 1, 10)
      | b :: _ => match hexv b with
        | none => .inr (p + 1, 2)
        | some n => .inl (UInt8.ofNat (16 * m + n), p + 2)
def pairR : (UInt8 × Nat) ⊕ (Nat × Int) → Value
  | .inl r => .tuple #[bv r.1, .int .i64 r.2, .int .i64 0]
  | .inr r => .tuple #[.int .u8 0, .int .i64 r.1, .int .i64 r.2]
theorem hexv_lt {c : UInt8} {m : Nat} (h : hexv c = some m) : m < 16 := by
  unfold hexv at h
  split at h
  · cases h; omega
  split at h
  · cases h; omega
  split at h
  · cases h; omega
  · cases h
theorem or16 : ∀ m n : Fin 16, bits .or .u8 ((m.val : Int) * 16 % 256) (n.val : Int) = ((16 * m.val + n.val : Nat) : Int) := by decide +kernel
theorem hexR_none {c : UInt8} (h : hexv c = none) : hexR c = .tuple #[.int .u8 0, .bool false] := by rw [hexR, h]
theorem hexR_some {c : UInt8} {m : Nat} (h : hexv c = some m) : hexR c = .tuple #[.int .u8 m, .bool true] := by rw [hexR, h]
set_option maxRecDepth 100000 in
set_option maxHeartbeats 4000000 in
theorem pair_any (s : ByteArray) (p : Nat) (w : World) (hp : p ≤ s.size) (hs : s.size ≤ 16777216) : Calls Tryz.prog 181 #[.string s, .int .i64 p] w (VOut w (pairR (pairL ((bytes s).drop p) p))) := by
  unfold VOut
  obtain ⟨R, hR⟩ : ∃ R, R = pairR (pairL ((bytes s).drop p) p) := ⟨_, rfl⟩
  rw [← hR]
  by_cases h1 : p < s.size
  · rw [bytes_drop s p h1] at hR
    have HE := Lib.hid (fun W => either_any s[p] W)
    have hi1 : (p : Int) < (s.size : Int) := by omega
    have hg1 : s[p] = s[p] := rfl
    cases ha : hexv s[p] with
    | none =>
      obtain rfl : R = .tuple #[.int .u8 0, .int .i64 p, .int .i64 2] := by rw [hR, pairL, ha]; rfl
      rw [hexR_none ha] at HE
      simp only [bv] at HE
      clear hR ha
      go_enter Tryz.func181, Tryz.ntmps181
      go_wp2
      refine wp_loop_rounds 1 ?_
      rw [rounds_succ]
      go_wp2_with fail
      refine (HE.out _).mono ?_
      rintro e w1 ⟨rfl, rfl⟩
      go_wp2
      go_ret3
      exact ⟨rfl, rfl⟩
    | some m =>
      have hm := hexv_lt ha
      rw [hexR_some ha] at HE
      simp only [bv] at HE
      have o1 : bits .or .u8 0 (m : Int) = (m : Int) := by simpa using or16 ⟨0, by omega⟩ ⟨m, hm⟩
      by_cases h2 : p + 1 < s.size
      · have HF := Lib.hid (fun W => either_any s[p + 1] W)
        have hi2 : (p : Int) + 1 < (s.size : Int) := by omega
        rw [bytes_drop s (p + 1) h2] at hR
        cases hb : hexv s[p + 1] with
        | none =>
          obtain rfl : R = .tuple #[.int .u8 0, .int .i64 ((p + 1 : Nat) : Int), .int .i64 2] := by rw [hR]; simp only [pairL, ha, hb]; rfl
          rw [hexR_none hb] at HF
          simp only [bv] at HF
          clear hR ha hb
          go_enter Tryz.func181, Tryz.ntmps181
          go_wp2
          refine wp_loop_rounds 2 ?_
          rw [rounds_succ]
          go_wp2_with fail
          refine (HE.out _).mono ?_
          rintro e w1 ⟨rfl, rfl⟩
          go_wp2
          rw [rounds_succ]
          go_wp2_with fail
          refine (HF.out _).mono ?_
          rintro e w1 ⟨rfl, rfl⟩
          go_wp2
          go_ret3
          exact ⟨rfl, rfl⟩
        | some n =>
          have hn := hexv_lt hb
          have o2 : bits .or .u8 ((m : Int) * 16) (n : Int) = ((16 * m + n : Nat) : Int) := by have := or16 ⟨m, hm⟩ ⟨n, hn⟩; rwa [show ((⟨m, hm⟩ : Fin 16).val : Int) * 16 % 256 = (m : Int) * 16 by show (m : Int) * 16 % 256 = _; omega] at this
          obtain rfl : R = .tuple #[.int .u8 ((16 * m + n : Nat) : Int), .int .i64 ((p + 2 : Nat) : Int), .int .i64 0] := by
            rw [hR]
            simp only [pairL, ha, hb, pairR, bv]
            rw [UInt8.toNat_ofNat_of_lt' (by simp [UInt8.size]; omega)]
          rw [hexR_some hb] at HF
          simp only [bv] at HF
          clear hR ha hb
          go_enter Tryz.func181, Tryz.ntmps181
          go_wp2
          refine wp_loop_rounds 3 ?_
          rw [rounds_succ]
          go_wp2_with fail
          refine (HE.out _).mono ?_
          rintro e w1 ⟨rfl, rfl⟩
          go_wp2
          rw [rounds_succ]
          go_wp2_with fail
          refine (HF.out _).mono ?_
          rintro e w1 ⟨rfl, rfl⟩
          go_wp2
          rw [rounds_succ]
          go_wp2
          go_ret3
          exact ⟨rfl, rfl⟩
      · have he : (bytes s).drop (p + 1) = [] := List.drop_of_length_le (by rw [bytes_len]; omega)
        have hz : (s.size : Int) = (p : Int) + 1 := by omega
        have hi2 : ¬ ((p : Int) + 1 < (s.size : Int)) := by omega
        obtain rfl : R = .tuple #[.int .u8 0, .int .i64 ((p + 1 : Nat) : Int), .int .i64 10] := by rw [hR, he]; simp only [pairL, ha]; rfl
        clear hR ha he
        go_enter Tryz.func181, Tryz.ntmps181
        go_wp2
        refine wp_loop_rounds 2 ?_
        rw [rounds_succ]
        go_wp2_with fail
        refine (HE.out _).mono ?_
        rintro e w1 ⟨rfl, rfl⟩
        go_wp2
        rw [rounds_succ]
        go_wp2
        go_ret3
        exact ⟨rfl, rfl⟩
  · have he : (bytes s).drop p = [] := List.drop_of_length_le (by rw [bytes_len]; omega)
    have hz : s.size = p := by omega
    obtain rfl : R = .tuple #[.int .u8 0, .int .i64 p, .int .i64 10] := by rw [hR, he]; rfl
    clear hR he
    go_enter Tryz.func181, Tryz.ntmps181
    go_wp2
    refine wp_loop_rounds 1 ?_
    rw [rounds_succ]
    go_wp2
    go_ret3
    first | exact ⟨rfl, rfl⟩ | exact ⟨by rw [← hz]; rfl, rfl⟩
end Go.Proofs.YtfcegalckjeafaaGreatDoor
namespace Go.Proofs.YtfcegalckjeafaaGreatDoor
open Go
section
variable {P : Program} {ops : Array Oper} {Q : Exit → Act → World → Prop} {md : Region.Mode} {S : World → Prop} {T : Act → World → Prop} {n g : Nat}
def wpAnyT (P : Program) (md : Region.Mode) (ops : Array Oper) (Q : Exit → Act → World → Prop) (S : World → Prop) (n g : Nat) (T : Act → World → Prop) : Nat → Array Bool → Act → World → Prop
  | 0, listed, a, w => Region.seqB md ops g n listed = true ∧ T a w
  | fuel + 1, listed, a, w =>
    Region.ready md ops listed ≠ [] ∧
    ∀ i ∈ Region.ready md ops listed, i < n ∧ wpOp P ops Q i (fun a' w' => S w' ∧ wpAnyT P md ops Q S n g T fuel (listed.setIfInBounds i true) a' w') a w
theorem wpAny_of_T (hT : ∀ listed a w, Region.seqB md ops g n listed = true → T a w → wpAny P md ops Q g listed a w) :
    ∀ (f : Nat) (listed : Array Bool) (a : Act) (w : World), wpAnyT P md ops Q S n g T f listed a w → wpAny P md ops Q (f + g) listed a w
  | 0, listed, a, w, h => by rw [Nat.zero_add]; exact hT _ _ _ h.1 h.2
  | f + 1, listed, a, w, h => by
    rw [show f + 1 + g = (f + g) + 1 by omega]
    exact ⟨fun h0 => absurd h0 h.1, fun i hi => wpOp_mono (fun a' w' h' => wpAny_of_T hT f _ a' w' h'.2) (h.2 i hi).2⟩
theorem wpAnyT_first {i : Nat} {oi : Oper} {v : Value} (hi : ops[i]? = some oi) (hsel : ∀ (j : Nat) (o : Oper) cs b, ops[j]? = some o → o.op ≠ .select cs b)
    (hs : Region.sinkB md ops n = true) (hc : Region.chainB md ops n = true) (hn : n < ops.size) (hin : i < n)
    (hQ : ∀ c a w, Q (.panic c) (a.put oi.dst v) w → Q (.panic c) a w) :
    ∀ (fuel : Nat) (listed : Array Bool) (a : Act) (w : World), HeadInv md ops n listed →
      (∀ j oj, ops[j]? = some oj → j ≠ i → listed.getD j true = false → (∀ e ∈ oj.after, Region.binds md e = true → e.on ≠ i) → oi.apart ops oj = true) →
      i ∈ Region.ready md ops listed → YieldsIf P ops S oi v a → S w →
      wpAnyT P md ops Q S n g T fuel (listed.setIfInBounds i true) (a.put oi.dst v) w → wpAnyT P md ops Q S n g T (fuel + 1) listed a w := by
  intro fuel
  induction fuel with
  | zero =>
    intro listed a w inv _ hr hy hS H
    have hun := (mem_ready.1 hr).1
    refine ⟨fun h => (by rw [h] at hr; cases hr), fun j hj => ?_⟩
    have hjn : j < n := by
      rcases Nat.lt_or_ge j n with h | h
      · exact h
      · exact absurd hj (tail_waits hs hc hn inv _ i rfl hin hun j h)
    refine ⟨hjn, ?_⟩
    by_cases hji : j = i
    · subst hji; exact hy.wpOp hi hS ⟨hS, H⟩
    · have := seqB_ready H.1 j (ready_mono hj hji)
      omega
  | succ fuel ih =>
    intro listed a w inv hfree hr hy hS H
    have hun := (mem_ready.1 hr).1
    refine ⟨fun h => (by rw [h] at hr; cases hr), fun j hj => ?_⟩
    have hjn : j < n := by
      rcases Nat.lt_or_ge j n with h | h
      · exact h
      · exact absurd hj (tail_waits hs hc hn inv _ i rfl hin hun j h)
    refine ⟨hjn, ?_⟩
    by_cases hji : j = i
    · subst hji; exact hy.wpOp hi hS ⟨hS, H⟩
    · have h1 := (H.2 j (ready_mono hj hji)).2
      obtain ⟨hjun, oj, hoj, hall⟩ := mem_ready.1 hj
      have hnot : ∀ e ∈ oj.after, Region.binds md e = true → e.on ≠ i := fun e he hb heq => by
        have h1 := hall e he hb
        rw [heq, getD_both hun] at h1
        cases h1
      have h2 := wpOp_putIf hoj (hfree j oj hoj hji hjun hnot) (fun cs b => hsel i oi cs b hi) (fun cs b => hsel j oj cs b hoj) hQ hy h1
      have hfree' : ∀ k ok, ops[k]? = some ok → k ≠ i → (listed.setIfInBounds j true).getD k true = false →
          (∀ e ∈ ok.after, Region.binds md e = true → e.on ≠ i) → oi.apart ops ok = true := fun k ok hk hki hun hno => by
        refine hfree k ok hk hki ?_ hno
        by_cases hjk : j = k
        · subst hjk; exact hjun
        · rw [getD_set_ne true hjk] at hun; exact hun
      refine wpOp_mono (fun a' w' h3 => ⟨h3.2.1, ih (listed.setIfInBounds j true) a' w' (inv.set hj hjn) hfree' (ready_mono hr (Ne.symm hji)) h3.1 h3.2.1 ?_⟩) h2
      rw [Array.setIfInBounds_comm _ _ hji]
      exact h3.2.2
/-- What is fixed of the region. -/
def htB (md : Region.Mode) (ops : Array Oper) (n : Nat) : Bool := Region.noSelect ops && decide (n < ops.size) && Region.sinkB md ops n && Region.chainB md ops n
/-- What of the head has come up is closed; nothing of the tail has. -/
def headB (md : Region.Mode) (ops : Array Oper) (n : Nat) (listed : Array Bool) : Bool :=
  decide (listed.size = ops.size) && (List.range ops.size).all (fun j => !listed.getD j false || ((ops[j]?).map (·.after.all fun e => !Region.binds md e || listed.getD e.on false)).getD true) &&
    (List.range ops.size).all fun t => decide (t < n) || !listed.getD t true
theorem headB_inv {listed : Array Bool} (h : headB md ops n listed = true) : HeadInv md ops n listed := by
  simp only [headB, Bool.and_eq_true, decide_eq_true_eq] at h
  obtain ⟨⟨h1, h2⟩, h3⟩ := h
  refine ⟨h1, fun j oj hj hl e he hb => ?_, fun t ht ht' => ?_⟩
  · have hjs := (Array.getElem?_eq_some_iff.1 hj).1
    have := List.all_eq_true.1 h2 j (List.mem_range.2 hjs)
    rw [hl, hj] at this
    simp only [Bool.not_true, Bool.false_or, Option.map_some, Option.getD_some] at this
    have := Array.all_eq_true'.1 this e he
    rw [hb] at this
    simpa using this
  · have := List.all_eq_true.1 h3 t (List.mem_range.2 ht')
    simp only [Bool.or_eq_true, decide_eq_true_eq, Bool.not_eq_true'] at this
    rcases this with h | h
    · omega
    · exact h
def takeB (md : Region.Mode) (ops : Array Oper) (n : Nat) (listed : Array Bool) (i : Nat) : Bool :=
  Region.free md ops listed i && (Region.ready md ops listed).contains i && headB md ops n listed && decide (i < n)
/-- Take number 'i' first. -/
theorem wpAnyT_take (i : Nat) {oi : Oper} {v : Value} {fuel : Nat} {listed : Array Bool} {a : Act} {w : World} (hst : htB md ops n = true) (hi : ops[i]? = some oi)
    (ht : takeB md ops n listed i = true)
    (hQ : ∀ c a w, Q (.panic c) (a.put oi.dst v) w → Q (.panic c) a w) (hy : YieldsIf P ops S oi v a) (hS : S w)
    (h : wpAnyT P md ops Q S n g T fuel (listed.setIfInBounds i true) (a.put oi.dst v) w) : wpAnyT P md ops Q S n g T (fuel + 1) listed a w := by
  simp only [htB, takeB, Bool.and_eq_true, decide_eq_true_eq] at hst ht
  exact wpAnyT_first hi (Region.noSelect_spec hst.1.1.1) hst.1.2 hst.2 hst.1.1.2 ht.2 hQ fuel listed a w (headB_inv ht.1.2) (Region.free_spec hi ht.1.1.1) (by simpa using ht.1.1.2) hy hS h
/-- One that comes up alone is carried out. -/
theorem wpAnyT_one (i : Nat) {o : Oper} {fuel : Nat} {listed : Array Bool} {a : Act} {w : World} (hr : Region.ready md ops listed = [i]) (hin : decide (i < n) = true) (ho : ops[i]? = some o)
    (h : ∀ K' : Act → World → Prop, Shut (∀ a w, S w → (S w → wpAnyT P md ops Q S n g T fuel (listed.setIfInBounds i true) a w) → K' a w) → if Region.wanted o (yielded ops a.tmps) = true then Oper.wp P o a w K' Q else K' (a.put o.dst undef) w) :
    wpAnyT P md ops Q S n g T (fuel + 1) listed a w := by
  refine ⟨by rw [hr]; simp, fun j hj => ?_⟩
  rw [hr] at hj
  obtain rfl : j = i := by simpa using hj
  exact ⟨by simpa using hin, wpOp_step ho (fun K' hK => h K' (fun a w hS hW => hK a w ⟨hS, hW hS⟩))⟩
/-- Two that may come up, in either order. -/
theorem wpAnyT_two (i j : Nat) {o o' : Oper} {fuel : Nat} {listed : Array Bool} {a : Act} {w : World} (hr : Region.ready md ops listed = [i, j]) (hin : (decide (i < n) && decide (j < n)) = true) (ho : ops[i]? = some o) (ho' : ops[j]? = some o')
    (h : ∀ K' : Act → World → Prop, Shut (∀ a w, S w → (S w → wpAnyT P md ops Q S n g T fuel (listed.setIfInBounds i true) a w) → K' a w) → if Region.wanted o (yielded ops a.tmps) = true then Oper.wp P o a w K' Q else K' (a.put o.dst undef) w)
    (h' : ∀ K' : Act → World → Prop, Shut (∀ a w, S w → (S w → wpAnyT P md ops Q S n g T fuel (listed.setIfInBounds j true) a w) → K' a w) → if Region.wanted o' (yielded ops a.tmps) = true then Oper.wp P o' a w K' Q else K' (a.put o'.dst undef) w) :
    wpAnyT P md ops Q S n g T (fuel + 1) listed a w := by
  refine ⟨by rw [hr]; simp, fun k hk => ?_⟩
  simp only [Bool.and_eq_true, decide_eq_true_eq] at hin
  rw [hr] at hk
  simp only [List.mem_cons, List.not_mem_nil, or_false] at hk
  rcases hk with rfl | rfl
  · exact ⟨hin.1, wpOp_step ho (fun K' hK => h K' (fun a w hS hW => hK a w ⟨hS, hW hS⟩))⟩
  · exact ⟨hin.2, wpOp_step ho' (fun K' hK => h' K' (fun a w hS hW => hK a w ⟨hS, hW hS⟩))⟩
theorem wpAnyT_done {listed : Array Bool} {a : Act} {w : World} (hB : Region.seqB md ops g n listed = true) (h : T a w) : wpAnyT P md ops Q S n g T 0 listed a w := ⟨hB, h⟩
/-- The beginning. -/
theorem wp_region_ht {id : Nat} {l : List Oper} {a : Act} {w : World} (n : Nat) (S : World → Prop) (hm : P.follows .mixedOrders = true) (hst : htB .any l.toArray n = true) (hS : S w.drew)
    (h : htB .any l.toArray n = true → S w.drew → wpAnyT P .any l.toArray Q S n (l.length - n) (fun a w => wpList P l.toArray Q (l.drop n) a w) n (Array.replicate l.length false) a w.drew) : (Code.region id l.toArray true).wp P Q a w := by
  refine wp_region_any hm ?_
  have hn : n < l.length := by
    simp only [htB, Bool.and_eq_true, decide_eq_true_eq] at hst
    simpa using hst.1.1.2
  have := wpAny_of_T (Q := Q) (g := l.length - n) (fun listed a w hB hT => by
    have := wpAny_of_seq (md := .any) (Q' := Q) (l.drop n) n listed a w (fun j => by simp [List.getElem?_drop]) (by simpa using hB) hT
    simpa using this) _ _ _ _ (h hst hS)
  rw [show n + (l.length - n) = l.toArray.size by simp; omega] at this
  simpa using this
end
end Go.Proofs.YtfcegalckjeafaaGreatDoor
namespace Go.Proofs.YtfcegalckjeafaaGreatDoor
open Go.RowKit Go.BigFrame
set_option maxHeartbeats 1000000 in
theorem bothV (A1 A2 : Option Addr) (n1 n2 c1 c2 : Nat) (xs ys : List V) (S S' : Nat → Prop) (w : World) (hx : Reads w S 11 A1 n1 (flat xs)) (hy : Reads w S' 11 A2 n2 (flat ys)) (hn : n1 + n2 ≤ 65536) :
    Calls Tryz.prog 180 #[.slice A1 n1 c1, .slice A2 n2 c2] w (NewOut w 42 11 (n1 + n2) (flat (xs ++ ys))) := by
  have HX := Lib.hid hx
  have HY := Lib.hid hy
  clear hx hy
  go_enter Tryz.func180, Tryz.ntmps180
  go_wp2_with (first | (at_make; refine wpList_mk elV rfl rfl (n1 + n2) rfl rfl (by omega) (by omega) (by decide) ?_; intro w1 HO HB HG) | (at_builtin; refine wpList_app elV (o := ⟨some 14, _, _, _, _, _⟩) rfl rfl HO.out rfl HB.out (HX.out.keeps (.of_below HB.out)) rfl (flat_one _) (by omega) (by decide) HB.out.size ?_; intro v2 w2 HO2 HB2 HG2) | (at_builtin; refine wpList_app elV (o := ⟨some 16, _, _, _, _, _⟩) rfl rfl HO2.out rfl HB2.out (HY.out.keeps (.of_below HB2.out)) rfl (flat_one _) (by omega) (by decide) HB2.out.size ?_; intro v3 w3 HO3 HB3 HG3))
  go_ret
  exact ⟨_, rfl, by simpa [flat_app] using HO3.out, HB3.out⟩
set_option maxHeartbeats 1000000 in
theorem bothP (A1 A2 : Option Addr) (n1 n2 c1 c2 : Nat) (xs ys : List (Option Addr)) (S S' : Nat → Prop) (w : World) (hx : Reads w S 1 A1 n1 (xs.map .pointer)) (hy : Reads w S' 1 A2 n2 (ys.map .pointer)) (hn : n1 + n2 ≤ 65536) :
    Calls Tryz.prog 197 #[.slice A1 n1 c1, .slice A2 n2 c2] w (NewOut w 35 1 (n1 + n2) ((xs ++ ys).map .pointer)) := by
  have HX := Lib.hid hx
  have HY := Lib.hid hy
  have h1 : ∀ (l : List (Option Addr)), ∀ u ∈ l.map Value.pointer, u.oneCell' = true := fun l u hu => by obtain ⟨x, _, rfl⟩ := List.mem_map.1 hu; rfl
  clear hx hy
  go_enter Tryz.func197, Tryz.ntmps197
  go_wp2_with (first | (at_make; refine wpList_mk elP rfl rfl (n1 + n2) rfl rfl (by omega) (by omega) (by decide) ?_; intro w1 HO HB HG) | (at_builtin; refine wpList_app elP (o := ⟨some 14, _, _, _, _, _⟩) rfl rfl HO.out rfl HB.out (HX.out.keeps (.of_below HB.out)) rfl (h1 _) (by omega) (by decide) HB.out.size ?_; intro v2 w2 HO2 HB2 HG2) | (at_builtin; refine wpList_app elP (o := ⟨some 16, _, _, _, _, _⟩) rfl rfl HO2.out rfl HB2.out (HY.out.keeps (.of_below HB2.out)) rfl (h1 _) (by omega) (by decide) HB2.out.size ?_; intro v3 w3 HO3 HB3 HG3))
  go_ret
  exact ⟨_, rfl, by simpa using HO3.out, HB3.out⟩
theorem copyV (A : Option Addr) (n c : Nat) (xs : List V) (S : Nat → Prop) (w : World) (hx : Reads w S 11 A n (flat xs)) (hn : n ≤ 65536) :
    Calls Tryz.prog 180 #[.slice A n c, .slice none 0 0] w (NewOut w 42 11 n (flat xs)) := by
  have := bothV A none n 0 c 0 xs [] S S w hx Reads.none_ (by omega)
  simpa using this
theorem copyP (A : Option Addr) (n c : Nat) (xs : List (Option Addr)) (S : Nat → Prop) (w : World) (hx : Reads w S 1 A n (xs.map .pointer)) (hn : n ≤ 65536) :
    Calls Tryz.prog 197 #[.slice A n c, .slice none 0 0] w (NewOut w 35 1 n (xs.map .pointer)) := by
  have := bothP A none n 0 c 0 xs [] S S w hx Reads.none_ (by omega)
  simpa using this
end Go.Proofs.YtfcegalckjeafaaGreatDoor
namespace Go.Proofs.YtfcegalckjeafaaGreatDoor
open Go.RowKit Go.BigFrame
/-- Trees of a depth, by their pointers. -/
def Kids (w : World) (S : Nat → Prop) (d : Nat) (ks : List (List V)) (ps : List (Option Addr)) : Prop := ps.length = ks.length ∧ ∀ (i : Nat) (k : List V) (q : Option Addr), ks[i]? = some k → ps[i]? = some q → IsR w S d k q
def RootOut (w : World) (S : Nat → Prop) (d : Nat) (vs : List V) (e : Ending) (w' : World) : Prop := ∃ p, e = .returned (.pointer p) ∧ IsR w' (up S w.heap.size) d vs p ∧ Below w.heap.size w w'
def TreeOut (w : World) (S : Nat → Prop) (vs : List V) (e : Ending) (w' : World) : Prop := ∃ p, e = .returned (.pointer p) ∧ IsRope w' (up S w.heap.size) vs p ∧ Below w.heap.size w w'
section
variable {S S' : Nat → Prop} {w w' : World} {d : Nat} {ks ks' : List (List V)} {ps ps' : List (Option Addr)} {vs : List V} {p : Option Addr}
theorem Kids.keeps (h : Kids w S d ks ps) (hk : Keeps S w w') : Kids w' S d ks ps := ⟨h.1, fun i k q a b => (h.2 i k q a b).keeps hk⟩
theorem Kids.more (h : Kids w S d ks ps) (hS : ∀ k, S k → S' k) : Kids w S' d ks ps := ⟨h.1, fun i k q a b => (h.2 i k q a b).more hS⟩
theorem Kids.nil : Kids w S d [] [] := ⟨rfl, fun i k q h => by simp at h⟩
theorem Kids.one (h : IsR w S d vs p) : Kids w S d [vs] [p] := ⟨rfl, fun i k q a b => by
  cases i with
  | zero => simp at a b; subst a b; exact h
  | succ i => simp at a⟩
theorem Kids.app (h : Kids w S d ks ps) (h' : Kids w S d ks' ps') : Kids w S d (ks ++ ks') (ps ++ ps') := ⟨by simp [h.1, h'.1], fun i k q a b => by
  rw [List.getElem?_append] at a b
  rw [h.1] at b
  split at a
  · rw [if_pos ‹_›] at b; exact h.2 i k q a b
  · rw [if_neg ‹_›] at b; exact h'.2 _ k q a b⟩
theorem Kids.take (h : Kids w S d ks ps) (n : Nat) : Kids w S d (ks.take n) (ps.take n) := ⟨by simp [h.1], fun i k q a b => by
  rw [List.getElem?_take] at a b
  split at a
  · rw [if_pos ‹_›] at b; exact h.2 i k q a b
  · cases a⟩
theorem Kids.drop (h : Kids w S d ks ps) (n : Nat) : Kids w S d (ks.drop n) (ps.drop n) := ⟨by simp [h.1], fun i k q a b => by
  rw [List.getElem?_drop] at a b
  exact h.2 _ k q a b⟩
theorem Kids.at_ (h : Kids w S d ks ps) {i : Nat} (hi : i < ks.length) : ∃ q, ps[i]? = some q ∧ IsR w S d ks[i] q := by
  have : i < ps.length := by rw [h.1]; exact hi
  exact ⟨ps[i], List.getElem?_eq_getElem this, h.2 i _ _ (List.getElem?_eq_getElem hi) (List.getElem?_eq_getElem this)⟩
theorem IsR.head (h : IsR w S d vs p) : ∃ b u x, p = some ⟨b, 0, none⟩ ∧ S b ∧ Blk w b 217 #[.int .i64 (vs.length : Int), .int .i64 (d : Int), u, x] := by
  cases d with
  | zero => exact h.elim
  | succ d =>
    obtain ⟨b, A, c, e, hs, h⟩ := h
    rcases h with ⟨rfl, h1, _⟩ | ⟨h0, ks, ps, h1, h2, _⟩
    · exact ⟨b, _, _, e, hs, h1⟩
    · exact ⟨b, _, _, e, hs, h2⟩
theorem IsR.leaf (h : IsR w S 1 vs p) : ∃ b A c, p = some ⟨b, 0, none⟩ ∧ S b ∧ Blk w b 217 #[.int .i64 (vs.length : Int), .int .i64 1, .slice none 0 0, .slice A vs.length c] ∧ 1 ≤ vs.length ∧ vs.length ≤ 16 ∧ vs.length ≤ c ∧ Reads w S 11 A vs.length (flat vs) := by
  obtain ⟨b, A, c, e, hs, h⟩ := h
  rcases h with ⟨_, h1⟩ | ⟨h0, _⟩
  · exact ⟨b, A, c, e, hs, h1⟩
  · exact absurd h0 (Nat.lt_irrefl _)
theorem IsR.inner (h : IsR w S (d + 2) vs p) : ∃ b A c ks ps, p = some ⟨b, 0, none⟩ ∧ S b ∧ vs = ks.flatten ∧ Blk w b 217 #[.int .i64 (vs.length : Int), .int .i64 ((d + 2 : Nat) : Int), .slice A ks.length c, .slice none 0 0] ∧
      2 ≤ ks.length ∧ ks.length ≤ 16 ∧ ks.length ≤ c ∧ Reads w S 1 A ks.length (ps.map .pointer) ∧ Kids w S (d + 1) ks ps := by
  obtain ⟨b, A, c, e, hs, h⟩ := h
  rcases h with ⟨h0, _⟩ | ⟨h0, ks, ps, h1, h2, h3, h4, h5, h6, h7, h8⟩
  · exact absurd h0 (Nat.succ_ne_zero _)
  · exact ⟨b, A, c, ks, ps, e, hs, h1, h2, h3, h4, h5, h7, h6, h8⟩
theorem IsR.leaf_mk {b : Nat} {A : Option Addr} {c : Nat} (hs : S b) (h : Blk w b 217 #[.int .i64 (vs.length : Int), .int .i64 1, .slice none 0 0, .slice A vs.length c]) (h1 : 1 ≤ vs.length) (h2 : vs.length ≤ 16) (h3 : vs.length ≤ c) (hr : Reads w S 11 A vs.length (flat vs)) : IsR w S 1 vs (some ⟨b, 0, none⟩) :=
  ⟨b, A, c, rfl, hs, .inl ⟨rfl, h, h1, h2, h3, hr⟩⟩
theorem IsR.inner_mk {b : Nat} {A : Option Addr} {c : Nat} (hs : S b) (hd : 0 < d) (h : Blk w b 217 #[.int .i64 (ks.flatten.length : Int), .int .i64 ((d + 1 : Nat) : Int), .slice A ks.length c, .slice none 0 0])
    (h1 : 2 ≤ ks.length) (h2 : ks.length ≤ 16) (h3 : ks.length ≤ c) (hr : Reads w S 1 A ks.length (ps.map .pointer)) (hk : Kids w S d ks ps) : IsR w S (d + 1) ks.flatten (some ⟨b, 0, none⟩) :=
  ⟨b, A, c, rfl, hs, .inr ⟨hd, ks, ps, rfl, h, h1, h2, h3, hk.1, hr, hk.2⟩⟩
/-- Pointers in a slice. -/
theorem Reads.ptr {A : Option Addr} {n : Nat} (h : Reads w S 1 A n (ps.map .pointer)) {i : Nat} {q : Option Addr} (hq : ps[i]? = some q) : ∃ ad, A = some ad ∧ w.cell? (ad.add i) = some (.pointer q) := by
  have hi : i < n := by
    have := h.1
    have := (List.getElem?_eq_some_iff.1 hq).1
    simp at *
    omega
  obtain ⟨ad, u, e, -, hu, hc⟩ := h.at_ hi
  rw [List.getElem?_map, hq] at hu
  simp at hu
  subst hu
  exact ⟨ad, e, hc⟩
end
theorem up_in {S : Nat → Prop} {B k : Nat} (h : S k) : up S B k := .inl h
theorem up_new {S : Nat → Prop} {B k : Nat} (h : B ≤ k) : up S B k := .inr h
theorem up_le {S : Nat → Prop} {a B k : Nat} (ha : B ≤ a) (h : up S a k) : up S B k := h.imp_right (Nat.le_trans ha)
theorem up_up {S : Nat → Prop} {B B' k : Nat} (h : up (up S B) B' k) (hB : B ≤ B') : up S B k := by
  rcases h with h | h
  · exact h
  · exact .inr (Nat.le_trans hB h)
set_option maxHeartbeats 1000000 in
theorem leaf_some (A : Option Addr) (c : Nat) (vs : List V) (S : Nat → Prop) (w : World) (hr : Reads w S 11 A vs.length (flat vs)) (h1 : 1 ≤ vs.length) (h2 : vs.length ≤ 16) (hc : vs.length ≤ c) :
    Calls Tryz.prog 167 #[.slice A vs.length c] w (RootOut w S 1 vs) := by
  have HR := Lib.hid hr
  clear hr
  have h0 : ((vs.length : Int) == 0) = false := by simp; intro h; simp [h] at h1
  go_enter Tryz.func167, Tryz.ntmps167
  go_wp2
  go_ret
  exact ⟨_, rfl, IsR.leaf_mk (up_new (Nat.le_refl _)) (Blk.new w _ _) h1 h2 hc ((HR.out.keeps (.of_below ((Below.refl _ _).alloc (Nat.le_refl _) _))).more fun _ => up_in), (Below.refl _ _).alloc (Nat.le_refl _) _⟩
set_option maxHeartbeats 1000000 in
theorem inner_none (A : Option Addr) (c : Nat) (w : World) : Calls Tryz.prog 196 #[.slice A 0 c] w fun e w' => e = .returned (.pointer none) ∧ w' = w := by
  go_enter Tryz.func196, Tryz.ntmps196
  go_wp2
  go_ret
  exact ⟨rfl, rfl⟩
set_option maxHeartbeats 1000000 in
theorem inner_one (ad : Addr) (c : Nat) (w : World) (p : Option Addr) (hc : w.cell? ad = some (.pointer p)) : Calls Tryz.prog 196 #[.slice (some ad) 1 c] w fun e w' => e = .returned (.pointer p) ∧ w' = w := by
  go_enter Tryz.func196, Tryz.ntmps196
  go_wp2
  go_ret
  exact ⟨rfl, rfl⟩
/-- How many values lie below. -/
def flen (ks : List (List V)) : Nat := ks.flatten.length
theorem flen_take (ks : List (List V)) (k : Nat) : flen (ks.take k) ≤ flen ks := by
  have : ks.flatten = (ks.take k).flatten ++ (ks.drop k).flatten := by rw [← List.flatten_append, List.take_append_drop]
  unfold flen
  rw [this]; simp
theorem flen_succ (ks : List (List V)) (k : Nat) (h : k < ks.length) : flen (ks.take (k + 1)) = flen (ks.take k) + ks[k].length := by
  unfold flen
  rw [List.take_succ_eq_append_getElem h, List.flatten_append, List.length_append]; simp
set_option maxHeartbeats 1000000 in
theorem inner_two (A : Option Addr) (c d : Nat) (ks : List (List V)) (ps : List (Option Addr)) (S : Nat → Prop) (w : World) (hr : Reads w S 1 A ks.length (ps.map .pointer)) (hk : Kids w S d ks ps) (h1 : 2 ≤ ks.length) (h2 : ks.length ≤ 16) (hc : ks.length ≤ c)
    (hn : flen ks ≤ 65536) (hd : d ≤ 64) :
    Calls Tryz.prog 196 #[.slice A ks.length c] w (RootOut w S (d + 1) ks.flatten) := by
  have HR := Lib.hid hr
  have HK := Lib.hid hk
  have h00 : 0 < ks.length := by omega
  obtain ⟨q0, hq0, hi0⟩ := hk.at_ h00
  obtain ⟨b0, u0, x0, rfl, -, hb0⟩ := hi0.head
  obtain ⟨ad, rfl, hc0⟩ := hr.ptr hq0
  have hc1 := hb0.cell 1
  simp at hc1
  have hd0 := hi0.dpos
  have e0 : ((ks.length : Int) == 0) = false := by simp; intro h; simp [h] at h1
  have e1 : ((ks.length : Int) == 1) = false := by simp; omega
  clear hr hk hb0 hi0 hq0
  go_enter Tryz.func196, Tryz.ntmps196
  have hc2 : w.cell? ad = some (.pointer (some ⟨b0, 0, none⟩)) := by simpa [Addr.add] using hc0
  clear hc0
  go_wp2
  go_loopw [27] (fun i wr => ∃ k : Nat, k ≤ ks.length ∧ i = .int .i64 k ∧ Hid (Blk wr w.heap.size 217 #[.int .i64 (flen (ks.take k) : Int), .int .i64 ((d : Int) + 1), .slice (some ad) ks.length c, .slice none 0 0]) ∧ Hid (Below w.heap.size w wr)) (fun i _ => (ks.length - intOf i).toNat)
  case atStart => exact ⟨0, Nat.zero_le _, rfl, Blk.new w _ _, (Below.refl _ _).alloc (Nat.le_refl _) _⟩
  case round =>
    obtain ⟨k, hk, rfl, hB, hW⟩ := hrel
    by_cases hlt : k < ks.length
    · obtain ⟨q, hq, hi⟩ := (HK.out.keeps (.of_below hW.out)).at_ hlt
      obtain ⟨b, u, x, rfl, -, hb⟩ := hi.head
      obtain ⟨ad', e, hck⟩ := (HR.out.keeps (.of_below hW.out)).ptr hq
      obtain rfl : ad = ad' := by simpa using e
      have hck0 := hb.cell 0
      simp at hck0
      have hs := Lib.hid (flen_succ ks k hlt)
      have hle := flen_take ks (k + 1)
      rw [hs.out] at hle
      have f0 := hB.out.cell 0
      have f1 := hB.out.frozen 0
      simp at f0
      have hsum : (flen (ks.take k) : Int) + (ks[k].length : Int) ≤ 65536 := by omega
      clear hq hi hb e hle
      go_wp2
      go_region
      go_wp2
      go_roundw
      case rel => exact ⟨k + 1, by omega, by go_num, by
        rw [hs.out]
        have h3 := (hB.out.set_ 0 (.int .i64 ((flen (ks.take k) : Int) + (ks[k].length : Int)))).drew
        exact Lib.hid (by simpa using h3), (hW.out.setCell (p := ⟨w.heap.size, 0, none⟩) (Nat.le_refl _) _).drew⟩
      case measure => simp [intOf]; omega
    · obtain rfl : k = ks.length := by omega
      have hB' := hB.out
      rw [List.take_length] at hB'
      have HB := Lib.hid hB'
      clear hB'
      go_wp2
      go_ret
      exact ⟨_, rfl, IsR.inner_mk (up_new (Nat.le_refl _)) hd0 (by have := HB.out; rwa [Int.natCast_succ]) h1 h2 hc ((HR.out.keeps (.of_below hW.out)).more fun _ => up_in) ((HK.out.keeps (.of_below hW.out)).more fun _ => up_in), hW.out⟩
end Go.Proofs.YtfcegalckjeafaaGreatDoor
namespace Go.Proofs.YtfcegalckjeafaaGreatDoor
open Go.RowKit Go.BigFrame
theorem run_storeVar_at {P : Program} (w : World) (g o : Nat) (t ty : TypeId) (v : Value) (cs : List Value) (cur : Array Value) (hg : w.heap[g]? = some (.cells cur t (0, 0))) (hv : v.cells.toList = cs) (hi : (P.info? ty).map (·.size) = some cs.length)
    (hl : o + cs.length ≤ cur.size) (h1 : ∀ u ∈ cs, u.oneCell' = true) : (storeVar ty ⟨g, o, none⟩ v).run P w = .ok () (w.setRow g (splice cur.toList o cs).toArray) := by
  have := run_storeCells_at P g o t cs 0 cur w hg (by simpa using hl) h1
  cases hq : P.info? ty with
  | none => simp [hq] at hi
  | some i =>
    have hs : i.size = cs.length := by simpa [hq] using hi
    have hsz : v.cells.size = cs.length := by rw [← hv, Array.length_toList]
    simp only [Nat.add_zero, List.append_assoc] at this
    simp [storeVar, sizeOf, typeInfo, hq, hsz, hs, hv, splice, this]
theorem addr_plain (g k : Nat) : (⟨g, 0, none⟩ : Addr).add k = ⟨g, k, none⟩ := by unfold Addr.add; split <;> simp_all
theorem own_put {w : World} {B e sz g n c k : Nat} {xs cs : List Value} (h : w.ownsRow B e sz (.slice (some ⟨g, 0, none⟩) n c) n xs) (hk : k < n) (hc : cs.length = sz) :
    ∃ cur : Array Value, w.heap[g]? = some (.cells cur e (0, 0)) ∧ k * sz + cs.length ≤ cur.size ∧ B ≤ g ∧ (w.setRow g (splice cur.toList (k * sz) cs).toArray).ownsRow B e sz (.slice (some ⟨g, 0, none⟩) n c) n (splice xs (k * sz) cs) := by
  obtain ⟨hl, h | ⟨g', cap, cur, hv, hb, hh, hn, hm, hs, ht⟩⟩ := h
  · cases h.1
  · simp only [Value.slice.injEq, Option.some.injEq, Addr.mk.injEq, and_true, true_and] at hv
    obtain ⟨rfl, rfl⟩ := hv
    have h1 : (k + 1) * sz ≤ n * sz := Nat.mul_le_mul_right _ hk
    have h2 : n * sz ≤ c * sz := Nat.mul_le_mul_right _ hn
    rw [Nat.add_mul, Nat.one_mul] at h1
    have hx : k * sz + cs.length ≤ xs.length := by omega
    have hcur : k * sz + cs.length ≤ cur.toList.length := by have : cur.toList.length = cur.size := rfl; omega
    refine ⟨cur, hh, by simpa using hcur, hb, ?_, .inr ⟨g, c, (splice cur.toList (k * sz) cs).toArray, rfl, hb, setRow_heap w g _ _ e _ hh, hn, hm, ?_, ?_⟩⟩
    · rw [length_splice _ _ _ hx, hl]
    · rw [List.size_toArray, length_splice _ _ _ hcur, Array.length_toList, hs]
    · rw [← ht]
      simp only [splice]
      have e1 : (cur.toList.take (n * sz)).take (k * sz) = cur.toList.take (k * sz) := by rw [List.take_take, Nat.min_eq_left (by omega)]
      have e2 : (cur.toList.take (n * sz)).drop (k * sz + cs.length) = (cur.toList.drop (k * sz + cs.length)).take (n * sz - (k * sz + cs.length)) := by rw [List.drop_take]
      rw [e1, e2]
      have e3 : (cur.toList.take (k * sz) ++ cs).length = k * sz + cs.length := by rw [List.length_append, List.length_take, Nat.min_eq_left (by omega)]
      rw [← List.append_assoc, ← List.append_assoc, show n * sz = (cur.toList.take (k * sz) ++ cs).length + (n * sz - (k * sz + cs.length)) by rw [e3]; omega, List.take_length_add_append]
      congr 2
      rw [e3]
      omega
/-- An element of a row of the call's own is stored. -/
theorem wpList_stOwn {ops : Array Oper} {rest : List Oper} {o : Oper} {a : Act} {w : World} {Q : Exit → Act → World → Prop} (hgd : o.guard = none) {ty : Nat} {p x : Operand} (ho : o.op = .store ty p x)
    {B e sz g n c : Nat} {xs : List Value} (h : w.ownsRow B e sz (.slice (some ⟨g, 0, none⟩) n c) n xs) (k : Nat) (hk : k < n) {ad : Addr} (hp : a.eval p = .pointer (some ad)) (had : ad = ⟨g, k * sz, none⟩) {v : Value} (hx : a.eval x = v) (cs : List Value) (hv : v.cells.toList = cs) (hc : cs.length = sz)
    (hi : (Tryz.prog.info? ty).map (·.size) = some sz) (h1 : ∀ u ∈ cs, u.oneCell' = true)
    (hK : ∀ w', Hid (w'.ownsRow B e sz (.slice (some ⟨g, 0, none⟩) n c) n (splice xs (k * sz) cs)) → (∀ k, k ≠ g → w'.heap[k]? = w.heap[k]?) → (∀ B w0, Below B w0 w → B ≤ g → Below B w0 w') → wpList Tryz.prog ops Q rest (a.put o.dst undef) w') : wpList Tryz.prog ops Q (o :: rest) a w := by
  obtain ⟨cur, hh, hl, hb, hown⟩ := own_put (k := k) h hk hc
  subst had
  refine wpList_plain hgd fun K hK' => ?_
  unfold Oper.wp execOp
  simp only [ho, hp, hx, Instr.storeAt, Instr.sureAddr, Sem.run_bind, Sem.run_pure, Result.andThen_ok, run_storeVar_at w g _ e ty v cs cur hh hv (by rw [hi, hc]) hl h1]
  exact hK' _ _ (hK _ hown (fun j hj => setRow_other w g j _ hj) (fun B w0 hb hB => below_setRow hb hB _))
theorem own_below {w w' : World} {B e sz n : Nat} {v : Value} {xs : List Value} (h : w.ownsRow B e sz v n xs) (hb : Below w.heap.size w w') : w'.ownsRow B e sz v n xs :=
  h.kept (row := none) ⟨hb.os, hb.tape, hb.output, hb.size, fun k hk _ => hb.block k hk⟩ (by cases v.ownBlock <;> simp)
theorem keeps_far {S : Nat → Prop} {w : World} {g o : Nat} {u : Value} (h : ¬ S g) : Keeps S w (w.setCell ⟨g, o, none⟩ u) := fun k _ hs => Below.heap_setCell w _ u k (fun e => h (by have e' : k = g := e; rw [← e']; exact hs))
theorem own_some {w : World} {B e sz n c : Nat} {A : Option Addr} {xs : List Value} (h : w.ownsRow B e sz (.slice A n c) n xs) (hn : 0 < n) : ∃ g, A = some ⟨g, 0, none⟩ ∧ B ≤ g := by
  rcases h.2 with ⟨h1, h2⟩ | ⟨g, cap, cur, h1, h2, _⟩
  · omega
  · injection h1 with h1; exact ⟨g, h1, h2⟩
theorem one_V (v : V) : ∀ u ∈ v.l, u.oneCell' = true := fun u hu => flat_one [v] u (by simpa [flat] using hu)
theorem splice_flat {vs : List V} {k : Nat} {v : V} (hk : k < vs.length) : splice (flat vs) (k * 11) v.l = flat (vs.set k v) := by
  simp only [splice]
  rw [flat_take, show k * 11 + v.l.length = (k + 1) * 11 by rw [V.l_len]; omega, flat_drop, List.set_eq_take_append_cons_drop, if_pos hk]
  simp [flat]
theorem splice_ptr {ps : List (Option Addr)} {k : Nat} {q : Option Addr} (hk : k < ps.length) : splice (ps.map Value.pointer) (k * 1) [.pointer q] = (ps.set k q).map .pointer := by
  simp only [splice, Nat.mul_one]
  rw [List.set_eq_take_append_cons_drop, if_pos hk]
  simp
theorem Kids.set {w : World} {S : Nat → Prop} {d : Nat} {ks : List (List V)} {ps : List (Option Addr)} (h : Kids w S d ks ps) (i : Nat) {k : List V} {q : Option Addr} (hi : IsR w S d k q) : Kids w S d (ks.set i k) (ps.set i q) := ⟨by simp [h.1], fun j k' q' a b => by
  rw [List.getElem?_set] at a b
  split at a
  · subst i
    rw [if_pos rfl] at b
    split at a
    · split at b
      · simp at a b; subst a b; exact hi
      · simp at b
    · simp at a
  · rw [if_neg ‹_›] at b
    exact h.2 j k' q' a b⟩
end Go.Proofs.YtfcegalckjeafaaGreatDoor
