/-
  Parts of the proof that AddrTold,AddrBegins calls on: Rp, St, Tf, Sq.
-/
import Derived.WalkKit
import Derived.WalkMore
import Derived.Test.YtfcegalckjeafaaGreatDoorM103
import Derived.Test.YtfcegalckjeafaaGreatDoorM104
namespace Go.Proofs.YtfcegalckjeafaaGreatDoor
open Go.RowKit Go.BigFrame
/-- Trees of a depth, by their pointers. -/
def Kids (w : World) (S : Nat → Prop) (d : Nat) (ks : List (List V)) (ps : List (Option Addr)) : Prop := ps.length = ks.length ∧ ∀ (i : Nat) (k : List V) (q : Option Addr), ks[i]? = some k → ps[i]? = some q → IsR w S d k q
def RootOut (w : World) (S : Nat → Prop) (d : Nat) (vs : List V) (e : Ending) (w' : World) : Prop := ∃ p, e = .returned (.pointer p) ∧ IsR w' (up S w.heap.size) d vs p ∧ Below w.heap.size w w'
def TreeOut (w : World) (S : Nat → Prop) (vs : List V) (e : Ending) (w' : World) : Prop := ∃ p, e = .returned (.pointer p) ∧ IsRope w' (up S w.heap.size) vs p ∧ Below w.heap.size w w'
section
variable {S S' : Nat → Prop} {w w' : World} {d : Nat} {ks ks' : List (List V)} {ps ps' : List (Option Addr)} {vs : List V} {p : Option Addr}
theorem Kids.keeps (h : Kids w S d ks ps) (hk : Keeps S w w') : Kids w' S d ks ps := ⟨h.1, fun i k q a b => (h.2 i k q a b).keeps hk⟩
theorem Kids.more (h : Kids w S d ks ps) (hS : ∀ k, S k → S' k) : Kids w S' d ks ps := ⟨h.1, fun i k q a b => (h.2 i k q a b).more hS⟩
theorem Kids.nil : Kids w S d [] [] := ⟨rfl, fun i k q h => by simp at h⟩
theorem Kids.one (h : IsR w S d vs p) : Kids w S d [vs] [p] := ⟨rfl, fun i k q a b => by
  cases i with
  | zero => simp at a b; subst a b; exact h
  | succ i => simp at a⟩
theorem Kids.app (h : Kids w S d ks ps) (h' : Kids w S d ks' ps') : Kids w S d (ks ++ ks') (ps ++ ps') := ⟨by simp [h.1, h'.1], fun i k q a b => by
  rw [List.getElem?_append] at a b
  rw [h.1] at b
  split at a
  · rw [if_pos ‹_›] at b; exact h.2 i k q a b
  · rw [if_neg ‹_›] at b; exact h'.2 _ k q a b⟩
theorem Kids.take (h : Kids w S d ks ps) (n : Nat) : Kids w S d (ks.take n) (ps.take n) := ⟨by simp [h.1], fun i k q a b => by
  rw [List.getElem?_take] at a b
  split at a
  · rw [if_pos ‹_›] at b; exact h.2 i k q a b
  · cases a⟩
theorem Kids.drop (h : Kids w S d ks ps) (n : Nat) : Kids w S d (ks.drop n) (ps.drop n) := ⟨by simp [h.1], fun i k q a b => by
  rw [List.getElem?_drop] at a b
  exact h.2 _ k q a b⟩
theorem Kids.at_ (h : Kids w S d ks ps) {i : Nat} (hi : i < ks.length) : ∃ q, ps[i]? = some q ∧ IsR w S d ks[i] q := by
  have : i < ps.length := by rw [h.1]; exact hi
  exact ⟨ps[i], List.getElem?_eq_getElem this, h.2 i _ _ (List.getElem?_eq_getElem hi) (List.getElem?_eq_getElem this)⟩
theorem IsR.head (h : IsR w S d vs p) : ∃ b u x, p = some ⟨b, 0, none⟩ ∧ S b ∧ Blk w b 217 #[.int .i64 (vs.length : Int), .int .i64 (d : Int), u, x] := by
  cases d with
  | zero => exact h.elim
  | succ d =>
    obtain ⟨b, A, c, e, hs, h⟩ := h
    rcases h with ⟨rfl, h1, _⟩ | ⟨h0, ks, ps, h1, h2, _⟩
    · exact ⟨b, _, _, e, hs, h1⟩
    · exact ⟨b, _, _, e, hs, h2⟩
theorem IsR.leaf (h : IsR w S 1 vs p) : ∃ b A c, p = some ⟨b, 0, none⟩ ∧ S b ∧ Blk w b 217 #[.int .i64 (vs.length : Int), .int .i64 1, .slice none 0 0, .slice A vs.length c] ∧ 1 ≤ vs.length ∧ vs.length ≤ 16 ∧ vs.length ≤ c ∧ Reads w S 11 A vs.length (flat vs) := by
  obtain ⟨b, A, c, e, hs, h⟩ := h
  rcases h with ⟨_, h1⟩ | ⟨h0, _⟩
  · exact ⟨b, A, c, e, hs, h1⟩
  · exact absurd h0 (Nat.lt_irrefl _)
theorem IsR.inner (h : IsR w S (d + 2) vs p) : ∃ b A c ks ps, p = some ⟨b, 0, none⟩ ∧ S b ∧ vs = ks.flatten ∧ Blk w b 217 #[.int .i64 (vs.length : Int), .int .i64 ((d + 2 : Nat) : Int), .slice A ks.length c, .slice none 0 0] ∧
      2 ≤ ks.length ∧ ks.length ≤ 16 ∧ ks.length ≤ c ∧ Reads w S 1 A ks.length (ps.map .pointer) ∧ Kids w S (d + 1) ks ps := by
  obtain ⟨b, A, c, e, hs, h⟩ := h
  rcases h with ⟨h0, _⟩ | ⟨h0, ks, ps, h1, h2, h3, h4, h5, h6, h7, h8⟩
  · exact absurd h0 (Nat.succ_ne_zero _)
  · exact ⟨b, A, c, ks, ps, e, hs, h1, h2, h3, h4, h5, h7, h6, h8⟩
theorem IsR.leaf_mk {b : Nat} {A : Option Addr} {c : Nat} (hs : S b) (h : Blk w b 217 #[.int .i64 (vs.length : Int), .int .i64 1, .slice none 0 0, .slice A vs.length c]) (h1 : 1 ≤ vs.length) (h2 : vs.length ≤ 16) (h3 : vs.length ≤ c) (hr : Reads w S 11 A vs.length (flat vs)) : IsR w S 1 vs (some ⟨b, 0, none⟩) :=
  ⟨b, A, c, rfl, hs, .inl ⟨rfl, h, h1, h2, h3, hr⟩⟩
theorem IsR.inner_mk {b : Nat} {A : Option Addr} {c : Nat} (hs : S b) (hd : 0 < d) (h : Blk w b 217 #[.int .i64 (ks.flatten.length : Int), .int .i64 ((d + 1 : Nat) : Int), .slice A ks.length c, .slice none 0 0])
    (h1 : 2 ≤ ks.length) (h2 : ks.length ≤ 16) (h3 : ks.length ≤ c) (hr : Reads w S 1 A ks.length (ps.map .pointer)) (hk : Kids w S d ks ps) : IsR w S (d + 1) ks.flatten (some ⟨b, 0, none⟩) :=
  ⟨b, A, c, rfl, hs, .inr ⟨hd, ks, ps, rfl, h, h1, h2, h3, hk.1, hr, hk.2⟩⟩
/-- Pointers in a slice. -/
theorem Reads.ptr {A : Option Addr} {n : Nat} (h : Reads w S 1 A n (ps.map .pointer)) {i : Nat} {q : Option Addr} (hq : ps[i]? = some q) : ∃ ad, A = some ad ∧ w.cell? (ad.add i) = some (.pointer q) := by
  have hi : i < n := by
    have := h.1
    have := (List.getElem?_eq_some_iff.1 hq).1
    simp at *
    omega
  obtain ⟨ad, u, e, -, hu, hc⟩ := h.at_ hi
  rw [List.getElem?_map, hq] at hu
  simp at hu
  subst hu
  exact ⟨ad, e, hc⟩
end
theorem up_in {S : Nat → Prop} {B k : Nat} (h : S k) : up S B k := .inl h
theorem up_new {S : Nat → Prop} {B k : Nat} (h : B ≤ k) : up S B k := .inr h
theorem up_le {S : Nat → Prop} {a B k : Nat} (ha : B ≤ a) (h : up S a k) : up S B k := h.imp_right (Nat.le_trans ha)
theorem up_up {S : Nat → Prop} {B B' k : Nat} (h : up (up S B) B' k) (hB : B ≤ B') : up S B k := by
  rcases h with h | h
  · exact h
  · exact .inr (Nat.le_trans hB h)
set_option maxHeartbeats 1000000 in
theorem leaf_some (A : Option Addr) (c : Nat) (vs : List V) (S : Nat → Prop) (w : World) (hr : Reads w S 11 A vs.length (flat vs)) (h1 : 1 ≤ vs.length) (h2 : vs.length ≤ 16) (hc : vs.length ≤ c) :
    Calls Tryz.prog 167 #[.slice A vs.length c] w (RootOut w S 1 vs) := by
  have HR := Lib.hid hr
  clear hr
  have h0 : ((vs.length : Int) == 0) = false := by simp; intro h; simp [h] at h1
  go_enter Tryz.func167, Tryz.ntmps167
  go_wp2
  go_ret
  exact ⟨_, rfl, IsR.leaf_mk (up_new (Nat.le_refl _)) (Blk.new w _ _) h1 h2 hc ((HR.out.keeps (.of_below ((Below.refl _ _).alloc (Nat.le_refl _) _))).more fun _ => up_in), (Below.refl _ _).alloc (Nat.le_refl _) _⟩
set_option maxHeartbeats 1000000 in
theorem inner_none (A : Option Addr) (c : Nat) (w : World) : Calls Tryz.prog 196 #[.slice A 0 c] w fun e w' => e = .returned (.pointer none) ∧ w' = w := by
  go_enter Tryz.func196, Tryz.ntmps196
  go_wp2
  go_ret
  exact ⟨rfl, rfl⟩
set_option maxHeartbeats 1000000 in
theorem inner_one (ad : Addr) (c : Nat) (w : World) (p : Option Addr) (hc : w.cell? ad = some (.pointer p)) : Calls Tryz.prog 196 #[.slice (some ad) 1 c] w fun e w' => e = .returned (.pointer p) ∧ w' = w := by
  go_enter Tryz.func196, Tryz.ntmps196
  go_wp2
  go_ret
  exact ⟨rfl, rfl⟩
/-- How many values lie below. -/
def flen (ks : List (List V)) : Nat := ks.flatten.length
theorem flen_take (ks : List (List V)) (k : Nat) : flen (ks.take k) ≤ flen ks := by
  have : ks.flatten = (ks.take k).flatten ++ (ks.drop k).flatten := by rw [← List.flatten_append, List.take_append_drop]
  unfold flen
  rw [this]; simp
theorem flen_succ (ks : List (List V)) (k : Nat) (h : k < ks.length) : flen (ks.take (k + 1)) = flen (ks.take k) + ks[k].length := by
  unfold flen
  rw [List.take_succ_eq_append_getElem h, List.flatten_append, List.length_append]; simp
set_option maxHeartbeats 1000000 in
theorem inner_two (A : Option Addr) (c d : Nat) (ks : List (List V)) (ps : List (Option Addr)) (S : Nat → Prop) (w : World) (hr : Reads w S 1 A ks.length (ps.map .pointer)) (hk : Kids w S d ks ps) (h1 : 2 ≤ ks.length) (h2 : ks.length ≤ 16) (hc : ks.length ≤ c)
    (hn : flen ks ≤ 65536) (hd : d ≤ 64) :
    Calls Tryz.prog 196 #[.slice A ks.length c] w (RootOut w S (d + 1) ks.flatten) := by
  have HR := Lib.hid hr
  have HK := Lib.hid hk
  have h00 : 0 < ks.length := by omega
  obtain ⟨q0, hq0, hi0⟩ := hk.at_ h00
  obtain ⟨b0, u0, x0, rfl, -, hb0⟩ := hi0.head
  obtain ⟨ad, rfl, hc0⟩ := hr.ptr hq0
  have hc1 := hb0.cell 1
  simp at hc1
  have hd0 := hi0.dpos
  have e0 : ((ks.length : Int) == 0) = false := by simp; intro h; simp [h] at h1
  have e1 : ((ks.length : Int) == 1) = false := by simp; omega
  clear hr hk hb0 hi0 hq0
  go_enter Tryz.func196, Tryz.ntmps196
  have hc2 : w.cell? ad = some (.pointer (some ⟨b0, 0, none⟩)) := by simpa [Addr.add] using hc0
  clear hc0
  go_wp2
  go_loopw [27] (fun i wr => ∃ k : Nat, k ≤ ks.length ∧ i = .int .i64 k ∧ Hid (Blk wr w.heap.size 217 #[.int .i64 (flen (ks.take k) : Int), .int .i64 ((d : Int) + 1), .slice (some ad) ks.length c, .slice none 0 0]) ∧ Hid (Below w.heap.size w wr)) (fun i _ => (ks.length - intOf i).toNat)
  case atStart => exact ⟨0, Nat.zero_le _, rfl, Blk.new w _ _, (Below.refl _ _).alloc (Nat.le_refl _) _⟩
  case round =>
    obtain ⟨k, hk, rfl, hB, hW⟩ := hrel
    by_cases hlt : k < ks.length
    · obtain ⟨q, hq, hi⟩ := (HK.out.keeps (.of_below hW.out)).at_ hlt
      obtain ⟨b, u, x, rfl, -, hb⟩ := hi.head
      obtain ⟨ad', e, hck⟩ := (HR.out.keeps (.of_below hW.out)).ptr hq
      obtain rfl : ad = ad' := by simpa using e
      have hck0 := hb.cell 0
      simp at hck0
      have hs := Lib.hid (flen_succ ks k hlt)
      have hle := flen_take ks (k + 1)
      rw [hs.out] at hle
      have f0 := hB.out.cell 0
      have f1 := hB.out.frozen 0
      simp at f0
      have hsum : (flen (ks.take k) : Int) + (ks[k].length : Int) ≤ 65536 := by omega
      clear hq hi hb e hle
      go_wp2
      go_region
      go_wp2
      go_roundw
      case rel => exact ⟨k + 1, by omega, by go_num, by
        rw [hs.out]
        have h3 := (hB.out.set_ 0 (.int .i64 ((flen (ks.take k) : Int) + (ks[k].length : Int)))).drew
        exact Lib.hid (by simpa using h3), (hW.out.setCell (p := ⟨w.heap.size, 0, none⟩) (Nat.le_refl _) _).drew⟩
      case measure => simp [intOf]; omega
    · obtain rfl : k = ks.length := by omega
      have hB' := hB.out
      rw [List.take_length] at hB'
      have HB := Lib.hid hB'
      clear hB'
      go_wp2
      go_ret
      exact ⟨_, rfl, IsR.inner_mk (up_new (Nat.le_refl _)) hd0 (by have := HB.out; rwa [Int.natCast_succ]) h1 h2 hc ((HR.out.keeps (.of_below hW.out)).more fun _ => up_in) ((HK.out.keeps (.of_below hW.out)).more fun _ => up_in), hW.out⟩
end Go.Proofs.YtfcegalckjeafaaGreatDoor
namespace Go.Proofs.YtfcegalckjeafaaGreatDoor
open Go.RowKit Go.BigFrame
theorem run_storeVar_at {P : Program} (w : World) (g o : Nat) (t ty : TypeId) (v : Value) (cs : List Value) (cur : Array Value) (hg : w.heap[g]? = some (.cells cur t (0, 0))) (hv : v.cells.toList = cs) (hi : (P.info? ty).map (·.size) = some cs.length)
    (hl : o + cs.length ≤ cur.size) (h1 : ∀ u ∈ cs, u.oneCell' = true) : (storeVar ty ⟨g, o, none⟩ v).run P w = .ok () (w.setRow g (splice cur.toList o cs).toArray) := by
  have := run_storeCells_at P g o t cs 0 cur w hg (by simpa using hl) h1
  cases hq : P.info? ty with
  | none => simp [hq] at hi
  | some i =>
    have hs : i.size = cs.length := by simpa [hq] using hi
    have hsz : v.cells.size = cs.length := by rw [← hv, Array.length_toList]
    simp only [Nat.add_zero, List.append_assoc] at this
    simp [storeVar, sizeOf, typeInfo, hq, hsz, hs, hv, splice, this]
theorem addr_plain (g k : Nat) : (⟨g, 0, none⟩ : Addr).add k = ⟨g, k, none⟩ := by unfold Addr.add; split <;> simp_all
theorem own_put {w : World} {B e sz g n c k : Nat} {xs cs : List Value} (h : w.ownsRow B e sz (.slice (some ⟨g, 0, none⟩) n c) n xs) (hk : k < n) (hc : cs.length = sz) :
    ∃ cur : Array Value, w.heap[g]? = some (.cells cur e (0, 0)) ∧ k * sz + cs.length ≤ cur.size ∧ B ≤ g ∧ (w.setRow g (splice cur.toList (k * sz) cs).toArray).ownsRow B e sz (.slice (some ⟨g, 0, none⟩) n c) n (splice xs (k * sz) cs) := by
  obtain ⟨hl, h | ⟨g', cap, cur, hv, hb, hh, hn, hm, hs, ht⟩⟩ := h
  · cases h.1
  · simp only [Value.slice.injEq, Option.some.injEq, Addr.mk.injEq, and_true, true_and] at hv
    obtain ⟨rfl, rfl⟩ := hv
    have h1 : (k + 1) * sz ≤ n * sz := Nat.mul_le_mul_right _ hk
    have h2 : n * sz ≤ c * sz := Nat.mul_le_mul_right _ hn
    rw [Nat.add_mul, Nat.one_mul] at h1
    have hx : k * sz + cs.length ≤ xs.length := by omega
    have hcur : k * sz + cs.length ≤ cur.toList.length := by have : cur.toList.length = cur.size := rfl; omega
    refine ⟨cur, hh, by simpa using hcur, hb, ?_, .inr ⟨g, c, (splice cur.toList (k * sz) cs).toArray, rfl, hb, setRow_heap w g _ _ e _ hh, hn, hm, ?_, ?_⟩⟩
    · rw [length_splice _ _ _ hx, hl]
    · rw [List.size_toArray, length_splice _ _ _ hcur, Array.length_toList, hs]
    · rw [← ht]
      simp only [splice]
      have e1 : (cur.toList.take (n * sz)).take (k * sz) = cur.toList.take (k * sz) := by rw [List.take_take, Nat.min_eq_left (by omega)]
      have e2 : (cur.toList.take (n * sz)).drop (k * sz + cs.length) = (cur.toList.drop (k * sz + cs.length)).take (n * sz - (k * sz + cs.length)) := by rw [List.drop_take]
      rw [e1, e2]
      have e3 : (cur.toList.take (k * sz) ++ cs).length = k * sz + cs.length := by rw [List.length_append, List.length_take, Nat.min_eq_left (by omega)]
      rw [← List.append_assoc, ← List.append_assoc, show n * sz = (cur.toList.take (k * sz) ++ cs).length + (n * sz - (k * sz + cs.length)) by rw [e3]; omega, List.take_length_add_append]
      congr 2
      rw [e3]
      omega
/-- An element of a row of the call's own is stored. -/
theorem wpList_stOwn {ops : Array Oper} {rest : List Oper} {o : Oper} {a : Act} {w : World} {Q : Exit → Act → World → Prop} (hgd : o.guard = none) {ty : Nat} {p x : Operand} (ho : o.op = .store ty p x)
    {B e sz g n c : Nat} {xs : List Value} (h : w.ownsRow B e sz (.slice (some ⟨g, 0, none⟩) n c) n xs) (k : Nat) (hk : k < n) {ad : Addr} (hp : a.eval p = .pointer (some ad)) (had : ad = ⟨g, k * sz, none⟩) {v : Value} (hx : a.eval x = v) (cs : List Value) (hv : v.cells.toList = cs) (hc : cs.length = sz)
    (hi : (Tryz.prog.info? ty).map (·.size) = some sz) (h1 : ∀ u ∈ cs, u.oneCell' = true)
    (hK : ∀ w', Hid (w'.ownsRow B e sz (.slice (some ⟨g, 0, none⟩) n c) n (splice xs (k * sz) cs)) → (∀ k, k ≠ g → w'.heap[k]? = w.heap[k]?) → (∀ B w0, Below B w0 w → B ≤ g → Below B w0 w') → wpList Tryz.prog ops Q rest (a.put o.dst undef) w') : wpList Tryz.prog ops Q (o :: rest) a w := by
  obtain ⟨cur, hh, hl, hb, hown⟩ := own_put (k := k) h hk hc
  subst had
  refine wpList_plain hgd fun K hK' => ?_
  unfold Oper.wp execOp
  simp only [ho, hp, hx, Instr.storeAt, Instr.sureAddr, Sem.run_bind, Sem.run_pure, Result.andThen_ok, run_storeVar_at w g _ e ty v cs cur hh hv (by rw [hi, hc]) hl h1]
  exact hK' _ _ (hK _ hown (fun j hj => setRow_other w g j _ hj) (fun B w0 hb hB => below_setRow hb hB _))
theorem own_below {w w' : World} {B e sz n : Nat} {v : Value} {xs : List Value} (h : w.ownsRow B e sz v n xs) (hb : Below w.heap.size w w') : w'.ownsRow B e sz v n xs :=
  h.kept (row := none) ⟨hb.os, hb.tape, hb.output, hb.size, fun k hk _ => hb.block k hk⟩ (by cases v.ownBlock <;> simp)
theorem keeps_far {S : Nat → Prop} {w : World} {g o : Nat} {u : Value} (h : ¬ S g) : Keeps S w (w.setCell ⟨g, o, none⟩ u) := fun k _ hs => Below.heap_setCell w _ u k (fun e => h (by have e' : k = g := e; rw [← e']; exact hs))
theorem own_some {w : World} {B e sz n c : Nat} {A : Option Addr} {xs : List Value} (h : w.ownsRow B e sz (.slice A n c) n xs) (hn : 0 < n) : ∃ g, A = some ⟨g, 0, none⟩ ∧ B ≤ g := by
  rcases h.2 with ⟨h1, h2⟩ | ⟨g, cap, cur, h1, h2, _⟩
  · omega
  · injection h1 with h1; exact ⟨g, h1, h2⟩
theorem one_V (v : V) : ∀ u ∈ v.l, u.oneCell' = true := fun u hu => flat_one [v] u (by simpa [flat] using hu)
theorem splice_flat {vs : List V} {k : Nat} {v : V} (hk : k < vs.length) : splice (flat vs) (k * 11) v.l = flat (vs.set k v) := by
  simp only [splice]
  rw [flat_take, show k * 11 + v.l.length = (k + 1) * 11 by rw [V.l_len]; omega, flat_drop, List.set_eq_take_append_cons_drop, if_pos hk]
  simp [flat]
theorem splice_ptr {ps : List (Option Addr)} {k : Nat} {q : Option Addr} (hk : k < ps.length) : splice (ps.map Value.pointer) (k * 1) [.pointer q] = (ps.set k q).map .pointer := by
  simp only [splice, Nat.mul_one]
  rw [List.set_eq_take_append_cons_drop, if_pos hk]
  simp
theorem Kids.set {w : World} {S : Nat → Prop} {d : Nat} {ks : List (List V)} {ps : List (Option Addr)} (h : Kids w S d ks ps) (i : Nat) {k : List V} {q : Option Addr} (hi : IsR w S d k q) : Kids w S d (ks.set i k) (ps.set i q) := ⟨by simp [h.1], fun j k' q' a b => by
  rw [List.getElem?_set] at a b
  split at a
  · subst i
    rw [if_pos rfl] at b
    split at a
    · split at b
      · simp at a b; subst a b; exact hi
      · simp at b
    · simp at a
  · rw [if_neg ‹_›] at b
    exact h.2 j k' q' a b⟩
end Go.Proofs.YtfcegalckjeafaaGreatDoor
namespace Go.Proofs.YtfcegalckjeafaaGreatDoor
open Go.RowKit Go.BigFrame
theorem elB : El 116 5 1 1 := El.mk' (z := .int .u8 0) Tryz.underlying116 (by kernel_rfl) rfl (by decide)
theorem pairL_ok {l : List UInt8} {p : Nat} {r : UInt8 × Nat} (h : pairL l p = .inl r) : r.2 = p + 2 ∧ 2 ≤ l.length := by
  unfold pairL at h
  split at h
  · cases h
  split at h
  · cases h
  split at h
  · cases h
  split at h
  · cases h
  cases h
  simp
theorem pairL_err {l : List UInt8} {p : Nat} {r : Nat × Int} (h : pairL l p = .inr r) : r.2 = 10 ∨ r.2 = 2 := by
  unfold pairL at h
  split at h
  · cases h; simp
  split at h
  · cases h; simp
  split at h
  · cases h; simp
  split at h
  · cases h; simp
  cases h
theorem unq_x (t : List UInt8) (p : Nat) : unqB (92 :: 120 :: t) p = match pairL t (p + 2) with | .inr r => .inr r | .inl r => consU r.1 (unqB (t.drop 2) (p + 4)) := by
  rw [unqB.eq_def]
  simp only [show (92 : UInt8) ≠ 34 by decide, if_false, show ¬ ((92 : UInt8).toNat < 32) by decide, ne_eq, not_true_eq_false, if_true, pairL]
  cases t with
  | nil => rfl
  | cons a t =>
    simp only
    cases hexv a with
    | none => rfl
    | some m =>
      simp only
      cases t with
      | nil => rfl
      | cons b t =>
        simp only
        cases hexv b with
        | none => rfl
        | some n => rfl
theorem unq_by (x : UInt8) (t : List UInt8) (p : Nat) (hx : x ≠ 120) : unqB (92 :: x :: t) p = match byLet x with | none => .inr (p + 1, 2) | some y => consU y (unqB t (p + 2)) := by
  rw [unqB.eq_def]
  simp only [show (92 : UInt8) ≠ 34 by decide, if_false, show ¬ ((92 : UInt8).toNat < 32) by decide, ne_eq, not_true_eq_false, hx]
  cases byLet x <;> rfl
theorem unq_plain (c : UInt8) (t : List UInt8) (p : Nat) (h1 : c ≠ 34) (h2 : ¬ c.toNat < 32) (h3 : c ≠ 92) : unqB (c :: t) p = consU c (unqB t (p + 1)) := by
  rw [unqB.eq_def]
  simp only [h1, h2, h3, if_false, ne_eq, not_false_eq_true, if_true]
def unqR : (List UInt8 × Nat) ⊕ (Nat × Int) → Value
  | .inl r => .tuple #[sv r.1, .int .i64 r.2, .int .i64 0]
  | .inr r => .tuple #[.string ⟨#[]⟩, .int .i64 r.1, .int .i64 r.2]
set_option maxRecDepth 100000 in
set_option maxHeartbeats 8000000 in
theorem unq_any (s : ByteArray) (w : World) (hs : s.size ≤ 8388608) : Calls Tryz.prog 144 #[.string s] w (VBOut w (unqR (unqL (bytes s)))) := by
  obtain ⟨R, hR⟩ : ∃ R, R = unqL (bytes s) := ⟨_, rfl⟩
  rw [← hR]
  by_cases h0 : s.toList = []
  · have he : bytes s = [] := (Lib.toList_data s).symm.trans h0
    obtain rfl : R = .inr (0, 10) := by rw [hR, he]; rfl
    clear hR he
    go_enter Tryz.func144, Tryz.ntmps144
    go_wp2
    go_step3
    go_wp2
    try rw [Exit.noGoto_ret]
    go_ret3
    exact ⟨rfl, Below.refl _ _⟩
  have hne : s.toList.isEmpty = false := by rw [Bool.eq_false_iff]; intro h; exact h0 (List.isEmpty_iff.1 h)
  have hp0 : 0 < s.size := by
    rw [← bytes_len]
    exact List.length_pos_iff.2 (fun e => h0 ((Lib.toList_data s).trans e))
  have hpi : (0 : Int) < (s.size : Int) := by omega
  by_cases h34 : (s[0].toNat : Int) = 34
  · have hE : s[0] = 34 := u8_of s[0] 34 (by decide) h34
    have hR1 : Hid (R = unqB ((bytes s).drop 1) 1) := Lib.hid (by
      have := bytes_drop s 0 hp0
      rw [List.drop_zero] at this
      rw [hR, this, hE]
      rfl)
    clear hR hE
    go_enter Tryz.func144, Tryz.ntmps144
    go_wp2
    go_step3
    go_wp2_with (first | apply wp_label | (at_make; refine wpList_mk elB rfl rfl s.size rfl rfl rfl (by omega) (by decide) ?_; intro w1 HO1 HB1 HG1; clear HG1))
    go_loopw [5, 6] (fun v i wr => ∃ (k : Nat) (acc : List UInt8), 1 ≤ k ∧ k ≤ s.size ∧ i = .int .i64 k ∧ acc.length ≤ k ∧ Hid (wr.ownsRow w.heap.size 5 1 v acc.length (acc.map bv)) ∧ Hid (Below w.heap.size w wr) ∧ Hid (withU acc (unqB ((bytes s).drop k) k) = R)) (fun _ i _ => (s.size - intOf i).toNat)
    case atStart => exact ⟨1, [], Nat.le_refl _, hp0, rfl, by simp, HO1, HB1, by rw [Hid, withU_nil]; exact hR1.out.symm⟩
    case round =>
      obtain ⟨k, acc, hk1, hk, rfl, hal, hO, hB, hU⟩ := hrel
      have hz0 := hB.out.size
      obtain ⟨A, c, rfl, hcap⟩ := own_shape hO.out
      by_cases hlt : k < s.size
      · have hd := bytes_drop s k hlt
        have hki : (k : Int) < (s.size : Int) := by omega
        have hgk : s[k] = s[k] := rfl
        by_cases c34 : (s[k].toNat : Int) = 34
        · have hE : s[k] = 34 := u8_of s[k] 34 (by decide) c34
          have hX : Hid (R = .inl (acc, k + 1)) := Lib.hid (by rw [← hU.out, hd, hE, unqB.eq_def]; simp [withU])
          have hcv := run_string_own hO.out
          clear hd hE hgk hU
          go_wp2
          try rw [Exit.noGoto_ret]
          go_ret3
          exact ⟨by rw [hX.out]; rfl, hB.out⟩
        have n34 : ((s[k].toNat : Int) == 34) = false := by simpa using c34
        have m34 : s[k] ≠ 34 := fun e => c34 (by rw [e]; rfl)
        by_cases c32 : (s[k].toNat : Int) < 32
        · have hX : Hid (R = .inr (k, 2)) := Lib.hid (by rw [← hU.out, hd, unqB.eq_def]; simp only [m34, if_false]; rw [if_pos (by omega)]; rfl)
          clear hd hgk hU m34
          go_wp2
          try rw [Exit.noGoto_ret]
          go_ret3
          exact ⟨by rw [hX.out]; rfl, hB.out⟩
        by_cases c92 : (s[k].toNat : Int) = 92
        · have hE : s[k] = 92 := u8_of s[k] 92 (by decide) c92
          rw [hE] at hd
          by_cases hlt1 : k + 1 < s.size
          · have hd1 := bytes_drop s (k + 1) hlt1
            have hki1 : (k : Int) + 1 < (s.size : Int) := by omega
            have hki2 : ¬ ((s.size : Int) ≤ (k : Int) + 1) := by omega
            have hgk1 : s[k + 1] = s[k + 1] := rfl
            by_cases c120 : (s[k + 1].toNat : Int) = 120
            · have hE1 : s[k + 1] = 120 := u8_of s[k + 1] 120 (by decide) c120
              have hP := Lib.hid (fun W => pair_any s (k + 2) W (by omega) (by omega))
              have hU' := hU.out
              rw [hd, hd1, hE1, unq_x] at hU'
              cases hpr : pairL ((bytes s).drop (k + 2)) (k + 2) with
              | inr r =>
                have he := pairL_err hpr
                rw [hpr] at hU' hP
                have hX : Hid (R = .inr r) := Lib.hid (by rw [← hU']; rfl)
                have hne0 : (r.2 == 0) = false := by simp; omega
                simp only [pairR] at hP
                have e2 : ((k + 2 : Nat) : Int) = (k : Int) + 1 + 1 := by omega
                rw [e2] at hP
                clear hd hd1 hE hE1 hgk hgk1 hU hU' hpr e2
                go_wp2_with fail
                refine (hP.out _).mono ?_
                rintro e w1 ⟨rfl, rfl⟩
                go_wp2
                try rw [Exit.noGoto_ret]
                go_ret3
                exact ⟨by rw [hX.out]; rfl, hB.out⟩
              | inl r =>
                obtain ⟨hr2, hr3⟩ := pairL_ok hpr
                rw [List.length_drop, bytes_len] at hr3
                rw [hpr] at hU' hP
                have hN : Hid (withU (acc ++ [r.1]) (unqB ((bytes s).drop (k + 4)) (k + 4)) = R) := Lib.hid (by rw [← hU', ← withU_cons]; simp only [List.drop_drop])
                simp only [pairR, hr2, bv] at hP
                have e2 : ((k + 2 : Nat) : Int) = (k : Int) + 1 + 1 := by omega
                have e3 : ((k + 2 + 2 : Nat) : Int) = (k : Int) + 1 + 1 + 2 := by omega
                rw [e2, e3] at hP
                clear hd hd1 hE hE1 hgk hgk1 hU hU' hpr e2 e3
                go_wp2_with fail
                refine (hP.out _).mono ?_
                rintro e w1 ⟨rfl, rfl⟩
                go_wp2_with (first | (at_builtin; refine wpList_app elB rfl rfl (n := acc.length) (World.ownsRow.alloc hO.out _) rfl (w0 := w) (hB.out.alloc hz0 _) (reads_new w1 5 [bv r.1]) rfl (by simp [bv, Value.oneCell']) (by simp; omega) (by decide) (by simp; omega) ?_; intro v9 w9 HO9 HB9 HG9; clear HG9) | fail)
                go_roundw
                case rel => exact ⟨k + 4, acc ++ [r.1], by omega, by omega, by go_num, by simp; omega, by simpa [bv] using HO9, HB9, hN⟩
                case measure => simp [intOf]; omega
            · have n120 : ((s[k + 1].toNat : Int) == 120) = false := by simpa using c120
              have m120 : s[k + 1] ≠ 120 := fun e => c120 (by rw [e]; rfl)
              have hY := Lib.hid (fun W => byLetter_any s[k + 1] W)
              have hU' := hU.out
              rw [hd, hd1, unq_by _ _ _ m120] at hU'
              cases hby : byLet s[k + 1] with
              | none =>
                rw [hby] at hU'
                have hX : Hid (R = .inr (k + 1, 2)) := Lib.hid (by rw [← hU']; rfl)
                have hy : byR s[k + 1] = .tuple #[.int .u8 0, .bool false] := by rw [byR, hby]
                rw [hy] at hY
                simp only [bv] at hY
                clear hd hd1 hE hgk hgk1 hU hU' hby m120 hy
                go_wp2_with fail
                refine (hY.out _).mono ?_
                rintro e w1 ⟨rfl, hb⟩
                have HB1 := Lib.hid (hB.out.trans (hb.mono hz0))
                clear hb
                go_wp2
                try rw [Exit.noGoto_ret]
                go_ret3
                exact ⟨by rw [hX.out]; rfl, HB1.out⟩
              | some y =>
                rw [hby] at hU'
                have hN : Hid (withU (acc ++ [y]) (unqB ((bytes s).drop (k + 2)) (k + 2)) = R) := Lib.hid (by rw [← hU', ← withU_cons])
                have hy : byR s[k + 1] = .tuple #[bv y, .bool true] := by rw [byR, hby]
                rw [hy] at hY
                simp only [bv] at hY
                clear hd hd1 hE hgk hgk1 hU hU' hby m120 hy
                go_wp2_with fail
                refine (hY.out _).mono ?_
                rintro e w1 ⟨rfl, hb⟩
                have hz1 : w.heap.size ≤ w1.heap.size := Nat.le_trans hz0 hb.size
                go_wp2_with (first | (at_builtin; refine wpList_app elB rfl rfl (n := acc.length) (World.ownsRow.alloc (own_below hO.out hb) _) rfl (w0 := w) ((hB.out.trans (hb.mono hz0)).alloc hz1 _) (reads_new w1 5 [bv y]) rfl (by simp [bv, Value.oneCell']) (by simp; omega) (by decide) (by simp; omega) ?_; intro v9 w9 HO9 HB9 HG9; clear HG9) | fail)
                go_roundw
                case rel => exact ⟨k + 2, acc ++ [y], by omega, by omega, by go_num, by simp; omega, by simpa [bv] using HO9, HB9, hN⟩
                case measure => simp [intOf]; omega
          · have hX : Hid (R = .inr (s.size, 10)) := Lib.hid (by
              have he : (bytes s).drop (k + 1) = [] := List.drop_of_length_le (by rw [bytes_len]; omega)
              have hk' : s.size = k + 1 := by omega
              rw [← hU.out, hd, he, unqB.eq_def, hk']
              simp [withU])
            have hki2 : (s.size : Int) ≤ (k : Int) + 1 := by omega
            clear hd hE hgk hU
            go_wp2
            try rw [Exit.noGoto_ret]
            go_ret3
            exact ⟨by rw [hX.out]; rfl, hB.out⟩
        · have n92 : ((s[k].toNat : Int) == 92) = false := by simpa using c92
          have m92 : s[k] ≠ 92 := fun e => c92 (by rw [e]; rfl)
          have hN : Hid (withU (acc ++ [s[k]]) (unqB ((bytes s).drop (k + 1)) (k + 1)) = R) := Lib.hid (by rw [← hU.out, hd, unq_plain _ _ _ m34 (by omega) m92, withU_cons])
          clear hd hgk hU m34 m92
          go_wp2_with (first | (at_builtin; refine wpList_app elB rfl rfl (n := acc.length) (World.ownsRow.alloc hO.out _) rfl (w0 := w) (hB.out.alloc hz0 _) (reads_new wr 5 [bv s[k]]) rfl (by simp [bv, Value.oneCell']) (by simp; omega) (by decide) (by simp; omega) ?_; intro v9 w9 HO9 HB9 HG9; clear HG9) | fail)
          go_roundw
          case rel => exact ⟨k + 1, acc ++ [s[k]], by omega, by omega, by go_num, by simp; omega, by simpa [bv] using HO9, HB9, hN⟩
          case measure => simp [intOf]; omega
      · have hX : Hid (R = .inr (s.size, 10)) := Lib.hid (by
          have he : (bytes s).drop k = [] := List.drop_of_length_le (by rw [bytes_len]; omega)
          have hk' : k = s.size := by omega
          rw [← hU.out, he, hk']; rfl)
        clear hU
        go_wp2
        try rw [Exit.noGoto_ret]
        go_ret3
        exact ⟨by rw [hX.out]; rfl, hB.out⟩
  · have n34 : ((s[0].toNat : Int) == 34) = false := by simpa using h34
    obtain rfl : R = .inr (0, 2) := by
      have := bytes_drop s 0 hp0
      rw [List.drop_zero] at this
      rw [hR, this, unqL, if_neg (fun e => h34 (by rw [e]; rfl))]
    clear hR
    go_enter Tryz.func144, Tryz.ntmps144
    go_wp2
    go_step3
    go_wp2
    try rw [Exit.noGoto_ret]
    go_ret3
    exact ⟨rfl, Below.refl _ _⟩
end Go.Proofs.YtfcegalckjeafaaGreatDoor
namespace Go.Proofs.YtfcegalckjeafaaGreatDoor
open Go
section
variable {P : Program} {ops : Array Oper} {Q : Exit → Act → World → Prop} {md : Region.Mode} {S : World → Prop} {T : Act → World → Prop} {n g : Nat}
/-- The order is one that may be taken. -/
def ordB (md : Region.Mode) (ops : Array Oper) (n g : Nat) : List (Nat × Bool) → Array Bool → Bool
  | [], l => Region.seqB md ops g n l
  | (i, true) :: r, l => takeB md ops n l i && ordB md ops n g r (l.setIfInBounds i true)
  | (i, false) :: r, l => (Region.ready md ops l == [i]) && decide (i < n) && ordB md ops n g r (l.setIfInBounds i true)
def wpSq (P : Program) (ops : Array Oper) (Q : Exit → Act → World → Prop) (S : World → Prop) (T : Act → World → Prop) : List (Nat × Bool) → Act → World → Prop
  | [], a, w => T a w
  | (i, true) :: r, a, w => ∃ o v, ops[i]? = some o ∧ YieldsIf P ops S o v a ∧ wpSq P ops Q S T r (a.put o.dst v) w
  | (i, false) :: r, a, w => ∃ o, ops[i]? = some o ∧ ∀ K' : Act → World → Prop, Shut (∀ a w, S w → (S w → wpSq P ops Q S T r a w) → K' a w) → if Region.wanted o (yielded ops a.tmps) = true then Oper.wp P o a w K' Q else K' (a.put o.dst undef) w
theorem wpAnyT_sq (hst : htB md ops n = true) (hQ : ∀ c a d v w, Q (.panic c) (Act.put a d v) w → Q (.panic c) a w) : ∀ (r : List (Nat × Bool)) (listed : Array Bool) (a : Act) (w : World), ordB md ops n g r listed = true → S w → wpSq P ops Q S T r a w → wpAnyT P md ops Q S n g T r.length listed a w
  | [], _, _, _, ho, _, h => wpAnyT_done ho h
  | (i, true) :: r, listed, a, w, ho, hS, h => by
    simp only [ordB, Bool.and_eq_true] at ho
    obtain ⟨o, v, h1, h2, h3⟩ := h
    exact wpAnyT_take i hst h1 ho.1 (fun c a w h => hQ c a _ _ w h) h2 hS (wpAnyT_sq hst hQ r _ _ _ ho.2 hS h3)
  | (i, false) :: r, listed, a, w, ho, hS, h => by
    simp only [ordB, Bool.and_eq_true] at ho
    obtain ⟨o, h1, h2⟩ := h
    refine wpAnyT_one i (by simpa using ho.1.1) ho.1.2 h1 fun K' hK => h2 K' ?_
    have hK' := hK.out
    exact fun a w hS hW => hK' a w hS fun hS => wpAnyT_sq hst hQ r _ _ _ ho.2 hS (hW hS)
theorem sq_t {i : Nat} {r : List (Nat × Bool)} {o : Oper} {a : Act} {w : World} {v : Value} (hi : ops[i]? = some o) (hw : Region.wanted o (yielded ops a.tmps) = true) (hy : ∀ w, S w → (execOp a.eval o).run P w = .ok (.value v) w) (h : wpSq P ops Q S T r (a.put o.dst v) w) : wpSq P ops Q S T ((i, true) :: r) a w := ⟨o, v, hi, .inl ⟨hw, hy⟩, h⟩
theorem sq_n {i : Nat} {r : List (Nat × Bool)} {o : Oper} {a : Act} {w : World} (hi : ops[i]? = some o) (hw : Region.wanted o (yielded ops a.tmps) = false) (h : wpSq P ops Q S T r (a.put o.dst undef) w) : wpSq P ops Q S T ((i, true) :: r) a w := ⟨o, undef, hi, .inr ⟨hw, rfl⟩, h⟩
theorem sq_c {i : Nat} {r : List (Nat × Bool)} {o : Oper} {a : Act} {w : World} (hi : ops[i]? = some o) (h : ∀ K' : Act → World → Prop, Shut (∀ a w, S w → (S w → wpSq P ops Q S T r a w) → K' a w) → if Region.wanted o (yielded ops a.tmps) = true then Oper.wp P o a w K' Q else K' (a.put o.dst undef) w) : wpSq P ops Q S T ((i, false) :: r) a w := ⟨o, hi, h⟩
/-- The beginning. -/
theorem wp_region_sq {id : Nat} {l : List Oper} {a : Act} {w : World} (n : Nat) (r : List (Nat × Bool)) (S : World → Prop) (hm : P.follows .mixedOrders = true) (hst : (htB .any l.toArray n && ordB .any l.toArray n (l.length - n) r (Array.replicate l.length false) && decide (r.length = n)) = true) (hS : S w.drew)
    (h : S w.drew → wpSq P l.toArray (NoPanic Q) S (fun a w => wpList P l.toArray (NoPanic Q) (l.drop n) a w) r a w.drew) : (Code.region id l.toArray true).wp P Q a w := by
  refine wp_region_noPanic ?_
  simp only [Bool.and_eq_true, decide_eq_true_eq] at hst
  refine wp_region_ht n S hm hst.1.1 hS fun hst' hS' => ?_
  have := wpAnyT_sq hst' (fun _ _ _ _ _ h => h) r (Array.replicate l.length false) a w.drew hst.1.2 hS' (h hS')
  rwa [hst.2] at this
end
end Go.Proofs.YtfcegalckjeafaaGreatDoor
