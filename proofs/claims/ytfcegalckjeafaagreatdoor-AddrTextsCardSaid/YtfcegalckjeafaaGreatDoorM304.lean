/-
  Parts of the proof that AddrBegins,AddrTexts calls on: Va, El, Ret, Tb, Tc, Td.
-/
import Derived.Test.YtfcegalckjeafaaGreatDoorM301
import Derived.Test.YtfcegalckjeafaaGreatDoorM303
namespace Go.Proofs.YtfcegalckjeafaaGreatDoor
open Go.RowKit
/-- What lies in the blocks of S stays. -/
def Keeps (S : Nat → Prop) (w w' : World) : Prop := ∀ k, k < w.heap.size → S k → w'.heap[k]? = w.heap[k]?
section
variable {S S' : Nat → Prop} {w w' w'' : World} {B : Nat}
theorem Keeps.of_below (h : Below w.heap.size w w') : Keeps S w w' := fun k hk _ => h.block k hk
theorem Keeps.of_grown {row : Option Nat} (h : w.grownBy w' row) (hr : ∀ k, S k → some k ≠ row) : Keeps S w w' := fun k hk hs => h.block k hk (hr k hs)
theorem Blk.keeps {g : Nat} {t : TypeId} {cs : Array Value} (h : Blk w g t cs) (hk : Keeps S w w') (hg : S g) : Blk w' g t cs := (hk g h.lt hg).trans h
theorem cell_keeps {p : Addr} {u : Value} (h : w.cell? p = some u) (hk : Keeps S w w') (hp : S p.block) : w'.cell? p = some u := by
  have hb := hk p.block (World.block_lt_of_cell? w p h) hp
  rw [← h]
  unfold World.cell?
  rw [hb]
theorem Reads.keeps {size n : Nat} {A : Option Addr} {xs : List Value} (h : Reads w S size A n xs) (hk : Keeps S w w') : Reads w' S size A n xs :=
  ⟨h.1, fun hn => by
    obtain ⟨ad, e, hb, hc⟩ := h.2 hn
    exact ⟨ad, e, hb, fun j u hu => cell_keeps (hc j u hu) hk (by rw [block_of_add]; exact hb)⟩⟩
end
/-- The blocks of S, and all that are made from B on. -/
def up (S : Nat → Prop) (B : Nat) : Nat → Prop := fun k => S k ∨ B ≤ k
/-- A tree. -/
inductive T where
  | mk (k i : Int) (t : List UInt8) (ks : List (List UInt8)) (xs : List T)
namespace T
def k : T → Int | mk k _ _ _ _ => k
def i : T → Int | mk _ i _ _ _ => i
def t : T → List UInt8 | mk _ _ t _ _ => t
def ks : T → List (List UInt8) | mk _ _ _ ks _ => ks
def xs : T → List T | mk _ _ _ _ xs => xs
end T
mutual
def T.nodes : T → Nat | .mk _ _ _ _ xs => nodesL xs + 1
def nodesL : List T → Nat | [] => 0 | x :: xs => x.nodes + nodesL xs
end
mutual
def T.depth : T → Nat | .mk _ _ _ _ xs => depthL xs + 1
def depthL : List T → Nat | [] => 0 | x :: xs => max x.depth (depthL xs)
end
theorem T.nodes_pos (x : T) : 0 < x.nodes := by cases x; simp [T.nodes]
theorem T.depth_pos (x : T) : 0 < x.depth := by cases x; simp [T.depth]
theorem T.nodes_eq (x : T) : x.nodes = nodesL x.xs + 1 := by cases x; rfl
theorem T.depth_eq (x : T) : x.depth = depthL x.xs + 1 := by cases x; rfl
theorem nodesL_app (a b : List T) : nodesL (a ++ b) = nodesL a + nodesL b := by
  induction a with
  | nil => simp [nodesL]
  | cons x a ih => simp [nodesL, ih]; omega
theorem len_nodesL (l : List T) : l.length ≤ nodesL l := by
  induction l with
  | nil => simp [nodesL]
  | cons x l ih => have := x.nodes_pos; simp [nodesL]; omega
theorem nodesL_mem {x : T} {l : List T} (h : x ∈ l) : x.nodes ≤ nodesL l := by
  induction l with
  | nil => cases h
  | cons y l ih =>
    rcases List.mem_cons.1 h with rfl | h
    · simp [nodesL]
    · have := ih h; simp [nodesL]; omega
theorem depthL_mem {x : T} {l : List T} (h : x ∈ l) : x.depth ≤ depthL l := by
  induction l with
  | nil => cases h
  | cons y l ih =>
    rcases List.mem_cons.1 h with rfl | h
    · simp [depthL]; omega
    · have := ih h; simp [depthL]; omega
/-- A text within a key. -/
def kchar (c : UInt8) : List UInt8 := if c = 0 then [0, 255] else [c]
def ktext (s : List UInt8) : List UInt8 := 4 :: (s.flatMap kchar ++ [0, 0])
/-- The eight bytes of a number, in the numbers' order. -/
def nbytes (i : Int) : List UInt8 := (List.range 8).map fun j => UInt8.ofNat (((i + 9223372036854775808).toNat / 256 ^ (7 - j)) % 256)
/-- A scalar's key. -/
def skey (k i : Int) (t : List UInt8) : List UInt8 := if k = 0 then [1] else if k = 1 then [2, UInt8.ofNat i.toNat] else if k = 2 then 3 :: nbytes i else ktext t
mutual
def T.key : T → List UInt8 | .mk k i t ks xs => if k < 4 then skey k i t else UInt8.ofNat (k.toNat + 1) :: (keyL (decide (k = 5)) ks xs ++ [0])
def keyL (m : Bool) (ks : List (List UInt8)) : List T → List UInt8
  | [] => []
  | x :: xs => (if m then ktext (ks.headD []) else []) ++ x.key ++ keyL m ks.tail xs
end
/-- A scalar that may be. -/
def Sc (k i : Int) (t : List UInt8) : Prop := (k = 0 ∧ i = 0 ∧ t = []) ∨ (k = 1 ∧ (i = 0 ∨ i = 1) ∧ t = []) ∨ (k = 2 ∧ t = [] ∧ -9223372036854775808 ≤ i ∧ i ≤ 9223372036854775807) ∨ (k = 3 ∧ i = 0)
/-- The cells of a value. -/
structure V where
  sk : Int
  si : Int
  st : List UInt8
  kd : Int
  vec : Option Addr
  seed : Int
  bits : Int
  n : Int
  dic : Option Addr
  bel : Int
  mor : Int
def V.l (v : V) : List Value := [.int .i64 v.sk, .int .i64 v.si, sv v.st, .int .i64 v.kd, .pointer v.vec, .int .u64 v.seed, .int .i64 v.bits, .int .i64 v.n, .pointer v.dic, .int .i64 v.bel, .int .i64 v.mor]
def V.a (v : V) : Value := .agg #[.int .i64 v.sk, .int .i64 v.si, .string ⟨v.st.toArray⟩, .int .i64 v.kd, .pointer v.vec, .int .u64 v.seed, .int .i64 v.bits, .int .i64 v.n, .pointer v.dic, .int .i64 v.bel, .int .i64 v.mor]
def V.z : V := ⟨0, 0, [], 0, none, 0, 0, 0, none, 0, 0⟩
theorem V.l_len (v : V) : v.l.length = 11 := rfl
/-- Values, one behind the other. -/
def flat (vs : List V) : List Value := vs.flatMap V.l
theorem flat_len (vs : List V) : (flat vs).length = vs.length * 11 := by
  induction vs with
  | nil => rfl
  | cons v vs ih => simp [flat, V.l_len] at ih ⊢; omega
theorem flat_app (a b : List V) : flat (a ++ b) = flat a ++ flat b := by simp [flat]
theorem flat_one (vs : List V) : ∀ u ∈ flat vs, u.oneCell' = true := by
  intro u hu
  simp only [flat, List.mem_flatMap, V.l, List.mem_cons, List.not_mem_nil, or_false] at hu
  obtain ⟨v, _, h⟩ := hu
  rcases h with rfl | rfl | rfl | rfl | rfl | rfl | rfl | rfl | rfl | rfl | rfl <;> rfl
theorem flat_take (vs : List V) (k : Nat) : (flat vs).take (k * 11) = flat (vs.take k) := by
  induction vs generalizing k with
  | nil => simp [flat]
  | cons v vs ih =>
    cases k with
    | zero => simp [flat]
    | succ k =>
      have := ih k
      simp only [flat, List.flatMap_cons, List.take_succ_cons] at this ⊢
      rw [show (k + 1) * 11 = v.l.length + k * 11 by rw [V.l_len]; omega, List.take_length_add_append, this]
theorem flat_drop (vs : List V) (k : Nat) : (flat vs).drop (k * 11) = flat (vs.drop k) := by
  induction vs generalizing k with
  | nil => simp [flat]
  | cons v vs ih =>
    cases k with
    | zero => simp [flat]
    | succ k =>
      have := ih k
      simp only [flat, List.flatMap_cons, List.drop_succ_cons] at this ⊢
      rw [show (k + 1) * 11 = v.l.length + k * 11 by rw [V.l_len]; omega, List.drop_length_add_append, this]
theorem flat_at (vs : List V) (k j : Nat) (v : V) (h : vs[k]? = some v) (hj : j < 11) : (flat vs)[k * 11 + j]? = v.l[j]? := by
  have h1 : (flat vs)[k * 11 + j]? = ((flat vs).drop (k * 11))[j]? := by rw [List.getElem?_drop]
  rw [h1, flat_drop]
  obtain ⟨hk, e⟩ := List.getElem?_eq_some_iff.1 h
  rw [List.drop_eq_getElem_cons hk, e]
  simp only [flat, List.flatMap_cons]
  rw [List.getElem?_append_left (by rw [V.l_len]; exact hj)]
/-- A rope's tree of a depth: the values, and what lies in memory. -/
def IsR (w : World) (S : Nat → Prop) : Nat → List V → Option Addr → Prop
  | 0, _, _ => False
  | d + 1, vs, p => ∃ b A c, p = some ⟨b, 0, none⟩ ∧ S b ∧
    ((d = 0 ∧ Blk w b 217 #[.int .i64 (vs.length : Int), .int .i64 1, .slice none 0 0, .slice A vs.length c] ∧ 1 ≤ vs.length ∧ vs.length ≤ 16 ∧ vs.length ≤ c ∧ Reads w S 11 A vs.length (flat vs)) ∨
     (0 < d ∧ ∃ (ks : List (List V)) (ps : List (Option Addr)), vs = ks.flatten ∧ Blk w b 217 #[.int .i64 (vs.length : Int), .int .i64 ((d + 1 : Nat) : Int), .slice A ks.length c, .slice none 0 0] ∧
      2 ≤ ks.length ∧ ks.length ≤ 16 ∧ ks.length ≤ c ∧ ps.length = ks.length ∧ Reads w S 1 A ks.length (ps.map .pointer) ∧ ∀ (i : Nat) (k : List V) (q : Option Addr), ks[i]? = some k → ps[i]? = some q → IsR w S d k q))
/-- A rope. -/
def IsRope (w : World) (S : Nat → Prop) (vs : List V) (p : Option Addr) : Prop := (vs = [] ∧ p = none) ∨ ∃ d, IsR w S d vs p
section
variable {S S' : Nat → Prop} {w w' : World}
theorem IsR.imp (hb : ∀ b t cs, S b → Blk w b t cs → Blk w' b t cs ∧ S' b) (hr : ∀ s A n xs, 0 < s → Reads w S s A n xs → Reads w' S' s A n xs) :
    ∀ (d : Nat) (vs : List V) (p : Option Addr), IsR w S d vs p → IsR w' S' d vs p
  | 0, _, _, h => h.elim
  | d + 1, vs, p, ⟨b, A, c, e, hs, h⟩ => by
    rcases h with ⟨h0, h1, h2, h3, h4, h5⟩ | ⟨h0, ks, ps, h1, h2, h3, h4, h5, h6, h7, h8⟩
    · obtain ⟨a1, a2⟩ := hb _ _ _ hs h1
      exact ⟨b, A, c, e, a2, .inl ⟨h0, a1, h2, h3, h4, hr _ _ _ _ (by omega) h5⟩⟩
    · obtain ⟨a1, a2⟩ := hb _ _ _ hs h2
      exact ⟨b, A, c, e, a2, .inr ⟨h0, ks, ps, h1, a1, h3, h4, h5, h6, hr _ _ _ _ (by omega) h7, fun i k q hk hq => IsR.imp hb hr d k q (h8 i k q hk hq)⟩⟩
theorem IsR.keeps {d : Nat} {vs : List V} {p : Option Addr} (h : IsR w S d vs p) (hk : Keeps S w w') : IsR w' S d vs p :=
  IsR.imp (fun _ _ _ hs hb => ⟨hb.keeps hk hs, hs⟩) (fun _ _ _ _ _ hr => hr.keeps hk) d vs p h
theorem IsR.more {d : Nat} {vs : List V} {p : Option Addr} (h : IsR w S d vs p) (hS : ∀ k, S k → S' k) : IsR w S' d vs p :=
  IsR.imp (fun _ _ _ hs hb => ⟨hb, hS _ hs⟩) (fun _ _ _ _ _ hr => hr.more hS) d vs p h
theorem Reads.bound {s n : Nat} {A : Option Addr} {xs : List Value} (h : Reads w S s A n xs) (h0 : 0 < s) : Reads w (fun k => S k ∧ k < w.heap.size) s A n xs := ⟨h.1, fun hn => by
  obtain ⟨ad, e, hs, hc⟩ := h.2 hn
  have hl : 0 < xs.length := by rw [h.1]; exact Nat.mul_pos hn h0
  have := World.block_lt_of_cell? w _ (hc 0 _ (List.getElem?_eq_getElem hl))
  rw [block_of_add] at this
  exact ⟨ad, e, ⟨hs, this⟩, hc⟩⟩
theorem IsR.bound {d : Nat} {vs : List V} {p : Option Addr} (h : IsR w S d vs p) : IsR w (fun k => S k ∧ k < w.heap.size) d vs p :=
  IsR.imp (fun _ _ _ hs hb => ⟨hb, hs, hb.lt⟩) (fun _ _ _ _ h0 hr => hr.bound h0) d vs p h
theorem IsRope.bound {vs : List V} {p : Option Addr} (h : IsRope w S vs p) : IsRope w (fun k => S k ∧ k < w.heap.size) vs p := h.imp_right fun ⟨d, h⟩ => ⟨d, h.bound⟩
/-- A box made behind what is bounded stays apart. -/
theorem keeps_box {B g : Nat} {u : Value} {o : Nat} {w0 : World} (h1 : w0.heap.size ≤ g) (h2 : g < B) : Keeps (up (fun k => S k ∧ k < w0.heap.size) B) w (w.setCell ⟨g, o, none⟩ u) := fun k _ hs => Below.heap_setCell w _ u k (by
  rcases hs with ⟨_, h⟩ | h
  · show k ≠ g; omega
  · show k ≠ g; omega)
theorem up_bound {w0 : World} {a B k : Nat} (h : up (fun k => S k ∧ k < w0.heap.size) a k) (hB : B ≤ a) : up S B k := h.imp And.left (Nat.le_trans hB)
theorem IsRope.keeps {vs : List V} {p : Option Addr} (h : IsRope w S vs p) (hk : Keeps S w w') : IsRope w' S vs p := h.imp_right fun ⟨d, h⟩ => ⟨d, h.keeps hk⟩
theorem IsRope.more {vs : List V} {p : Option Addr} (h : IsRope w S vs p) (hS : ∀ k, S k → S' k) : IsRope w S' vs p := h.imp_right fun ⟨d, h⟩ => ⟨d, h.more hS⟩
theorem IsR.some_ {d : Nat} {vs : List V} {p : Option Addr} (h : IsR w S d vs p) : ∃ b, p = some ⟨b, 0, none⟩ := by
  cases d with
  | zero => exact h.elim
  | succ d => obtain ⟨b, A, c, e, _⟩ := h; exact ⟨b, e⟩
theorem IsR.dpos {d : Nat} {vs : List V} {p : Option Addr} (h : IsR w S d vs p) : 0 < d := by
  cases d with
  | zero => exact h.elim
  | succ d => omega
/-- As many values as a tree of this depth has at least. -/
theorem IsR.big : ∀ {d : Nat} {vs : List V} {p : Option Addr}, IsR w S d vs p → 2 ^ d ≤ 2 * vs.length
  | 0, _, _, h => h.elim
  | d + 1, vs, p, h0 => by
    obtain ⟨b, A, c, e, hs, h⟩ := h0
    rcases h with ⟨h0, h1, h2, h3, h4, h5⟩ | ⟨h0, ks, ps, h1, h2, h3, h4, h5, h6, h7, h8⟩
    · subst h0; omega
    · match ks, ps, h3, h6, h8, h1 with
      | k1 :: k2 :: ks, p1 :: p2 :: ps, h3, h6, h8, h1 =>
        have a1 := IsR.big (h8 0 k1 p1 rfl rfl)
        have a2 := IsR.big (h8 1 k2 p2 rfl rfl)
        rw [h1]; simp; rw [Nat.pow_succ]; omega
      | [], _, h3, _, _, _ => simp at h3
      | [_], _, h3, _, _, _ => simp at h3
      | _ :: _ :: _, [], _, h6, _, _ => simp at h6
      | _ :: _ :: _, [_], _, h6, _, _ => simp at h6
end
end Go.Proofs.YtfcegalckjeafaaGreatDoor
namespace Go.Proofs.YtfcegalckjeafaaGreatDoor
open Go.RowKit Go.BigFrame
/-- What a slice's type tells of its elements. -/
structure El (ts e : TypeId) (size bytes : Nat) : Prop where
  ex : ∃ i z, Tryz.prog.underlying ts = some (.slice e) ∧ Tryz.prog.info? e = some i ∧ i.zero = some z ∧ i.size = size ∧ i.bytes = bytes ∧ z.cells.size = size ∧ 0 < size
theorem El.mk' {ts e : TypeId} {size bytes : Nat} {z : Value} (hu : Tryz.prog.underlying ts = some (.slice e)) (h : (Tryz.prog.info? e).map (fun i => (i.zero, i.size, i.bytes)) = some (some z, size, bytes)) (hz : z.cells.size = size) (hs : 0 < size) : El ts e size bytes := by
  obtain ⟨i, h1, h2, h3, h4⟩ := info_parts h
  exact ⟨i, z, hu, h1, h2, h3, h4, hz, hs⟩
theorem elV : El 184 42 11 96 := El.mk' (z := .agg #[.int .i64 0, .int .i64 0, .string ⟨#[]⟩, .int .i64 0, .pointer none, .int .u64 0, .int .i64 0, .int .i64 0, .pointer none, .int .i64 0, .int .i64 0]) Tryz.underlying184 (by kernel_rfl) rfl (by decide)
theorem elP : El 215 35 1 8 := El.mk' (z := .pointer none) Tryz.underlying215 (by kernel_rfl) rfl (by decide)
section
variable {ts e : TypeId} {size bytes : Nat} (E : El ts e size bytes) {ops : Array Oper} {rest : List Oper} {o : Oper} {a : Act} {w : World} {Q : Exit → Act → World → Prop}
include E
theorem wpList_app {s x : Operand} (hgd : o.guard = none) (ho : o.op = .call { callee := .builtin .append, args := #[s, x], argTypes := #[ts, ts] })
    {base : Nat} {v : Value} {n : Nat} {xs : List Value} (hown : w.ownsRow base e size v n xs) (hs : a.eval s = v) {w0 : World} (hb : Below base w0 w)
    {B : Nat → Prop} {A : Option Addr} {m c : Nat} {news : List Value} (hr : Reads w B size A m news) (hx : a.eval x = .slice A m c) (h1 : ∀ u ∈ news, u.oneCell' = true)
    (h63 : n + m ≤ 16777216) (hsz : bytes ≤ 1024) (hbase : base ≤ w.heap.size)
    (h : ∀ v' w', Hid (w'.ownsRow base e size v' (n + m) (xs ++ news)) → Hid (Below base w0 w') → Hid (w.grownBy w' v.ownBlock) → wpList Tryz.prog ops Q rest (a.put o.dst v') w') : wpList Tryz.prog ops Q (o :: rest) a w := by
  obtain ⟨i, z, e1, e2, e3, e4, e5, e6, e7⟩ := E.ex
  refine wpList_append_any w hgd s x ts ho base e i z size bytes e1 e2 e3 e4 e5 e6 e7 v n xs hs hown B A m c news hx hr h1 (by simp only [maxLen]; omega) ?_ hbase (fun v' w' h2 h3 _ => h v' w' h2 (hb.grown h3 hbase (fun _ hk => own_base hown hk)) h3)
  have := Nat.mul_le_mul h63 hsz
  omega
theorem wpList_mk {len cap : Operand} (hgd : o.guard = none) (ho : o.op = .makeSlice ts len cap) {kl kc : IntKind} (c : Nat) {C : Int} (hl : a.eval len = .int kl 0) (hc : a.eval cap = .int kc C) (hC : C = (c : Int)) (h63 : c ≤ 16777216) (hsz : bytes ≤ 1024)
    (h : ∀ w', Hid (w'.ownsRow w.heap.size e size (.slice (some ⟨w.heap.size, 0, none⟩) 0 c) 0 []) → Hid (Below w.heap.size w w') → Hid (w.grownBy w' none) → wpList Tryz.prog ops Q rest (a.put o.dst (.slice (some ⟨w.heap.size, 0, none⟩) 0 c)) w') : wpList Tryz.prog ops Q (o :: rest) a w := by
  obtain ⟨i, z, e1, e2, e3, e4, e5, e6, e7⟩ := E.ex
  refine wpList_make_own _ hgd len cap ts ho w.heap.size e i z size e1 e2 e3 e4 kl kc C c hl hc hC ?_ (by simp only [maxLen]; omega) (Nat.le_refl _) (fun w' h2 h3 => h w' h2 ((Below.refl _ _).grown h3 (Nat.le_refl _) nofun) h3)
  have := Nat.mul_le_mul h63 hsz
  rw [e5, Nat.mul_comm]
  omega
end
/-- A list in new memory. -/
def NewOut (w : World) (t : TypeId) (size n : Nat) (xs : List Value) (e : Ending) (w' : World) : Prop := ∃ v, e = .returned v ∧ w'.ownsRow w.heap.size t size v n xs ∧ Below w.heap.size w w'
end Go.Proofs.YtfcegalckjeafaaGreatDoor
namespace Go.Proofs.YtfcegalckjeafaaGreatDoor
open Go.RowKit Go.BigFrame
/-- A struct of so many cells. -/
noncomputable def structB (ty : TypeId) (n : Nat) : Bool := (match Tryz.prog.underlying ty with | some (.struct _) => true | _ => false) && ((Tryz.prog.info? ty).map (·.size) == some n)
theorem structB_run {ty n : Nat} (h : structB ty n = true) {w : World} {g : Nat} {t : TypeId} {cs : Array Value} (hn : cs.size = n) (hg : Blk w g t cs) : (loadVar ty ⟨g, 0, none⟩).run Tryz.prog w = .ok (.agg cs) w := by
  simp only [structB, Bool.and_eq_true, beq_iff_eq] at h
  obtain ⟨h1, h2⟩ := h
  cases hu : Tryz.prog.underlying ty with
  | none => rw [hu] at h1; cases h1
  | some d =>
    rw [hu] at h1
    cases d <;> simp at h1
    exact run_loadVar_row w g t ty cs (0, 0) _ hg hu rfl (by rw [h2, hn])
section
variable {fn : Func} {a : Act} {w : World} {R : Ending → World → Prop} {g : Nat} {t : TypeId} {cs : Array Value}
theorem ret_ct {p u : Tmp} {ty : TypeId} {v2 : Value} (h : fn.results = #[.cell p ty, .tmp u]) (hd : a.defers = []) (hp : a.tmps.getD p undef = .pointer (some ⟨g, 0, none⟩)) (hg : Blk w g t cs) (hb : structB ty cs.size = true) (hv : a.tmps.getD u undef = v2)
    (hR : R (.returned (.tuple #[.agg cs, v2])) w) : bodyPost Tryz.prog fn R .ret a w := by
  refine bodyPost_ret (v := .tuple #[.agg cs, v2]) ?_ hd hR
  rw [results_cell_tmp h, hp]
  simp [asAddr, structB_run hb rfl hg, hv]
theorem ret_c {p : Tmp} {ty : TypeId} (h : fn.results = #[.cell p ty]) (hd : a.defers = []) (hp : a.tmps.getD p undef = .pointer (some ⟨g, 0, none⟩)) (hg : Blk w g t cs) (hb : structB ty cs.size = true)
    (hR : R (.returned (.agg cs)) w) : bodyPost Tryz.prog fn R .ret a w := by
  refine bodyPost_ret (v := .agg cs) ?_ hd hR
  have hp2 := hp
  rw [Array.getD_eq_getD_getElem?] at hp2
  simp only [results, h]
  simp [asAddr, hp2, structB_run hb rfl hg]
end
theorem Blk.new' {w : World} {g : Nat} {t : TypeId} {cs : Array Value} (h : g = w.heap.size) : Blk (w.alloc (.cells cs t)) g t cs := h ▸ Blk.new w t cs
theorem calls_at {f : FuncId} {args : Array Value} {w : World} {R : Ending → World → Prop} (h : ∀ W, W = w → Calls Tryz.prog f args W R) : Calls Tryz.prog f args w R := h w rfl
section
variable {w W : World} {t1 t2 t3 t4 t5 : TypeId} {c1 c2 c3 c4 c5 : Array Value}
theorem boxes1 (h : W = w.alloc (.cells c1 t1)) : Below w.heap.size w W ∧ W.heap.size = w.heap.size + 1 ∧ Blk W w.heap.size t1 c1 := by
  subst h; exact ⟨(Below.refl _ _).alloc (Nat.le_refl _) _, by simp, Blk.new _ _ _⟩
theorem boxes2 (h : W = (w.alloc (.cells c1 t1)).alloc (.cells c2 t2)) : Below w.heap.size w W ∧ W.heap.size = w.heap.size + 1 + 1 ∧ Blk W w.heap.size t1 c1 ∧ Blk W (w.heap.size + 1) t2 c2 := by
  obtain ⟨a1, a2, a3⟩ := boxes1 (w := w) (t1 := t1) (c1 := c1) rfl
  subst h; exact ⟨a1.alloc (by omega) _, by simp, a3.alloc _, Blk.new' (by simp)⟩
theorem boxes2d (h : W = ((w.alloc (.cells c1 t1)).alloc (.cells c2 t2)).drew) : Below w.heap.size w W ∧ W.heap.size = w.heap.size + 1 + 1 ∧ Blk W w.heap.size t1 c1 ∧ Blk W (w.heap.size + 1) t2 c2 := by
  obtain ⟨a1, a2, a3, a4⟩ := boxes2 (w := w) (t1 := t1) (c1 := c1) (t2 := t2) (c2 := c2) rfl
  subst h; exact ⟨a1.drew, a2, a3.drew, a4.drew⟩
theorem boxes3 (h : W = ((w.alloc (.cells c1 t1)).alloc (.cells c2 t2)).alloc (.cells c3 t3)) : Below w.heap.size w W ∧ W.heap.size = w.heap.size + 1 + 1 + 1 ∧ Blk W w.heap.size t1 c1 ∧ Blk W (w.heap.size + 1) t2 c2 ∧ Blk W (w.heap.size + 1 + 1) t3 c3 := by
  obtain ⟨a1, a2, a3, a4⟩ := boxes2 (w := w) (t1 := t1) (c1 := c1) (t2 := t2) (c2 := c2) rfl
  subst h; exact ⟨a1.alloc (by omega) _, by simp, a3.alloc _, a4.alloc _, Blk.new' (by simp)⟩
theorem boxes4 (h : W = (((w.alloc (.cells c1 t1)).alloc (.cells c2 t2)).alloc (.cells c3 t3)).alloc (.cells c4 t4)) : Below w.heap.size w W ∧ W.heap.size = w.heap.size + 1 + 1 + 1 + 1 ∧ Blk W w.heap.size t1 c1 ∧ Blk W (w.heap.size + 1) t2 c2 ∧ Blk W (w.heap.size + 1 + 1) t3 c3 ∧ Blk W (w.heap.size + 1 + 1 + 1) t4 c4 := by
  obtain ⟨a1, a2, a3, a4, a5⟩ := boxes3 (w := w) (t1 := t1) (c1 := c1) (t2 := t2) (c2 := c2) (t3 := t3) (c3 := c3) rfl
  subst h; exact ⟨a1.alloc (by omega) _, by simp, a3.alloc _, a4.alloc _, a5.alloc _, Blk.new' (by simp)⟩
end
theorem V.one (v : V) : v.l.toArray.all (·.oneCell') = true := by simp [V.l, sv, Value.oneCell']
/-- A value in a box. -/
def VB (w : World) (g : Nat) (v : V) : Prop := Blk w g 42 v.l.toArray
theorem VB.cells {w : World} {g : Nat} {v : V} (h : VB w g v) : w.cell? ⟨g, 0, none⟩ = some (.int .i64 v.sk) ∧ w.cell? ⟨g, 1, none⟩ = some (.int .i64 v.si) ∧ w.cell? ⟨g, 2, none⟩ = some (.string ⟨v.st.toArray⟩) ∧ w.cell? ⟨g, 3, none⟩ = some (.int .i64 v.kd) ∧ w.cell? ⟨g, 4, none⟩ = some (.pointer v.vec) ∧ w.cell? ⟨g, 5, none⟩ = some (.int .u64 v.seed) ∧
    w.cell? ⟨g, 6, none⟩ = some (.int .i64 v.bits) ∧ w.cell? ⟨g, 7, none⟩ = some (.int .i64 v.n) ∧ w.cell? ⟨g, 8, none⟩ = some (.pointer v.dic) ∧ w.cell? ⟨g, 9, none⟩ = some (.int .i64 v.bel) ∧ w.cell? ⟨g, 10, none⟩ = some (.int .i64 v.mor) :=
  ⟨Blk.cell h 0, Blk.cell h 1, Blk.cell h 2, Blk.cell h 3, Blk.cell h 4, Blk.cell h 5, Blk.cell h 6, Blk.cell h 7, Blk.cell h 8, Blk.cell h 9, Blk.cell h 10⟩
/-- Cells that read as a list, loaded as a struct. -/
theorem structB_list {ty : Nat} {cs : List Value} (h : structB ty cs.length = true) {w : World} {ad : Addr} (hc : ∀ j u, cs[j]? = some u → w.cell? (ad.add j) = some u) : (loadVar ty ad).run Tryz.prog w = .ok (.agg cs.toArray) w := by
  have hl := run_loadCells_list (P := Tryz.prog) w ad cs hc
  simp only [structB, Bool.and_eq_true, beq_iff_eq] at h
  obtain ⟨h1, h2⟩ := h
  cases hu : Tryz.prog.underlying ty with
  | none => rw [hu] at h1; cases h1
  | some d =>
    rw [hu] at h1
    have hagg : (isAgg ty).run Tryz.prog w = .ok true w := by
      unfold isAgg
      rw [Sem.run_bind, run_underlying hu w]
      cases d <;> simp_all
    cases hq : Tryz.prog.info? ty with
    | none => simp [hq] at h2
    | some i =>
      have hs : i.size = cs.length := by simpa [hq] using h2
      simp [loadVar, Sem.run_bind, hagg, sizeOf, typeInfo, hq, hs, hl]
theorem exec_load_list {ty : Nat} {cs : List Value} (h : structB ty cs.length = true) {w : World} {o : Oper} {ev : Operand → Value} {p : Operand} (ho : o.op = .load ty p) {ad : Addr} (hp : ev p = .pointer (some ad)) (hc : ∀ j u, cs[j]? = some u → w.cell? (ad.add j) = some u) :
    (execOp ev o).run Tryz.prog w = .ok (.value (.agg cs.toArray)) w := by
  unfold execOp
  simp only [ho, hp]
  simp [Instr.loadAt, Instr.sureAddr, structB_list h hc]
theorem wpList_ldl {ops : Array Oper} {rest : List Oper} {o : Oper} {a : Act} {w : World} {Q : Exit → Act → World → Prop} (hgd : o.guard = none) {ty : Nat} {p : Operand} (ho : o.op = .load ty p) {ad : Addr} (hp : a.eval p = .pointer (some ad))
    (cs : List Value) (h : structB ty cs.length = true) (hc : ∀ j u, cs[j]? = some u → w.cell? (ad.add j) = some u) (hK : wpList Tryz.prog ops Q rest (a.put o.dst (.agg cs.toArray)) w) : wpList Tryz.prog ops Q (o :: rest) a w :=
  wpList_plain hgd fun _ hK' => by
    unfold Oper.wp
    rw [exec_load_list h ho hp hc]
    exact hK' _ _ hK
theorem isV : structB 42 11 = true := by kernel_rfl
theorem flat_cells {w : World} {S : Nat → Prop} {A : Option Addr} {n k : Nat} {vs : List V} {v : V} (h : Reads w S 11 A n (flat vs)) (hv : vs[k]? = some v) : ∃ ad, A = some ad ∧ ∀ j u, v.l[j]? = some u → w.cell? ((ad.add (k * 11)).add j) = some u := by
  have hk := (List.getElem?_eq_some_iff.1 hv).1
  have hl := h.1
  rw [flat_len] at hl
  obtain ⟨ad, e, -, hc⟩ := h.2 (by omega)
  refine ⟨ad, e, fun j u hu => ?_⟩
  rw [add_of_add]
  refine hc _ u ?_
  rw [flat_at vs k j v hv (by have := (List.getElem?_eq_some_iff.1 hu).1; rwa [V.l_len] at this), hu]
theorem exec_load_V {w : World} {o : Oper} {ev : Operand → Value} {p : Operand} (ho : o.op = .load 42 p) {g : Nat} (hp : ev p = .pointer (some ⟨g, 0, none⟩)) {v : V} (h : VB w g v) : (execOp ev o).run Tryz.prog w = .ok (.value v.a) w := by
  unfold execOp
  simp only [ho, hp]
  simp [Instr.loadAt, Instr.sureAddr, structB_run isV rfl h]
  rfl
theorem infoV (v : V) : (Tryz.prog.info? 42).map (·.size) = some v.l.toArray.size := (show (Tryz.prog.info? 42).map (·.size) = some 11 by kernel_rfl).trans rfl
/-- A whole value is stored. -/
theorem wpList_stV {ops : Array Oper} {rest : List Oper} {o : Oper} {a : Act} {w : World} {Q : Exit → Act → World → Prop} (hgd : o.guard = none) {p x : Operand} (ho : o.op = .store 42 p x)
    {g : Nat} (hp : a.eval p = .pointer (some ⟨g, 0, none⟩)) (v : V) {cur : V} (hg : VB w g cur) (hx : a.eval x = v.a)
    (h : ∀ w', Hid (VB w' g v) → (∀ k, k ≠ g → w'.heap[k]? = w.heap[k]?) → (∀ B w0, Below B w0 w → B ≤ g → Below B w0 w') → wpList Tryz.prog ops Q rest (a.put o.dst undef) w') : wpList Tryz.prog ops Q (o :: rest) a w :=
  wpList_store_row hgd 42 p x ho g hp v.l.toArray hx _ _ hg (infoV v) rfl v.one h
end Go.Proofs.YtfcegalckjeafaaGreatDoor
namespace Go.Proofs.YtfcegalckjeafaaGreatDoor
open Go.RowKit Go.BigFrame
def lettersV : Value := .agg #[.int .u8 34, .int .u8 34, .int .u8 92, .int .u8 92, .int .u8 10, .int .u8 110, .int .u8 9, .int .u8 116, .int .u8 13, .int .u8 114]
set_option maxRecDepth 100000 in
theorem letters_any (w : World) : Calls Tryz.prog 146 #[] w fun e w' => e = .returned lettersV ∧ Below w.heap.size w w' := by
  go_enter Tryz.func146, Tryz.ntmps146
  go_wp2
  have hb := Blk.new w 196 #[.int .u8 34, .int .u8 34, .int .u8 92, .int .u8 92, .int .u8 10, .int .u8 110, .int .u8 9, .int .u8 116, .int .u8 13, .int .u8 114]
  have c0 := hb.cell 0
  have c1 := hb.cell 1
  have c2 := hb.cell 2
  have c3 := hb.cell 3
  have c4 := hb.cell 4
  have c5 := hb.cell 5
  have c6 := hb.cell 6
  have c7 := hb.cell 7
  have c8 := hb.cell 8
  have c9 := hb.cell 9
  simp only [List.getElem?_toArray, List.getElem?_cons_succ, List.getElem?_cons_zero] at c0 c1 c2 c3 c4 c5 c6 c7 c8 c9
  refine bodyPost_ret (v := lettersV) ?_ rfl ⟨rfl, (Below.refl _ _).alloc (Nat.le_refl _) _⟩
  generalize w.alloc (.cells _ _) = W at *
  simp [results, Tryz.f146, go_sem, c0, c1, c2, c3, c4, c5, c6, c7, c8, c9, lettersV]
/-- What a digit says, as the program has it: a byte and whether it is one. -/
def hexR (c : UInt8) : Value := match hexv c with | some m => .tuple #[.int .u8 m, .bool true] | none => .tuple #[.int .u8 0, .bool false]
def VOut (w : World) (v : Value) (e : Ending) (w' : World) : Prop := e = .returned v ∧ w' = w
theorem ret_v {a b : Value} (h : a = b) : Ending.returned a = .returned b := by rw [h]
def nib (n : Int) : Value := if 48 ≤ n ∧ n ≤ 57 then .tuple #[.int .u8 (n - 48), .bool true] else if 97 ≤ n ∧ n ≤ 102 then .tuple #[.int .u8 (n - 87), .bool true] else .tuple #[.int .u8 0, .bool false]
theorem nibble_any (n : Int) (h0 : 0 ≤ n) (h1 : n < 256) (w : World) : Calls Tryz.prog 227 #[.int .u8 n] w (VOut w (nib n)) := by
  obtain ⟨R, hR⟩ : ∃ R, R = nib n := ⟨_, rfl⟩
  rw [← hR]
  have HR := Lib.hid hR
  clear hR
  by_cases a : 48 ≤ n
  · by_cases b : n ≤ 57
    · go_enter Tryz.func227, Tryz.ntmps227
      go_wp2
      go_ret2
      exact ⟨ret_v (by rw [HR.out, nib, if_pos ⟨a, b⟩]; rfl), rfl⟩
    · by_cases c : 97 ≤ n
      · by_cases d : n ≤ 102
        · go_enter Tryz.func227, Tryz.ntmps227
          go_wp2
          go_ret2
          exact ⟨ret_v (by rw [HR.out, nib, if_neg (by omega), if_pos ⟨c, d⟩]; simp; omega), rfl⟩
        · go_enter Tryz.func227, Tryz.ntmps227
          go_wp2
          go_ret2
          exact ⟨ret_v (by rw [HR.out, nib, if_neg (by omega), if_neg (by omega)]; rfl), rfl⟩
      · go_enter Tryz.func227, Tryz.ntmps227
        go_wp2
        go_ret2
        exact ⟨ret_v (by rw [HR.out, nib, if_neg (by omega), if_neg (by omega)]; rfl), rfl⟩
  · have c : ¬ 97 ≤ n := by omega
    go_enter Tryz.func227, Tryz.ntmps227
    go_wp2
    go_ret2
    exact ⟨ret_v (by rw [HR.out, nib, if_neg (by omega), if_neg (by omega)]; rfl), rfl⟩
theorem hexR_nib (c : UInt8) : hexR c = if 65 ≤ (c.toNat : Int) ∧ (c.toNat : Int) ≤ 70 then nib ((c.toNat : Int) + 32) else nib (c.toNat : Int) := by
  unfold hexR hexv nib
  by_cases a : 48 ≤ c.toNat ∧ c.toNat ≤ 57
  · rw [if_pos a, if_neg (by omega), if_pos (by omega)]; simp; omega
  by_cases b : 97 ≤ c.toNat ∧ c.toNat ≤ 102
  · rw [if_neg a, if_pos b, if_neg (by omega), if_neg (by omega), if_pos (by omega)]; simp; omega
  by_cases d : 65 ≤ c.toNat ∧ c.toNat ≤ 70
  · rw [if_neg a, if_neg b, if_pos d, if_pos (by omega), if_neg (by omega), if_pos (by omega)]; simp; omega
  · rw [if_neg a, if_neg b, if_neg d, if_neg (by omega), if_neg (by omega), if_neg (by omega)]
theorem either_any (c : UInt8) (w : World) : Calls Tryz.prog 212 #[bv c] w (VOut w (hexR c)) := by
  have h1 : (0 : Int) ≤ (c.toNat : Int) := by omega
  have h2 : (c.toNat : Int) < 256 := by have := c.toNat_lt; omega
  rw [hexR_nib, bv]
  generalize (c.toNat : Int) = n at *
  have two : ∀ m : Int, 0 ≤ m → m < 256 → ∃ (x : Int) (b : Bool), nib m = .tuple #[.int .u8 x, .bool b] := fun m _ _ => by unfold nib; split <;> (try split) <;> exact ⟨_, _, rfl⟩
  by_cases a : 65 ≤ n
  · by_cases b : n ≤ 70
    · rw [if_pos ⟨a, b⟩]
      obtain ⟨x, y, e⟩ := two (n + 32) (by omega) (by omega)
      have HN := Lib.hid (nibble_any (n + 32) (by omega) (by omega) w)
      rw [e] at HN ⊢
      go_enter Tryz.func212, Tryz.ntmps212
      go_wp2_with fail
      refine HN.out.mono ?_
      rintro e w1 ⟨rfl, rfl⟩
      go_wp2
      go_ret2
      exact ⟨rfl, rfl⟩
    · rw [if_neg (by omega)]
      obtain ⟨x, y, e⟩ := two n h1 h2
      have HN := Lib.hid (nibble_any n h1 h2 w)
      rw [e] at HN ⊢
      go_enter Tryz.func212, Tryz.ntmps212
      go_wp2_with fail
      refine HN.out.mono ?_
      rintro e w1 ⟨rfl, rfl⟩
      go_wp2
      go_ret2
      exact ⟨rfl, rfl⟩
  · rw [if_neg (by omega)]
    obtain ⟨x, y, e⟩ := two n h1 h2
    have HN := Lib.hid (nibble_any n h1 h2 w)
    rw [e] at HN ⊢
    go_enter Tryz.func212, Tryz.ntmps212
    go_wp2_with fail
    refine HN.out.mono ?_
    rintro e w1 ⟨rfl, rfl⟩
    go_wp2
    go_ret2
    exact ⟨rfl, rfl⟩
end Go.Proofs.YtfcegalckjeafaaGreatDoor
namespace Go.Proofs.YtfcegalckjeafaaGreatDoor
open Go.RowKit Go.BigFrame
def U8Out (w : World) (c : UInt8) (e : Ending) (w' : World) : Prop := e = .returned (bv c) ∧ Below w.heap.size w w'
theorem letL_int (c : UInt8) : bv (letL c) = .int .u8 (if (c.toNat : Int) = 34 then 34 else if (c.toNat : Int) = 92 then 92 else if (c.toNat : Int) = 10 then 110 else if (c.toNat : Int) = 9 then 116 else if (c.toNat : Int) = 13 then 114 else 0) := by
  have h : ∀ k : UInt8, (c = k) ↔ ((c.toNat : Int) = (k.toNat : Int)) := fun k => by rw [← UInt8.toNat_inj]; omega
  simp only [letL, bv, h, show (34 : UInt8).toNat = 34 by rfl, show (92 : UInt8).toNat = 92 by rfl, show (10 : UInt8).toNat = 10 by rfl, show (9 : UInt8).toNat = 9 by rfl, show (13 : UInt8).toNat = 13 by rfl]
  congr 1
  norm_cast
  repeat' split
  all_goals rfl
section
variable (w : World)
theorem lidx0 : (Instr.index 196 (.agg #[.int .u8 34, .int .u8 34, .int .u8 92, .int .u8 92, .int .u8 10, .int .u8 110, .int .u8 9, .int .u8 116, .int .u8 13, .int .u8 114]) (.int .i64 0)).run Tryz.prog w = .ok (.agg #[.int .u8 34, .int .u8 34]) w := by kernel_rfl
theorem lidx1 : (Instr.index 196 (.agg #[.int .u8 34, .int .u8 34, .int .u8 92, .int .u8 92, .int .u8 10, .int .u8 110, .int .u8 9, .int .u8 116, .int .u8 13, .int .u8 114]) (.int .i64 1)).run Tryz.prog w = .ok (.agg #[.int .u8 92, .int .u8 92]) w := by kernel_rfl
theorem lidx2 : (Instr.index 196 (.agg #[.int .u8 34, .int .u8 34, .int .u8 92, .int .u8 92, .int .u8 10, .int .u8 110, .int .u8 9, .int .u8 116, .int .u8 13, .int .u8 114]) (.int .i64 2)).run Tryz.prog w = .ok (.agg #[.int .u8 10, .int .u8 110]) w := by kernel_rfl
theorem lidx3 : (Instr.index 196 (.agg #[.int .u8 34, .int .u8 34, .int .u8 92, .int .u8 92, .int .u8 10, .int .u8 110, .int .u8 9, .int .u8 116, .int .u8 13, .int .u8 114]) (.int .i64 3)).run Tryz.prog w = .ok (.agg #[.int .u8 9, .int .u8 116]) w := by kernel_rfl
theorem lidx4 : (Instr.index 196 (.agg #[.int .u8 34, .int .u8 34, .int .u8 92, .int .u8 92, .int .u8 10, .int .u8 110, .int .u8 9, .int .u8 116, .int .u8 13, .int .u8 114]) (.int .i64 4)).run Tryz.prog w = .ok (.agg #[.int .u8 13, .int .u8 114]) w := by kernel_rfl
end
attribute [local go_sem] lidx0 lidx1 lidx2 lidx3 lidx4
set_option maxRecDepth 100000 in
set_option maxHeartbeats 4000000 in
theorem letter2_any (c : UInt8) (w : World) : Calls Tryz.prog 99 #[bv c] w (U8Out w (letL c)) := by
  unfold U8Out
  rw [letL_int, bv]
  have hnn : (0 : Int) ≤ (c.toNat : Int) := by omega
  generalize (c.toNat : Int) = n at *
  obtain ⟨R, hR⟩ : ∃ R : Int, R = (if n = 34 then 34 else if n = 92 then 92 else if n = 10 then 110 else if n = 9 then 116 else if n = 13 then 114 else 0) := ⟨_, rfl⟩
  rw [← hR]
  by_cases h0 : n = 34
  · obtain rfl : R = 34 := by rw [hR]; simp [h0]
    subst h0
    clear hR
    go_enter Tryz.func99, Tryz.ntmps99
    go_wp2_with fail
    refine (letters_any _).mono ?_
    rintro e w1 ⟨rfl, hb⟩
    simp only [lettersV]
    go_wp2
    refine wp_loop_rounds 1 ?_
    rw [rounds_succ]
    go_wp2
    go_ret
    exact ⟨rfl, (hb).alloc (hb.size) _⟩
  have e0 : (n == 34) = false := by simpa using h0
  have e0' : ((34 : Int) == n) = false := by simp; omega
  by_cases h1 : n = 92
  · obtain rfl : R = 92 := by rw [hR]; simp [h1]
    subst h1
    clear hR
    go_enter Tryz.func99, Tryz.ntmps99
    go_wp2_with fail
    refine (letters_any _).mono ?_
    rintro e w1 ⟨rfl, hb⟩
    simp only [lettersV]
    go_wp2
    refine wp_loop_rounds 2 ?_
    rw [rounds_succ]
    go_wp2
    rw [rounds_succ]
    go_wp2
    go_ret
    exact ⟨rfl, ((hb).alloc (hb.size) _).alloc (by have := hb.size; simp; omega) _⟩
  have e1 : (n == 92) = false := by simpa using h1
  have e1' : ((92 : Int) == n) = false := by simp; omega
  by_cases h2 : n = 10
  · obtain rfl : R = 110 := by rw [hR]; simp [h2]
    subst h2
    clear hR
    go_enter Tryz.func99, Tryz.ntmps99
    go_wp2_with fail
    refine (letters_any _).mono ?_
    rintro e w1 ⟨rfl, hb⟩
    simp only [lettersV]
    go_wp2
    refine wp_loop_rounds 3 ?_
    rw [rounds_succ]
    go_wp2
    rw [rounds_succ]
    go_wp2
    rw [rounds_succ]
    go_wp2
    go_ret
    exact ⟨rfl, (((hb).alloc (hb.size) _).alloc (by have := hb.size; simp; omega) _).alloc (by have := hb.size; simp; omega) _⟩
  have e2 : (n == 10) = false := by simpa using h2
  have e2' : ((10 : Int) == n) = false := by simp; omega
  by_cases h3 : n = 9
  · obtain rfl : R = 116 := by rw [hR]; simp [h3]
    subst h3
    clear hR
    go_enter Tryz.func99, Tryz.ntmps99
    go_wp2_with fail
    refine (letters_any _).mono ?_
    rintro e w1 ⟨rfl, hb⟩
    simp only [lettersV]
    go_wp2
    refine wp_loop_rounds 4 ?_
    rw [rounds_succ]
    go_wp2
    rw [rounds_succ]
    go_wp2
    rw [rounds_succ]
    go_wp2
    rw [rounds_succ]
    go_wp2
    go_ret
    exact ⟨rfl, ((((hb).alloc (hb.size) _).alloc (by have := hb.size; simp; omega) _).alloc (by have := hb.size; simp; omega) _).alloc (by have := hb.size; simp; omega) _⟩
  have e3 : (n == 9) = false := by simpa using h3
  have e3' : ((9 : Int) == n) = false := by simp; omega
  by_cases h4 : n = 13
  · obtain rfl : R = 114 := by rw [hR]; simp [h4]
    subst h4
    clear hR
    go_enter Tryz.func99, Tryz.ntmps99
    go_wp2_with fail
    refine (letters_any _).mono ?_
    rintro e w1 ⟨rfl, hb⟩
    simp only [lettersV]
    go_wp2
    refine wp_loop_rounds 5 ?_
    rw [rounds_succ]
    go_wp2
    rw [rounds_succ]
    go_wp2
    rw [rounds_succ]
    go_wp2
    rw [rounds_succ]
    go_wp2
    rw [rounds_succ]
    go_wp2
    go_ret
    exact ⟨rfl, (((((hb).alloc (hb.size) _).alloc (by have := hb.size; simp; omega) _).alloc (by have := hb.size; simp; omega) _).alloc (by have := hb.size; simp; omega) _).alloc (by have := hb.size; simp; omega) _⟩
  have e4 : (n == 13) = false := by simpa using h4
  have e4' : ((13 : Int) == n) = false := by simp; omega
  obtain rfl : R = 0 := by rw [hR]; simp [h0, h1, h2, h3, h4]
  clear hR
  go_enter Tryz.func99, Tryz.ntmps99
  go_wp2_with fail
  refine (letters_any _).mono ?_
  rintro e w1 ⟨rfl, hb⟩
  simp only [lettersV]
  go_wp2
  refine wp_loop_rounds 6 ?_
  rw [rounds_succ]
  go_wp2
  rw [rounds_succ]
  go_wp2
  rw [rounds_succ]
  go_wp2
  rw [rounds_succ]
  go_wp2
  rw [rounds_succ]
  go_wp2
  rw [rounds_succ]
  go_wp2
  go_ret
  exact ⟨rfl, (((((hb).alloc (hb.size) _).alloc (by have := hb.size; simp; omega) _).alloc (by have := hb.size; simp; omega) _).alloc (by have := hb.size; simp; omega) _).alloc (by have := hb.size; simp; omega) _⟩
end Go.Proofs.YtfcegalckjeafaaGreatDoor
namespace Go.Proofs.YtfcegalckjeafaaGreatDoor
open Go.RowKit Go.BigFrame
attribute [local go_sem] lidx0 lidx1 lidx2 lidx3 lidx4
/-- A byte, and whether there is one. -/
def byR (c : UInt8) : Value := match byLet c with | some x => .tuple #[bv x, .bool true] | none => .tuple #[.int .u8 0, .bool false]
def VBOut (w : World) (v : Value) (e : Ending) (w' : World) : Prop := e = .returned v ∧ Below w.heap.size w w'
theorem byR_int (c : UInt8) : byR c = if (c.toNat : Int) = 47 then .tuple #[.int .u8 47, .bool true] else if (c.toNat : Int) = 34 then .tuple #[.int .u8 34, .bool true] else if (c.toNat : Int) = 92 then .tuple #[.int .u8 92, .bool true] else if (c.toNat : Int) = 110 then .tuple #[.int .u8 10, .bool true] else if (c.toNat : Int) = 116 then .tuple #[.int .u8 9, .bool true] else if (c.toNat : Int) = 114 then .tuple #[.int .u8 13, .bool true] else .tuple #[.int .u8 0, .bool false] := by
  have h : ∀ k : UInt8, (c = k) ↔ ((c.toNat : Int) = (k.toNat : Int)) := fun k => by rw [← UInt8.toNat_inj]; omega
  simp only [byR, byLet, h, show ((47 : UInt8).toNat : Int) = 47 by rfl, show ((34 : UInt8).toNat : Int) = 34 by rfl, show ((92 : UInt8).toNat : Int) = 92 by rfl, show ((110 : UInt8).toNat : Int) = 110 by rfl, show ((116 : UInt8).toNat : Int) = 116 by rfl, show ((114 : UInt8).toNat : Int) = 114 by rfl]
  repeat' split
  all_goals first | rfl | simp_all
  all_goals (rename_i hx _; subst hx; rfl)
set_option maxRecDepth 100000 in
set_option maxHeartbeats 4000000 in
theorem byLetter_any (c : UInt8) (w : World) : Calls Tryz.prog 182 #[bv c] w (VBOut w (byR c)) := by
  unfold VBOut
  rw [byR_int, bv]
  have hnn : (0 : Int) ≤ (c.toNat : Int) := by omega
  generalize (c.toNat : Int) = n at *
  obtain ⟨R, hR⟩ : ∃ R, R = (if n = 47 then Value.tuple #[.int .u8 47, .bool true] else if n = 34 then .tuple #[.int .u8 34, .bool true] else if n = 92 then .tuple #[.int .u8 92, .bool true] else if n = 110 then .tuple #[.int .u8 10, .bool true] else if n = 116 then .tuple #[.int .u8 9, .bool true] else if n = 114 then .tuple #[.int .u8 13, .bool true] else .tuple #[.int .u8 0, .bool false]) := ⟨_, rfl⟩
  rw [← hR]
  by_cases h : n = 47
  · obtain rfl : R = .tuple #[.int .u8 47, .bool true] := by rw [hR]; simp [h]
    subst h
    clear hR
    go_enter Tryz.func182, Tryz.ntmps182
    go_wp2
    go_ret2
    exact ⟨rfl, Below.refl _ _⟩
  have e47 : (n == 47) = false := by simpa using h
  by_cases h0 : n = 34
  · obtain rfl : R = .tuple #[.int .u8 34, .bool true] := by rw [hR]; simp [h0]
    subst h0
    clear hR
    go_enter Tryz.func182, Tryz.ntmps182
    go_wp2_with fail
    refine (letters_any _).mono ?_
    rintro e w1 ⟨rfl, hb⟩
    simp only [lettersV]
    go_wp2
    refine wp_loop_rounds 1 ?_
    rw [rounds_succ]
    go_wp2
    go_ret2
    exact ⟨rfl, (hb).alloc (hb.size) _⟩
  have e0 : (n == 34) = false := by simpa using h0
  have e0' : ((34 : Int) == n) = false := by simp; omega
  by_cases h1 : n = 92
  · obtain rfl : R = .tuple #[.int .u8 92, .bool true] := by rw [hR]; simp [h1]
    subst h1
    clear hR
    go_enter Tryz.func182, Tryz.ntmps182
    go_wp2_with fail
    refine (letters_any _).mono ?_
    rintro e w1 ⟨rfl, hb⟩
    simp only [lettersV]
    go_wp2
    refine wp_loop_rounds 2 ?_
    rw [rounds_succ]
    go_wp2
    rw [rounds_succ]
    go_wp2
    go_ret2
    exact ⟨rfl, ((hb).alloc (hb.size) _).alloc (by have := hb.size; simp; omega) _⟩
  have e1 : (n == 92) = false := by simpa using h1
  have e1' : ((92 : Int) == n) = false := by simp; omega
  by_cases h2 : n = 110
  · obtain rfl : R = .tuple #[.int .u8 10, .bool true] := by rw [hR]; simp [h2]
    subst h2
    clear hR
    go_enter Tryz.func182, Tryz.ntmps182
    go_wp2_with fail
    refine (letters_any _).mono ?_
    rintro e w1 ⟨rfl, hb⟩
    simp only [lettersV]
    go_wp2
    refine wp_loop_rounds 3 ?_
    rw [rounds_succ]
    go_wp2
    rw [rounds_succ]
    go_wp2
    rw [rounds_succ]
    go_wp2
    go_ret2
    exact ⟨rfl, (((hb).alloc (hb.size) _).alloc (by have := hb.size; simp; omega) _).alloc (by have := hb.size; simp; omega) _⟩
  have e2 : (n == 110) = false := by simpa using h2
  have e2' : ((110 : Int) == n) = false := by simp; omega
  by_cases h3 : n = 116
  · obtain rfl : R = .tuple #[.int .u8 9, .bool true] := by rw [hR]; simp [h3]
    subst h3
    clear hR
    go_enter Tryz.func182, Tryz.ntmps182
    go_wp2_with fail
    refine (letters_any _).mono ?_
    rintro e w1 ⟨rfl, hb⟩
    simp only [lettersV]
    go_wp2
    refine wp_loop_rounds 4 ?_
    rw [rounds_succ]
    go_wp2
    rw [rounds_succ]
    go_wp2
    rw [rounds_succ]
    go_wp2
    rw [rounds_succ]
    go_wp2
    go_ret2
    exact ⟨rfl, ((((hb).alloc (hb.size) _).alloc (by have := hb.size; simp; omega) _).alloc (by have := hb.size; simp; omega) _).alloc (by have := hb.size; simp; omega) _⟩
  have e3 : (n == 116) = false := by simpa using h3
  have e3' : ((116 : Int) == n) = false := by simp; omega
  by_cases h4 : n = 114
  · obtain rfl : R = .tuple #[.int .u8 13, .bool true] := by rw [hR]; simp [h4]
    subst h4
    clear hR
    go_enter Tryz.func182, Tryz.ntmps182
    go_wp2_with fail
    refine (letters_any _).mono ?_
    rintro e w1 ⟨rfl, hb⟩
    simp only [lettersV]
    go_wp2
    refine wp_loop_rounds 5 ?_
    rw [rounds_succ]
    go_wp2
    rw [rounds_succ]
    go_wp2
    rw [rounds_succ]
    go_wp2
    rw [rounds_succ]
    go_wp2
    rw [rounds_succ]
    go_wp2
    go_ret2
    exact ⟨rfl, (((((hb).alloc (hb.size) _).alloc (by have := hb.size; simp; omega) _).alloc (by have := hb.size; simp; omega) _).alloc (by have := hb.size; simp; omega) _).alloc (by have := hb.size; simp; omega) _⟩
  have e4 : (n == 114) = false := by simpa using h4
  have e4' : ((114 : Int) == n) = false := by simp; omega
  obtain rfl : R = .tuple #[.int .u8 0, .bool false] := by rw [hR]; simp [h, h0, h1, h2, h3, h4]
  clear hR
  go_enter Tryz.func182, Tryz.ntmps182
  go_wp2_with fail
  refine (letters_any _).mono ?_
  rintro e w1 ⟨rfl, hb⟩
  simp only [lettersV]
  go_wp2
  refine wp_loop_rounds 6 ?_
  rw [rounds_succ]
  go_wp2
  rw [rounds_succ]
  go_wp2
  rw [rounds_succ]
  go_wp2
  rw [rounds_succ]
  go_wp2
  rw [rounds_succ]
  go_wp2
  rw [rounds_succ]
  go_wp2
  go_ret2
  exact ⟨rfl, (((((hb).alloc (hb.size) _).alloc (by have := hb.size; simp; omega) _).alloc (by have := hb.size; simp; omega) _).alloc (by have := hb.size; simp; omega) _).alloc (by have := hb.size; simp; omega) _⟩
end Go.Proofs.YtfcegalckjeafaaGreatDoor
