/-
  Parts of the proof that AddrTold,AddrBegins calls on: TxLex, Ta, Va, El, Ret.
-/
import Derived.Test.YtfcegalckjeafaaGreatDoorM101
import Derived.Test.YtfcegalckjeafaaGreatDoorM102
namespace Go.Proofs.YtfcegalckjeafaaGreatDoor
/-- A token. -/
structure Tok where
  k : Int
  a : Int
  e : Int
  i : Int
  t : List UInt8
/-- A blank. -/
def blank (c : UInt8) : Bool := c == 32 || c == 9 || c == 10 || c == 13
/-- A letter of a name. -/
def letB (c : UInt8) (d : Bool) : Bool := (97 ≤ c.toNat && c.toNat ≤ 122) || (65 ≤ c.toNat && c.toNat ≤ 90) || c == 95 || (d && isDig c)
/-- All signs. -/
def signsL : List (List UInt8) := [[46, 46], [61, 61], [33, 61], [60, 61], [62, 61], [38, 38], [124, 124], [91], [93], [123], [125], [60], [62], [40], [41], [44], [58], [46], [42], [63], [33], [36], [64]]
/-- The token that stands right at a place. -/
def tokL (l : List UInt8) (p : Nat) : Tok ⊕ (Nat × Int) :=
  match l with
  | [] => .inl ⟨0, p, p, 0, []⟩
  | c :: t =>
    if c = 34 then (match unqL (c :: t) with
      | .inl r => .inl ⟨4, p, (p + r.2 : Nat), 0, r.1⟩
      | .inr r => .inr (p + r.1, r.2))
    else if letB c false then .inl ⟨2, p, (p + 1 + (t.takeWhile (letB · true)).length : Nat), 0, c :: t.takeWhile (letB · true)⟩
    else if c = 45 ∨ isDig c = true then
      (if (parseL (c :: t.takeWhile isDig)).2 = 0 then .inl ⟨3, p, (p + 1 + (t.takeWhile isDig).length : Nat), (parseL (c :: t.takeWhile isDig)).1, []⟩ else .inr (p, (parseL (c :: t.takeWhile isDig)).2))
    else match signsL.find? (fun x => x.isPrefixOf (c :: t)) with
      | some x => .inl ⟨1, p, (p + x.length : Nat), 0, x⟩
      | none => .inr (p, 2)
/-- Where a text goes on behind blanks. -/
def skipL (s : List UInt8) (p : Nat) : Nat := p + ((s.drop p).takeWhile blank).length
/-- The token of a text from a place on. -/
def nextL (s : List UInt8) (p : Nat) : Tok ⊕ (Nat × Int) := tokL (s.drop (skipL s p)) (skipL s p)
/-- Why a token can't stand there. -/
def wrongL (s : List UInt8) (t : Tok) : Nat × Int := if t.k = 0 then (s.length, 10) else (t.a.toNat, 2)
/-- A sign that must stand at a place. -/
def signL (s : List UInt8) (p : Nat) (x : List UInt8) : Nat ⊕ (Nat × Int) :=
  match nextL s p with
  | .inr r => .inr r
  | .inl t => if t.k = 1 ∧ t.t = x then .inl t.e.toNat else .inr (wrongL s t)
/-- The sign that closes a step. -/
def endL (o : List UInt8) : List UInt8 := if o = [60] then [62] else [93]
/-- What a token says within a step's signs. -/
def saysL (o : List UInt8) (t : Tok) : Option St := if t.k = 4 then some ⟨if o = [60] then 2 else 1, 0, t.t⟩ else if t.k = 3 ∧ o ≠ [60] then some ⟨0, t.i, []⟩ else none
/-- A step behind its first sign o, which ends at a place. -/
def stepL (s : List UInt8) (o : List UInt8) (p : Nat) : (St × Nat) ⊕ (Nat × Int) :=
  match nextL s p with
  | .inr r => .inr r
  | .inl t => match saysL o t with
    | none => .inr (wrongL s t)
    | some x => match signL s t.e.toNat (endL o) with
      | .inr r => .inr r
      | .inl a => .inl (x, a)
/-- The steps from a place on (so many rounds at most). -/
def goL (s : List UInt8) : Nat → Nat → List St → List St ⊕ (Nat × Int)
  | 0, _, _ => .inr (0, 0)
  | n + 1, p, acc => match nextL s p with
    | .inr r => .inr r
    | .inl t => if t.k = 0 then .inl acc else if t.k = 1 ∧ (t.t = [91] ∨ t.t = [60]) then
        (match stepL s t.t t.e.toNat with
        | .inr r => .inr r
        | .inl x => goL s n x.2 (acc ++ [x.1])) else .inr (wrongL s t)
/-- The address of a text. -/
def addrL (s : List UInt8) : List St ⊕ (Nat × Int) :=
  match signL s 0 [36] with
  | .inr r => .inr r
  | .inl p => goL s (s.length + 1) p []
/-- A step as a text. -/
def stepT (x : St) : List UInt8 := if x.K = 0 then 91 :: (decL x.I ++ [93]) else if x.K = 1 then 91 :: (quoteL x.T ++ [93]) else if x.K = 2 then 60 :: (quoteL x.T ++ [62]) else [91, 63, 93]
/-- An address as a text. -/
def printL (l : List St) : List UInt8 := 36 :: l.flatMap stepT
theorem consU_inl {x : UInt8} {u : (List UInt8 × Nat) ⊕ (Nat × Int)} {r : List UInt8 × Nat} (h : consU x u = .inl r) : ∃ r', u = .inl r' ∧ r = (x :: r'.1, r'.2) := by
  cases u with
  | inl r' => simp [consU] at h; exact ⟨r', rfl, h.symm⟩
  | inr r' => simp [consU] at h
theorem unqB_le : ∀ (n : Nat) (l : List UInt8) (p : Nat) (r : List UInt8 × Nat), l.length ≤ n → unqB l p = .inl r → p < r.2 ∧ r.2 ≤ p + l.length ∧ r.1.length ≤ l.length
  | _, [], p, r, _, h => by simp [unqB] at h
  | 0, c :: t, _, _, h, _ => by simp at h
  | n + 1, c :: t, p, r, hn, h => by
    unfold unqB at h
    have key : ∀ (x : UInt8) (t' : List UInt8) (k : Nat), t'.length + k ≤ (c :: t).length → 0 < k → consU x (unqB t' (p + k)) = .inl r → p < r.2 ∧ r.2 ≤ p + (c :: t).length ∧ r.1.length ≤ (c :: t).length := fun x t' k hk h0 h => by
      obtain ⟨r', hu, rfl⟩ := consU_inl h
      have := unqB_le n t' (p + k) r' (by simp at hn hk; omega) hu
      simp at this hk ⊢; omega
    split at h
    · cases h; simp
    split at h
    · cases h
    split at h
    · exact key _ _ _ (by simp) (by omega) h
    split at h
    · cases h
    split at h
    · split at h
      · cases h
      split at h
      · cases h
      split at h
      · cases h
      split at h
      · cases h
      exact key _ _ _ (by simp) (by omega) h
    · split at h
      · cases h
      exact key _ _ _ (by simp) (by omega) h
theorem unqL_le (l : List UInt8) (r : List UInt8 × Nat) (h : unqL l = .inl r) : 1 < r.2 ∧ r.2 ≤ l.length ∧ r.1.length ≤ l.length := by
  cases l with
  | nil => simp [unqL] at h
  | cons c t =>
    rw [unqL] at h
    split at h
    · have := unqB_le _ t 1 r (Nat.le_refl _) h
      simp; omega
    · cases h
theorem skipL_le (s : List UInt8) (p : Nat) (h : p ≤ s.length) : p ≤ skipL s p ∧ skipL s p ≤ s.length := by
  have := (List.takeWhile_sublist (p := blank) (l := s.drop p)).length_le
  rw [List.length_drop] at this
  unfold skipL
  omega
/-- A token ends behind where it begins, unless it is the end. -/
theorem tokL_le (l : List UInt8) (p : Nat) (t : Tok) (h : tokL l p = .inl t) : (t.k = 0 ∧ t.e = p ∧ l = [] ∨ t.k ≠ 0 ∧ (p : Int) < t.e) ∧ t.a = p ∧ t.e ≤ p + l.length := by
  unfold tokL at h
  split at h
  · cases h; simp
  rename_i c u
  split at h
  · split at h
    · rename_i r hr
      have := unqL_le _ _ hr
      cases h; simp at this ⊢; omega
    · cases h
  split at h
  · have := (List.takeWhile_sublist (p := (letB · true)) (l := u)).length_le
    cases h; simp; omega
  split at h
  · split at h
    · have := (List.takeWhile_sublist (p := isDig) (l := u)).length_le
      cases h; simp; omega
    · cases h
  split at h
  · rename_i x hx
    have h1 := List.find?_some hx
    have h2 := List.mem_of_find?_eq_some hx
    have h3 : x.length ≤ (c :: u).length := (List.isPrefixOf_iff_prefix.1 h1).length_le
    have h4 : 0 < x.length := by simp [signsL] at h2; rcases h2 with h2 | h2 | h2 | h2 | h2 | h2 | h2 | h2 | h2 | h2 | h2 | h2 | h2 | h2 | h2 | h2 | h2 | h2 | h2 | h2 | h2 | h2 | h2 <;> subst h2 <;> simp
    cases h; simp at h3 ⊢; omega
  · cases h
theorem nextL_le (s : List UInt8) (p : Nat) (hp : p ≤ s.length) (t : Tok) (h : nextL s p = .inl t) : (t.k = 0 ∨ t.k ≠ 0 ∧ (p : Int) < t.e) ∧ (p : Int) ≤ t.a ∧ (p : Int) ≤ t.e ∧ t.e ≤ s.length ∧ t.a ≤ s.length := by
  have h1 := skipL_le s p hp
  have h2 := tokL_le _ _ _ h
  rw [List.length_drop] at h2
  omega
end Go.Proofs.YtfcegalckjeafaaGreatDoor
namespace Go.Proofs.YtfcegalckjeafaaGreatDoor
open Go.RowKit Go.BigFrame
theorem ret_b {a b : Bool} (h : a = b) : Ending.returned (.bool a) = .returned (.bool b) := by rw [h]
theorem b_eq (c : UInt8) (n : Nat) (hn : n < 256) : (c == UInt8.ofNat n) = ((c.toNat : Int) == (n : Int)) := (u8_eq c n hn).symm
theorem isDig_int (c : UInt8) : isDig c = (decide ((48 : Int) ≤ (c.toNat : Int)) && decide ((c.toNat : Int) ≤ 57)) := by
  rw [Bool.eq_iff_iff]; simp only [isDig, Bool.and_eq_true, decide_eq_true_eq]; omega
theorem letB_int (c : UInt8) (d : Bool) : letB c d = ((decide ((97 : Int) ≤ (c.toNat : Int)) && decide ((c.toNat : Int) ≤ 122)) || (decide ((65 : Int) ≤ (c.toNat : Int)) && decide ((c.toNat : Int) ≤ 90)) || ((c.toNat : Int) == 95) || (d && isDig c)) := by
  have h := b_eq c 95 (by decide)
  rw [show (UInt8.ofNat 95) = (95 : UInt8) by rfl] at h
  rw [letB, h]
  have e1 : (decide (97 ≤ c.toNat) && decide (c.toNat ≤ 122)) = (decide ((97 : Int) ≤ (c.toNat : Int)) && decide ((c.toNat : Int) ≤ 122)) := by rw [Bool.eq_iff_iff]; simp only [Bool.and_eq_true, decide_eq_true_eq]; omega
  have e2 : (decide (65 ≤ c.toNat) && decide (c.toNat ≤ 90)) = (decide ((65 : Int) ≤ (c.toNat : Int)) && decide ((c.toNat : Int) ≤ 90)) := by rw [Bool.eq_iff_iff]; simp only [Bool.and_eq_true, decide_eq_true_eq]; omega
  rw [e1, e2]
  rfl
theorem blank_int (c : UInt8) : blank c = (((c.toNat : Int) == 32) || ((c.toNat : Int) == 9) || ((c.toNat : Int) == 10) || ((c.toNat : Int) == 13)) := by
  have h1 := b_eq c 32 (by decide)
  have h2 := b_eq c 9 (by decide)
  have h3 := b_eq c 10 (by decide)
  have h4 := b_eq c 13 (by decide)
  simp only [blank]
  rw [← show ((c.toNat : Int) == ((32 : Nat) : Int)) = ((c.toNat : Int) == 32) by rfl, ← h1, ← show ((c.toNat : Int) == ((9 : Nat) : Int)) = ((c.toNat : Int) == 9) by rfl, ← h2, ← show ((c.toNat : Int) == ((10 : Nat) : Int)) = ((c.toNat : Int) == 10) by rfl, ← h3, ← show ((c.toNat : Int) == ((13 : Nat) : Int)) = ((c.toNat : Int) == 13) by rfl, ← h4]
  rfl
def BOut (w : World) (b : Bool) (e : Ending) (w' : World) : Prop := e = .returned (.bool b) ∧ w' = w
theorem digit_any (c : UInt8) (w : World) : Calls Tryz.prog 95 #[bv c] w (BOut w (isDig c)) := by
  have hb : (0 : Int) ≤ (c.toNat : Int) := by omega
  rw [isDig_int, bv]
  generalize (c.toNat : Int) = n at *
  by_cases h1 : 48 ≤ n <;> by_cases h2 : n ≤ 57 <;>
  · go_enter Tryz.func95, Tryz.ntmps95
    go_wp2
    go_ret
    exact ⟨by simp [h1, h2], rfl⟩
theorem blank_any (c : UInt8) (w : World) : Calls Tryz.prog 92 #[bv c] w (BOut w (blank c)) := by
  rw [blank_int, bv]
  generalize (c.toNat : Int) = n at *
  by_cases h1 : n = 32
  · subst h1
    go_enter Tryz.func92, Tryz.ntmps92
    go_wp2
    go_ret
    exact ⟨rfl, rfl⟩
  by_cases h2 : n = 9
  · subst h2
    go_enter Tryz.func92, Tryz.ntmps92
    go_wp2
    go_ret
    exact ⟨rfl, rfl⟩
  by_cases h3 : n = 10
  · subst h3
    go_enter Tryz.func92, Tryz.ntmps92
    go_wp2
    go_ret
    exact ⟨rfl, rfl⟩
  by_cases h4 : n = 13
  · subst h4
    go_enter Tryz.func92, Tryz.ntmps92
    go_wp2
    go_ret
    exact ⟨rfl, rfl⟩
  have e1 : (n == 32) = false := by simpa using h1
  have e2 : (n == 9) = false := by simpa using h2
  have e3 : (n == 10) = false := by simpa using h3
  have e4 : (n == 13) = false := by simpa using h4
  go_enter Tryz.func92, Tryz.ntmps92
  go_wp2
  go_ret
  exact ⟨ret_b (by simp [e1, e2, e3, e4]), rfl⟩
theorem lt_dec (n : Int) (dd a1 a2 a3 a4 a5 : Bool) (r : Bool) (h1 : a1 = decide (97 ≤ n)) (h2 : a2 = decide (n ≤ 122)) (h3 : a3 = decide (65 ≤ n)) (h4 : a4 = decide (n ≤ 90)) (h5 : (n == 95) = a5) (hr : r = ((a1 && a2) || (a3 && a4) || a5 || dd)) :
    r = ((decide (97 ≤ n) && decide (n ≤ 122)) || (decide (65 ≤ n) && decide (n ≤ 90)) || (n == 95) || dd) := by subst h1 h2 h3 h4 h5; exact hr
theorem letter_any (c : UInt8) (d : Bool) (w : World) : Calls Tryz.prog 94 #[bv c, .bool d] w (BOut w (letB c d)) := by
  have HD := Lib.hid (digit_any c w)
  rw [letB_int]
  simp only [bv] at HD ⊢
  generalize isDig c = dg at *
  generalize (c.toNat : Int) = n at *
  obtain ⟨R, hR⟩ : ∃ R, R = ((decide (97 ≤ n) && decide (n ≤ 122)) || (decide (65 ≤ n) && decide (n ≤ 90)) || (n == 95) || (d && dg)) := ⟨_, rfl⟩
  rw [← hR]
  have HR := Lib.hid hR
  clear hR
  by_cases h1 : 97 ≤ n
  · by_cases h2 : n ≤ 122
    · go_enter Tryz.func94, Tryz.ntmps94
      go_wp2
      go_ret
      exact ⟨ret_b (by rw [HR.out]; simp [h1, h2]), rfl⟩
    · have h3 : 65 ≤ n := by omega
      have h4 : ¬ n ≤ 90 := by omega
      have h5 : (n == 95) = false := by simp; omega
      cases d
      · go_enter Tryz.func94, Tryz.ntmps94
        go_wp2
        go_ret
        refine ⟨ret_b ?_, rfl⟩
        rw [HR.out]
        refine lt_dec n _ true false true false _ _ (decide_eq_true (by omega)).symm (decide_eq_false (by omega)).symm (decide_eq_true (by omega)).symm (decide_eq_false (by omega)).symm h5 ?_
        simp
      · go_enter Tryz.func94, Tryz.ntmps94
        go_wp2_with fail
        refine HD.out.mono ?_
        rintro e w1 ⟨rfl, rfl⟩
        go_wp2
        go_ret
        refine ⟨ret_b ?_, rfl⟩
        rw [HR.out]
        refine lt_dec n _ true false true false _ _ (decide_eq_true (by omega)).symm (decide_eq_false (by omega)).symm (decide_eq_true (by omega)).symm (decide_eq_false (by omega)).symm h5 ?_
        simp
  · by_cases h3 : 65 ≤ n
    · by_cases h4 : n ≤ 90
      · go_enter Tryz.func94, Tryz.ntmps94
        go_wp2
        go_ret
        exact ⟨ret_b (by rw [HR.out]; simp [h3, h4]), rfl⟩
      · by_cases h5 : n = 95
        · subst h5
          go_enter Tryz.func94, Tryz.ntmps94
          go_wp2
          go_ret
          exact ⟨ret_b (by rw [HR.out]; simp), rfl⟩
        · have h6 : (n == 95) = false := by simpa using h5
          cases d
          · go_enter Tryz.func94, Tryz.ntmps94
            go_wp2
            go_ret
            refine ⟨ret_b ?_, rfl⟩
            rw [HR.out]
            refine lt_dec n _ false true true false _ _ (decide_eq_false (by omega)).symm (decide_eq_true (by omega)).symm (decide_eq_true (by omega)).symm (decide_eq_false (by omega)).symm h6 ?_
            simp
          · go_enter Tryz.func94, Tryz.ntmps94
            go_wp2_with fail
            refine HD.out.mono ?_
            rintro e w1 ⟨rfl, rfl⟩
            go_wp2
            go_ret
            refine ⟨ret_b ?_, rfl⟩
            rw [HR.out]
            refine lt_dec n _ false true true false _ _ (decide_eq_false (by omega)).symm (decide_eq_true (by omega)).symm (decide_eq_true (by omega)).symm (decide_eq_false (by omega)).symm h6 ?_
            simp
    · have h6 : (n == 95) = false := by simp; omega
      cases d
      · go_enter Tryz.func94, Tryz.ntmps94
        go_wp2
        go_ret
        refine ⟨ret_b ?_, rfl⟩
        rw [HR.out]
        refine lt_dec n _ false true false true _ _ (decide_eq_false (by omega)).symm (decide_eq_true (by omega)).symm (decide_eq_false (by omega)).symm (decide_eq_true (by omega)).symm h6 ?_
        simp
      · go_enter Tryz.func94, Tryz.ntmps94
        go_wp2_with fail
        refine HD.out.mono ?_
        rintro e w1 ⟨rfl, rfl⟩
        go_wp2
        go_ret
        refine ⟨ret_b ?_, rfl⟩
        rw [HR.out]
        refine lt_dec n _ false true false true _ _ (decide_eq_false (by omega)).symm (decide_eq_true (by omega)).symm (decide_eq_false (by omega)).symm (decide_eq_true (by omega)).symm h6 ?_
        simp
end Go.Proofs.YtfcegalckjeafaaGreatDoor
namespace Go.Proofs.YtfcegalckjeafaaGreatDoor
open Go.RowKit
/-- What lies in the blocks of S stays. -/
def Keeps (S : Nat → Prop) (w w' : World) : Prop := ∀ k, k < w.heap.size → S k → w'.heap[k]? = w.heap[k]?
section
variable {S S' : Nat → Prop} {w w' w'' : World} {B : Nat}
theorem Keeps.of_below (h : Below w.heap.size w w') : Keeps S w w' := fun k hk _ => h.block k hk
theorem Keeps.of_grown {row : Option Nat} (h : w.grownBy w' row) (hr : ∀ k, S k → some k ≠ row) : Keeps S w w' := fun k hk hs => h.block k hk (hr k hs)
theorem Blk.keeps {g : Nat} {t : TypeId} {cs : Array Value} (h : Blk w g t cs) (hk : Keeps S w w') (hg : S g) : Blk w' g t cs := (hk g h.lt hg).trans h
theorem cell_keeps {p : Addr} {u : Value} (h : w.cell? p = some u) (hk : Keeps S w w') (hp : S p.block) : w'.cell? p = some u := by
  have hb := hk p.block (World.block_lt_of_cell? w p h) hp
  rw [← h]
  unfold World.cell?
  rw [hb]
theorem Reads.keeps {size n : Nat} {A : Option Addr} {xs : List Value} (h : Reads w S size A n xs) (hk : Keeps S w w') : Reads w' S size A n xs :=
  ⟨h.1, fun hn => by
    obtain ⟨ad, e, hb, hc⟩ := h.2 hn
    exact ⟨ad, e, hb, fun j u hu => cell_keeps (hc j u hu) hk (by rw [block_of_add]; exact hb)⟩⟩
end
/-- The blocks of S, and all that are made from B on. -/
def up (S : Nat → Prop) (B : Nat) : Nat → Prop := fun k => S k ∨ B ≤ k
/-- A tree. -/
inductive T where
  | mk (k i : Int) (t : List UInt8) (ks : List (List UInt8)) (xs : List T)
namespace T
def k : T → Int | mk k _ _ _ _ => k
def i : T → Int | mk _ i _ _ _ => i
def t : T → List UInt8 | mk _ _ t _ _ => t
def ks : T → List (List UInt8) | mk _ _ _ ks _ => ks
def xs : T → List T | mk _ _ _ _ xs => xs
end T
mutual
def T.nodes : T → Nat | .mk _ _ _ _ xs => nodesL xs + 1
def nodesL : List T → Nat | [] => 0 | x :: xs => x.nodes + nodesL xs
end
mutual
def T.depth : T → Nat | .mk _ _ _ _ xs => depthL xs + 1
def depthL : List T → Nat | [] => 0 | x :: xs => max x.depth (depthL xs)
end
theorem T.nodes_pos (x : T) : 0 < x.nodes := by cases x; simp [T.nodes]
theorem T.depth_pos (x : T) : 0 < x.depth := by cases x; simp [T.depth]
theorem T.nodes_eq (x : T) : x.nodes = nodesL x.xs + 1 := by cases x; rfl
theorem T.depth_eq (x : T) : x.depth = depthL x.xs + 1 := by cases x; rfl
theorem nodesL_app (a b : List T) : nodesL (a ++ b) = nodesL a + nodesL b := by
  induction a with
  | nil => simp [nodesL]
  | cons x a ih => simp [nodesL, ih]; omega
theorem len_nodesL (l : List T) : l.length ≤ nodesL l := by
  induction l with
  | nil => simp [nodesL]
  | cons x l ih => have := x.nodes_pos; simp [nodesL]; omega
theorem nodesL_mem {x : T} {l : List T} (h : x ∈ l) : x.nodes ≤ nodesL l := by
  induction l with
  | nil => cases h
  | cons y l ih =>
    rcases List.mem_cons.1 h with rfl | h
    · simp [nodesL]
    · have := ih h; simp [nodesL]; omega
theorem depthL_mem {x : T} {l : List T} (h : x ∈ l) : x.depth ≤ depthL l := by
  induction l with
  | nil => cases h
  | cons y l ih =>
    rcases List.mem_cons.1 h with rfl | h
    · simp [depthL]; omega
    · have := ih h; simp [depthL]; omega
/-- A text within a key. -/
def kchar (c : UInt8) : List UInt8 := if c = 0 then [0, 255] else [c]
def ktext (s : List UInt8) : List UInt8 := 4 :: (s.flatMap kchar ++ [0, 0])
/-- The eight bytes of a number, in the numbers' order. -/
def nbytes (i : Int) : List UInt8 := (List.range 8).map fun j => UInt8.ofNat (((i + 9223372036854775808).toNat / 256 ^ (7 - j)) % 256)
/-- A scalar's key. -/
def skey (k i : Int) (t : List UInt8) : List UInt8 := if k = 0 then [1] else if k = 1 then [2, UInt8.ofNat i.toNat] else if k = 2 then 3 :: nbytes i else ktext t
mutual
def T.key : T → List UInt8 | .mk k i t ks xs => if k < 4 then skey k i t else UInt8.ofNat (k.toNat + 1) :: (keyL (decide (k = 5)) ks xs ++ [0])
def keyL (m : Bool) (ks : List (List UInt8)) : List T → List UInt8
  | [] => []
  | x :: xs => (if m then ktext (ks.headD []) else []) ++ x.key ++ keyL m ks.tail xs
end
/-- A scalar that may be. -/
def Sc (k i : Int) (t : List UInt8) : Prop := (k = 0 ∧ i = 0 ∧ t = []) ∨ (k = 1 ∧ (i = 0 ∨ i = 1) ∧ t = []) ∨ (k = 2 ∧ t = [] ∧ -9223372036854775808 ≤ i ∧ i ≤ 9223372036854775807) ∨ (k = 3 ∧ i = 0)
/-- The cells of a value. -/
structure V where
  sk : Int
  si : Int
  st : List UInt8
  kd : Int
  vec : Option Addr
  seed : Int
  bits : Int
  n : Int
  dic : Option Addr
  bel : Int
  mor : Int
def V.l (v : V) : List Value := [.int .i64 v.sk, .int .i64 v.si, sv v.st, .int .i64 v.kd, .pointer v.vec, .int .u64 v.seed, .int .i64 v.bits, .int .i64 v.n, .pointer v.dic, .int .i64 v.bel, .int .i64 v.mor]
def V.a (v : V) : Value := .agg #[.int .i64 v.sk, .int .i64 v.si, .string ⟨v.st.toArray⟩, .int .i64 v.kd, .pointer v.vec, .int .u64 v.seed, .int .i64 v.bits, .int .i64 v.n, .pointer v.dic, .int .i64 v.bel, .int .i64 v.mor]
def V.z : V := ⟨0, 0, [], 0, none, 0, 0, 0, none, 0, 0⟩
theorem V.l_len (v : V) : v.l.length = 11 := rfl
/-- Values, one behind the other. -/
def flat (vs : List V) : List Value := vs.flatMap V.l
theorem flat_len (vs : List V) : (flat vs).length = vs.length * 11 := by
  induction vs with
  | nil => rfl
  | cons v vs ih => simp [flat, V.l_len] at ih ⊢; omega
theorem flat_app (a b : List V) : flat (a ++ b) = flat a ++ flat b := by simp [flat]
theorem flat_one (vs : List V) : ∀ u ∈ flat vs, u.oneCell' = true := by
  intro u hu
  simp only [flat, List.mem_flatMap, V.l, List.mem_cons, List.not_mem_nil, or_false] at hu
  obtain ⟨v, _, h⟩ := hu
  rcases h with rfl | rfl | rfl | rfl | rfl | rfl | rfl | rfl | rfl | rfl | rfl <;> rfl
theorem flat_take (vs : List V) (k : Nat) : (flat vs).take (k * 11) = flat (vs.take k) := by
  induction vs generalizing k with
  | nil => simp [flat]
  | cons v vs ih =>
    cases k with
    | zero => simp [flat]
    | succ k =>
      have := ih k
      simp only [flat, List.flatMap_cons, List.take_succ_cons] at this ⊢
      rw [show (k + 1) * 11 = v.l.length + k * 11 by rw [V.l_len]; omega, List.take_length_add_append, this]
theorem flat_drop (vs : List V) (k : Nat) : (flat vs).drop (k * 11) = flat (vs.drop k) := by
  induction vs generalizing k with
  | nil => simp [flat]
  | cons v vs ih =>
    cases k with
    | zero => simp [flat]
    | succ k =>
      have := ih k
      simp only [flat, List.flatMap_cons, List.drop_succ_cons] at this ⊢
      rw [show (k + 1) * 11 = v.l.length + k * 11 by rw [V.l_len]; omega, List.drop_length_add_append, this]
theorem flat_at (vs : List V) (k j : Nat) (v : V) (h : vs[k]? = some v) (hj : j < 11) : (flat vs)[k * 11 + j]? = v.l[j]? := by
  have h1 : (flat vs)[k * 11 + j]? = ((flat vs).drop (k * 11))[j]? := by rw [List.getElem?_drop]
  rw [h1, flat_drop]
  obtain ⟨hk, e⟩ := List.getElem?_eq_some_iff.1 h
  rw [List.drop_eq_getElem_cons hk, e]
  simp only [flat, List.flatMap_cons]
  rw [List.getElem?_append_left (by rw [V.l_len]; exact hj)]
/-- A rope's tree of a depth: the values, and what lies in memory. -/
def IsR (w : World) (S : Nat → Prop) : Nat → List V → Option Addr → Prop
  | 0, _, _ => False
  | d + 1, vs, p => ∃ b A c, p = some ⟨b, 0, none⟩ ∧ S b ∧
    ((d = 0 ∧ Blk w b 217 #[.int .i64 (vs.length : Int), .int .i64 1, .slice none 0 0, .slice A vs.length c] ∧ 1 ≤ vs.length ∧ vs.length ≤ 16 ∧ vs.length ≤ c ∧ Reads w S 11 A vs.length (flat vs)) ∨
     (0 < d ∧ ∃ (ks : List (List V)) (ps : List (Option Addr)), vs = ks.flatten ∧ Blk w b 217 #[.int .i64 (vs.length : Int), .int .i64 ((d + 1 : Nat) : Int), .slice A ks.length c, .slice none 0 0] ∧
      2 ≤ ks.length ∧ ks.length ≤ 16 ∧ ks.length ≤ c ∧ ps.length = ks.length ∧ Reads w S 1 A ks.length (ps.map .pointer) ∧ ∀ (i : Nat) (k : List V) (q : Option Addr), ks[i]? = some k → ps[i]? = some q → IsR w S d k q))
/-- A rope. -/
def IsRope (w : World) (S : Nat → Prop) (vs : List V) (p : Option Addr) : Prop := (vs = [] ∧ p = none) ∨ ∃ d, IsR w S d vs p
section
variable {S S' : Nat → Prop} {w w' : World}
theorem IsR.imp (hb : ∀ b t cs, S b → Blk w b t cs → Blk w' b t cs ∧ S' b) (hr : ∀ s A n xs, 0 < s → Reads w S s A n xs → Reads w' S' s A n xs) :
    ∀ (d : Nat) (vs : List V) (p : Option Addr), IsR w S d vs p → IsR w' S' d vs p
  | 0, _, _, h => h.elim
  | d + 1, vs, p, ⟨b, A, c, e, hs, h⟩ => by
    rcases h with ⟨h0, h1, h2, h3, h4, h5⟩ | ⟨h0, ks, ps, h1, h2, h3, h4, h5, h6, h7, h8⟩
    · obtain ⟨a1, a2⟩ := hb _ _ _ hs h1
      exact ⟨b, A, c, e, a2, .inl ⟨h0, a1, h2, h3, h4, hr _ _ _ _ (by omega) h5⟩⟩
    · obtain ⟨a1, a2⟩ := hb _ _ _ hs h2
      exact ⟨b, A, c, e, a2, .inr ⟨h0, ks, ps, h1, a1, h3, h4, h5, h6, hr _ _ _ _ (by omega) h7, fun i k q hk hq => IsR.imp hb hr d k q (h8 i k q hk hq)⟩⟩
theorem IsR.keeps {d : Nat} {vs : List V} {p : Option Addr} (h : IsR w S d vs p) (hk : Keeps S w w') : IsR w' S d vs p :=
  IsR.imp (fun _ _ _ hs hb => ⟨hb.keeps hk hs, hs⟩) (fun _ _ _ _ _ hr => hr.keeps hk) d vs p h
theorem IsR.more {d : Nat} {vs : List V} {p : Option Addr} (h : IsR w S d vs p) (hS : ∀ k, S k → S' k) : IsR w S' d vs p :=
  IsR.imp (fun _ _ _ hs hb => ⟨hb, hS _ hs⟩) (fun _ _ _ _ _ hr => hr.more hS) d vs p h
theorem Reads.bound {s n : Nat} {A : Option Addr} {xs : List Value} (h : Reads w S s A n xs) (h0 : 0 < s) : Reads w (fun k => S k ∧ k < w.heap.size) s A n xs := ⟨h.1, fun hn => by
  obtain ⟨ad, e, hs, hc⟩ := h.2 hn
  have hl : 0 < xs.length := by rw [h.1]; exact Nat.mul_pos hn h0
  have := World.block_lt_of_cell? w _ (hc 0 _ (List.getElem?_eq_getElem hl))
  rw [block_of_add] at this
  exact ⟨ad, e, ⟨hs, this⟩, hc⟩⟩
theorem IsR.bound {d : Nat} {vs : List V} {p : Option Addr} (h : IsR w S d vs p) : IsR w (fun k => S k ∧ k < w.heap.size) d vs p :=
  IsR.imp (fun _ _ _ hs hb => ⟨hb, hs, hb.lt⟩) (fun _ _ _ _ h0 hr => hr.bound h0) d vs p h
theorem IsRope.bound {vs : List V} {p : Option Addr} (h : IsRope w S vs p) : IsRope w (fun k => S k ∧ k < w.heap.size) vs p := h.imp_right fun ⟨d, h⟩ => ⟨d, h.bound⟩
/-- A box made behind what is bounded stays apart. -/
theorem keeps_box {B g : Nat} {u : Value} {o : Nat} {w0 : World} (h1 : w0.heap.size ≤ g) (h2 : g < B) : Keeps (up (fun k => S k ∧ k < w0.heap.size) B) w (w.setCell ⟨g, o, none⟩ u) := fun k _ hs => Below.heap_setCell w _ u k (by
  rcases hs with ⟨_, h⟩ | h
  · show k ≠ g; omega
  · show k ≠ g; omega)
theorem up_bound {w0 : World} {a B k : Nat} (h : up (fun k => S k ∧ k < w0.heap.size) a k) (hB : B ≤ a) : up S B k := h.imp And.left (Nat.le_trans hB)
theorem IsRope.keeps {vs : List V} {p : Option Addr} (h : IsRope w S vs p) (hk : Keeps S w w') : IsRope w' S vs p := h.imp_right fun ⟨d, h⟩ => ⟨d, h.keeps hk⟩
theorem IsRope.more {vs : List V} {p : Option Addr} (h : IsRope w S vs p) (hS : ∀ k, S k → S' k) : IsRope w S' vs p := h.imp_right fun ⟨d, h⟩ => ⟨d, h.more hS⟩
theorem IsR.some_ {d : Nat} {vs : List V} {p : Option Addr} (h : IsR w S d vs p) : ∃ b, p = some ⟨b, 0, none⟩ := by
  cases d with
  | zero => exact h.elim
  | succ d => obtain ⟨b, A, c, e, _⟩ := h; exact ⟨b, e⟩
theorem IsR.dpos {d : Nat} {vs : List V} {p : Option Addr} (h : IsR w S d vs p) : 0 < d := by
  cases d with
  | zero => exact h.elim
  | succ d => omega
/-- As many values as a tree of this depth has at least. -/
theorem IsR.big : ∀ {d : Nat} {vs : List V} {p : Option Addr}, IsR w S d vs p → 2 ^ d ≤ 2 * vs.length
  | 0, _, _, h => h.elim
  | d + 1, vs, p, h0 => by
    obtain ⟨b, A, c, e, hs, h⟩ := h0
    rcases h with ⟨h0, h1, h2, h3, h4, h5⟩ | ⟨h0, ks, ps, h1, h2, h3, h4, h5, h6, h7, h8⟩
    · subst h0; omega
    · match ks, ps, h3, h6, h8, h1 with
      | k1 :: k2 :: ks, p1 :: p2 :: ps, h3, h6, h8, h1 =>
        have a1 := IsR.big (h8 0 k1 p1 rfl rfl)
        have a2 := IsR.big (h8 1 k2 p2 rfl rfl)
        rw [h1]; simp; rw [Nat.pow_succ]; omega
      | [], _, h3, _, _, _ => simp at h3
      | [_], _, h3, _, _, _ => simp at h3
      | _ :: _ :: _, [], _, h6, _, _ => simp at h6
      | _ :: _ :: _, [_], _, h6, _, _ => simp at h6
end
end Go.Proofs.YtfcegalckjeafaaGreatDoor
namespace Go.Proofs.YtfcegalckjeafaaGreatDoor
open Go.RowKit Go.BigFrame
/-- What a slice's type tells of its elements. -/
structure El (ts e : TypeId) (size bytes : Nat) : Prop where
  ex : ∃ i z, Tryz.prog.underlying ts = some (.slice e) ∧ Tryz.prog.info? e = some i ∧ i.zero = some z ∧ i.size = size ∧ i.bytes = bytes ∧ z.cells.size = size ∧ 0 < size
theorem El.mk' {ts e : TypeId} {size bytes : Nat} {z : Value} (hu : Tryz.prog.underlying ts = some (.slice e)) (h : (Tryz.prog.info? e).map (fun i => (i.zero, i.size, i.bytes)) = some (some z, size, bytes)) (hz : z.cells.size = size) (hs : 0 < size) : El ts e size bytes := by
  obtain ⟨i, h1, h2, h3, h4⟩ := info_parts h
  exact ⟨i, z, hu, h1, h2, h3, h4, hz, hs⟩
theorem elV : El 184 42 11 96 := El.mk' (z := .agg #[.int .i64 0, .int .i64 0, .string ⟨#[]⟩, .int .i64 0, .pointer none, .int .u64 0, .int .i64 0, .int .i64 0, .pointer none, .int .i64 0, .int .i64 0]) Tryz.underlying184 (by kernel_rfl) rfl (by decide)
theorem elP : El 215 35 1 8 := El.mk' (z := .pointer none) Tryz.underlying215 (by kernel_rfl) rfl (by decide)
section
variable {ts e : TypeId} {size bytes : Nat} (E : El ts e size bytes) {ops : Array Oper} {rest : List Oper} {o : Oper} {a : Act} {w : World} {Q : Exit → Act → World → Prop}
include E
theorem wpList_app {s x : Operand} (hgd : o.guard = none) (ho : o.op = .call { callee := .builtin .append, args := #[s, x], argTypes := #[ts, ts] })
    {base : Nat} {v : Value} {n : Nat} {xs : List Value} (hown : w.ownsRow base e size v n xs) (hs : a.eval s = v) {w0 : World} (hb : Below base w0 w)
    {B : Nat → Prop} {A : Option Addr} {m c : Nat} {news : List Value} (hr : Reads w B size A m news) (hx : a.eval x = .slice A m c) (h1 : ∀ u ∈ news, u.oneCell' = true)
    (h63 : n + m ≤ 16777216) (hsz : bytes ≤ 1024) (hbase : base ≤ w.heap.size)
    (h : ∀ v' w', Hid (w'.ownsRow base e size v' (n + m) (xs ++ news)) → Hid (Below base w0 w') → Hid (w.grownBy w' v.ownBlock) → wpList Tryz.prog ops Q rest (a.put o.dst v') w') : wpList Tryz.prog ops Q (o :: rest) a w := by
  obtain ⟨i, z, e1, e2, e3, e4, e5, e6, e7⟩ := E.ex
  refine wpList_append_any w hgd s x ts ho base e i z size bytes e1 e2 e3 e4 e5 e6 e7 v n xs hs hown B A m c news hx hr h1 (by simp only [maxLen]; omega) ?_ hbase (fun v' w' h2 h3 _ => h v' w' h2 (hb.grown h3 hbase (fun _ hk => own_base hown hk)) h3)
  have := Nat.mul_le_mul h63 hsz
  omega
theorem wpList_mk {len cap : Operand} (hgd : o.guard = none) (ho : o.op = .makeSlice ts len cap) {kl kc : IntKind} (c : Nat) {C : Int} (hl : a.eval len = .int kl 0) (hc : a.eval cap = .int kc C) (hC : C = (c : Int)) (h63 : c ≤ 16777216) (hsz : bytes ≤ 1024)
    (h : ∀ w', Hid (w'.ownsRow w.heap.size e size (.slice (some ⟨w.heap.size, 0, none⟩) 0 c) 0 []) → Hid (Below w.heap.size w w') → Hid (w.grownBy w' none) → wpList Tryz.prog ops Q rest (a.put o.dst (.slice (some ⟨w.heap.size, 0, none⟩) 0 c)) w') : wpList Tryz.prog ops Q (o :: rest) a w := by
  obtain ⟨i, z, e1, e2, e3, e4, e5, e6, e7⟩ := E.ex
  refine wpList_make_own _ hgd len cap ts ho w.heap.size e i z size e1 e2 e3 e4 kl kc C c hl hc hC ?_ (by simp only [maxLen]; omega) (Nat.le_refl _) (fun w' h2 h3 => h w' h2 ((Below.refl _ _).grown h3 (Nat.le_refl _) nofun) h3)
  have := Nat.mul_le_mul h63 hsz
  rw [e5, Nat.mul_comm]
  omega
end
/-- A list in new memory. -/
def NewOut (w : World) (t : TypeId) (size n : Nat) (xs : List Value) (e : Ending) (w' : World) : Prop := ∃ v, e = .returned v ∧ w'.ownsRow w.heap.size t size v n xs ∧ Below w.heap.size w w'
end Go.Proofs.YtfcegalckjeafaaGreatDoor
namespace Go.Proofs.YtfcegalckjeafaaGreatDoor
open Go.RowKit Go.BigFrame
/-- A struct of so many cells. -/
noncomputable def structB (ty : TypeId) (n : Nat) : Bool := (match Tryz.prog.underlying ty with | some (.struct _) => true | _ => false) && ((Tryz.prog.info? ty).map (·.size) == some n)
theorem structB_run {ty n : Nat} (h : structB ty n = true) {w : World} {g : Nat} {t : TypeId} {cs : Array Value} (hn : cs.size = n) (hg : Blk w g t cs) : (loadVar ty ⟨g, 0, none⟩).run Tryz.prog w = .ok (.agg cs) w := by
  simp only [structB, Bool.and_eq_true, beq_iff_eq] at h
  obtain ⟨h1, h2⟩ := h
  cases hu : Tryz.prog.underlying ty with
  | none => rw [hu] at h1; cases h1
  | some d =>
    rw [hu] at h1
    cases d <;> simp at h1
    exact run_loadVar_row w g t ty cs (0, 0) _ hg hu rfl (by rw [h2, hn])
section
variable {fn : Func} {a : Act} {w : World} {R : Ending → World → Prop} {g : Nat} {t : TypeId} {cs : Array Value}
theorem ret_ct {p u : Tmp} {ty : TypeId} {v2 : Value} (h : fn.results = #[.cell p ty, .tmp u]) (hd : a.defers = []) (hp : a.tmps.getD p undef = .pointer (some ⟨g, 0, none⟩)) (hg : Blk w g t cs) (hb : structB ty cs.size = true) (hv : a.tmps.getD u undef = v2)
    (hR : R (.returned (.tuple #[.agg cs, v2])) w) : bodyPost Tryz.prog fn R .ret a w := by
  refine bodyPost_ret (v := .tuple #[.agg cs, v2]) ?_ hd hR
  rw [results_cell_tmp h, hp]
  simp [asAddr, structB_run hb rfl hg, hv]
theorem ret_c {p : Tmp} {ty : TypeId} (h : fn.results = #[.cell p ty]) (hd : a.defers = []) (hp : a.tmps.getD p undef = .pointer (some ⟨g, 0, none⟩)) (hg : Blk w g t cs) (hb : structB ty cs.size = true)
    (hR : R (.returned (.agg cs)) w) : bodyPost Tryz.prog fn R .ret a w := by
  refine bodyPost_ret (v := .agg cs) ?_ hd hR
  have hp2 := hp
  rw [Array.getD_eq_getD_getElem?] at hp2
  simp only [results, h]
  simp [asAddr, hp2, structB_run hb rfl hg]
end
theorem Blk.new' {w : World} {g : Nat} {t : TypeId} {cs : Array Value} (h : g = w.heap.size) : Blk (w.alloc (.cells cs t)) g t cs := h ▸ Blk.new w t cs
theorem calls_at {f : FuncId} {args : Array Value} {w : World} {R : Ending → World → Prop} (h : ∀ W, W = w → Calls Tryz.prog f args W R) : Calls Tryz.prog f args w R := h w rfl
section
variable {w W : World} {t1 t2 t3 t4 t5 : TypeId} {c1 c2 c3 c4 c5 : Array Value}
theorem boxes1 (h : W = w.alloc (.cells c1 t1)) : Below w.heap.size w W ∧ W.heap.size = w.heap.size + 1 ∧ Blk W w.heap.size t1 c1 := by
  subst h; exact ⟨(Below.refl _ _).alloc (Nat.le_refl _) _, by simp, Blk.new _ _ _⟩
theorem boxes2 (h : W = (w.alloc (.cells c1 t1)).alloc (.cells c2 t2)) : Below w.heap.size w W ∧ W.heap.size = w.heap.size + 1 + 1 ∧ Blk W w.heap.size t1 c1 ∧ Blk W (w.heap.size + 1) t2 c2 := by
  obtain ⟨a1, a2, a3⟩ := boxes1 (w := w) (t1 := t1) (c1 := c1) rfl
  subst h; exact ⟨a1.alloc (by omega) _, by simp, a3.alloc _, Blk.new' (by simp)⟩
theorem boxes2d (h : W = ((w.alloc (.cells c1 t1)).alloc (.cells c2 t2)).drew) : Below w.heap.size w W ∧ W.heap.size = w.heap.size + 1 + 1 ∧ Blk W w.heap.size t1 c1 ∧ Blk W (w.heap.size + 1) t2 c2 := by
  obtain ⟨a1, a2, a3, a4⟩ := boxes2 (w := w) (t1 := t1) (c1 := c1) (t2 := t2) (c2 := c2) rfl
  subst h; exact ⟨a1.drew, a2, a3.drew, a4.drew⟩
theorem boxes3 (h : W = ((w.alloc (.cells c1 t1)).alloc (.cells c2 t2)).alloc (.cells c3 t3)) : Below w.heap.size w W ∧ W.heap.size = w.heap.size + 1 + 1 + 1 ∧ Blk W w.heap.size t1 c1 ∧ Blk W (w.heap.size + 1) t2 c2 ∧ Blk W (w.heap.size + 1 + 1) t3 c3 := by
  obtain ⟨a1, a2, a3, a4⟩ := boxes2 (w := w) (t1 := t1) (c1 := c1) (t2 := t2) (c2 := c2) rfl
  subst h; exact ⟨a1.alloc (by omega) _, by simp, a3.alloc _, a4.alloc _, Blk.new' (by simp)⟩
theorem boxes4 (h : W = (((w.alloc (.cells c1 t1)).alloc (.cells c2 t2)).alloc (.cells c3 t3)).alloc (.cells c4 t4)) : Below w.heap.size w W ∧ W.heap.size = w.heap.size + 1 + 1 + 1 + 1 ∧ Blk W w.heap.size t1 c1 ∧ Blk W (w.heap.size + 1) t2 c2 ∧ Blk W (w.heap.size + 1 + 1) t3 c3 ∧ Blk W (w.heap.size + 1 + 1 + 1) t4 c4 := by
  obtain ⟨a1, a2, a3, a4, a5⟩ := boxes3 (w := w) (t1 := t1) (c1 := c1) (t2 := t2) (c2 := c2) (t3 := t3) (c3 := c3) rfl
  subst h; exact ⟨a1.alloc (by omega) _, by simp, a3.alloc _, a4.alloc _, a5.alloc _, Blk.new' (by simp)⟩
end
theorem V.one (v : V) : v.l.toArray.all (·.oneCell') = true := by simp [V.l, sv, Value.oneCell']
/-- A value in a box. -/
def VB (w : World) (g : Nat) (v : V) : Prop := Blk w g 42 v.l.toArray
theorem VB.cells {w : World} {g : Nat} {v : V} (h : VB w g v) : w.cell? ⟨g, 0, none⟩ = some (.int .i64 v.sk) ∧ w.cell? ⟨g, 1, none⟩ = some (.int .i64 v.si) ∧ w.cell? ⟨g, 2, none⟩ = some (.string ⟨v.st.toArray⟩) ∧ w.cell? ⟨g, 3, none⟩ = some (.int .i64 v.kd) ∧ w.cell? ⟨g, 4, none⟩ = some (.pointer v.vec) ∧ w.cell? ⟨g, 5, none⟩ = some (.int .u64 v.seed) ∧
    w.cell? ⟨g, 6, none⟩ = some (.int .i64 v.bits) ∧ w.cell? ⟨g, 7, none⟩ = some (.int .i64 v.n) ∧ w.cell? ⟨g, 8, none⟩ = some (.pointer v.dic) ∧ w.cell? ⟨g, 9, none⟩ = some (.int .i64 v.bel) ∧ w.cell? ⟨g, 10, none⟩ = some (.int .i64 v.mor) :=
  ⟨Blk.cell h 0, Blk.cell h 1, Blk.cell h 2, Blk.cell h 3, Blk.cell h 4, Blk.cell h 5, Blk.cell h 6, Blk.cell h 7, Blk.cell h 8, Blk.cell h 9, Blk.cell h 10⟩
/-- Cells that read as a list, loaded as a struct. -/
theorem structB_list {ty : Nat} {cs : List Value} (h : structB ty cs.length = true) {w : World} {ad : Addr} (hc : ∀ j u, cs[j]? = some u → w.cell? (ad.add j) = some u) : (loadVar ty ad).run Tryz.prog w = .ok (.agg cs.toArray) w := by
  have hl := run_loadCells_list (P := Tryz.prog) w ad cs hc
  simp only [structB, Bool.and_eq_true, beq_iff_eq] at h
  obtain ⟨h1, h2⟩ := h
  cases hu : Tryz.prog.underlying ty with
  | none => rw [hu] at h1; cases h1
  | some d =>
    rw [hu] at h1
    have hagg : (isAgg ty).run Tryz.prog w = .ok true w := by
      unfold isAgg
      rw [Sem.run_bind, run_underlying hu w]
      cases d <;> simp_all
    cases hq : Tryz.prog.info? ty with
    | none => simp [hq] at h2
    | some i =>
      have hs : i.size = cs.length := by simpa [hq] using h2
      simp [loadVar, Sem.run_bind, hagg, sizeOf, typeInfo, hq, hs, hl]
theorem exec_load_list {ty : Nat} {cs : List Value} (h : structB ty cs.length = true) {w : World} {o : Oper} {ev : Operand → Value} {p : Operand} (ho : o.op = .load ty p) {ad : Addr} (hp : ev p = .pointer (some ad)) (hc : ∀ j u, cs[j]? = some u → w.cell? (ad.add j) = some u) :
    (execOp ev o).run Tryz.prog w = .ok (.value (.agg cs.toArray)) w := by
  unfold execOp
  simp only [ho, hp]
  simp [Instr.loadAt, Instr.sureAddr, structB_list h hc]
theorem wpList_ldl {ops : Array Oper} {rest : List Oper} {o : Oper} {a : Act} {w : World} {Q : Exit → Act → World → Prop} (hgd : o.guard = none) {ty : Nat} {p : Operand} (ho : o.op = .load ty p) {ad : Addr} (hp : a.eval p = .pointer (some ad))
    (cs : List Value) (h : structB ty cs.length = true) (hc : ∀ j u, cs[j]? = some u → w.cell? (ad.add j) = some u) (hK : wpList Tryz.prog ops Q rest (a.put o.dst (.agg cs.toArray)) w) : wpList Tryz.prog ops Q (o :: rest) a w :=
  wpList_plain hgd fun _ hK' => by
    unfold Oper.wp
    rw [exec_load_list h ho hp hc]
    exact hK' _ _ hK
theorem isV : structB 42 11 = true := by kernel_rfl
theorem flat_cells {w : World} {S : Nat → Prop} {A : Option Addr} {n k : Nat} {vs : List V} {v : V} (h : Reads w S 11 A n (flat vs)) (hv : vs[k]? = some v) : ∃ ad, A = some ad ∧ ∀ j u, v.l[j]? = some u → w.cell? ((ad.add (k * 11)).add j) = some u := by
  have hk := (List.getElem?_eq_some_iff.1 hv).1
  have hl := h.1
  rw [flat_len] at hl
  obtain ⟨ad, e, -, hc⟩ := h.2 (by omega)
  refine ⟨ad, e, fun j u hu => ?_⟩
  rw [add_of_add]
  refine hc _ u ?_
  rw [flat_at vs k j v hv (by have := (List.getElem?_eq_some_iff.1 hu).1; rwa [V.l_len] at this), hu]
theorem exec_load_V {w : World} {o : Oper} {ev : Operand → Value} {p : Operand} (ho : o.op = .load 42 p) {g : Nat} (hp : ev p = .pointer (some ⟨g, 0, none⟩)) {v : V} (h : VB w g v) : (execOp ev o).run Tryz.prog w = .ok (.value v.a) w := by
  unfold execOp
  simp only [ho, hp]
  simp [Instr.loadAt, Instr.sureAddr, structB_run isV rfl h]
  rfl
theorem infoV (v : V) : (Tryz.prog.info? 42).map (·.size) = some v.l.toArray.size := (show (Tryz.prog.info? 42).map (·.size) = some 11 by kernel_rfl).trans rfl
/-- A whole value is stored. -/
theorem wpList_stV {ops : Array Oper} {rest : List Oper} {o : Oper} {a : Act} {w : World} {Q : Exit → Act → World → Prop} (hgd : o.guard = none) {p x : Operand} (ho : o.op = .store 42 p x)
    {g : Nat} (hp : a.eval p = .pointer (some ⟨g, 0, none⟩)) (v : V) {cur : V} (hg : VB w g cur) (hx : a.eval x = v.a)
    (h : ∀ w', Hid (VB w' g v) → (∀ k, k ≠ g → w'.heap[k]? = w.heap[k]?) → (∀ B w0, Below B w0 w → B ≤ g → Below B w0 w') → wpList Tryz.prog ops Q rest (a.put o.dst undef) w') : wpList Tryz.prog ops Q (o :: rest) a w :=
  wpList_store_row hgd 42 p x ho g hp v.l.toArray hx _ _ hg (infoV v) rfl v.one h
end Go.Proofs.YtfcegalckjeafaaGreatDoor
