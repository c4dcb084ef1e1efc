/-
  Parts of the proof that AddrBegins,AddrTexts calls on: Mn, Hs, Hn, Iv, Tops, Tr, Vs, Vw, Vx.
-/
import Derived.BigQuiet
import Derived.Test.YtfcegalckjeafaaGreatDoorM302
import Derived.Test.YtfcegalckjeafaaGreatDoorM304
import Derived.Test.YtfcegalckjeafaaGreatDoorM306
import Derived.Test.YtfcegalckjeafaaGreatDoorM308
import Derived.Test.YtfcegalckjeafaaGreatDoorM310
namespace Go.Proofs.YtfcegalckjeafaaGreatDoor
open Go.RowKit Go.BigFrame
def mnarrow (s b : Int) : Int := if b ≤ 0 then 0 else if 64 ≤ b then s else bits .and .u64 s (IntKind.u64.wrap (IntKind.u64.wrap ((2 : Int) ^ b.toNat) - 1))
theorem U.mnarrow (s b : Int) (hs : U s) : U (mnarrow s b) := by
  unfold Proofs.YtfcegalckjeafaaGreatDoor.mnarrow
  split
  · exact ⟨by omega, by omega⟩
  · split
    · exact hs
    · exact U.bits _ _ _
set_option maxRecDepth 100000 in
set_option maxHeartbeats 1000000 in
theorem narrow_any (s b : Int) (w : World) (hs : U s) : Calls Tryz.prog 183 #[.int .u64 s, .int .i64 b] w fun e w' => e = .returned (.int .u64 (mnarrow s b)) ∧ w' = w := by
  obtain ⟨h1, h2⟩ := hs
  by_cases h0 : b ≤ 0
  · rw [mnarrow, if_pos h0]
    go_enter Tryz.func183, Tryz.ntmps183
    go_wp2
    go_ret
    exact ⟨rfl, rfl⟩
  by_cases h3 : 64 ≤ b
  · rw [mnarrow, if_neg h0, if_pos h3]
    go_enter Tryz.func183, Tryz.ntmps183
    go_wp2
    go_ret
    exact ⟨rfl, rfl⟩
  rw [mnarrow, if_neg h0, if_neg h3]
  obtain ⟨n, rfl⟩ := Int.eq_ofNat_of_zero_le (by omega : 0 ≤ b)
  rw [Int.toNat_natCast]
  have j0 : (0 : Int) < (n : Int) := by omega
  have j1 : (n : Int) < 64 := by omega
  clear h0 h3
  go_enter Tryz.func183, Tryz.ntmps183
  go_wp2
  go_ret
  exact ⟨rfl, rfl⟩
end Go.Proofs.YtfcegalckjeafaaGreatDoor
namespace Go.Proofs.YtfcegalckjeafaaGreatDoor
open Go.RowKit Go.BigFrame
/-- A key's sum, in a map of so a seed and so many bits. -/
def hsum (seed b : Int) (k : List UInt8) : Int := mnarrow (mtext seed k) b
theorem U.hsum (seed b : Int) (k : List UInt8) : U (hsum seed b k) := U.mnarrow _ _ (U.mtext _ _)
set_option maxRecDepth 100000 in
set_option maxHeartbeats 2000000 in
theorem hsum_any (seed b n : Int) (d : Option Addr) (k : List UInt8) (w : World) (hs : U seed) (hk : k.length ≤ 1152921504606846968) :
    Calls Tryz.prog 147 #[.agg #[.int .u64 seed, .int .i64 b, .int .i64 n, .pointer d], sv k] w fun e w' => e = .returned (.int .u64 (hsum seed b k)) ∧ Below w.heap.size w w' := by
  have HS := Lib.hid hs
  have HT := Lib.hid (fun W => text_any seed k W hs hk)
  have HN := Lib.hid (fun W => narrow_any (mtext seed k) b W (U.mtext seed k))
  have HQ := Lib.hid hk
  clear hs hk
  simp only [sv] at HT ⊢
  go_enter Tryz.func147, Tryz.ntmps147
  go_wp2_with fail
  go_quiet (first | (go_at_call 184; exact Calls.quiet_of_same (HT.out _)) | (go_at_call 183; exact Calls.quiet_of_same (HN.out _)))
  go_wp2
  go_ret
  exact ⟨rfl, ((Below.refl _ _).alloc (Nat.le_refl _) _).trans ((below_drewN _ _).mono (by simp))⟩
end Go.Proofs.YtfcegalckjeafaaGreatDoor
namespace Go.Proofs.YtfcegalckjeafaaGreatDoor
open Go.RowKit Go.BigFrame
/-- A map's four cells. -/
structure MP where
  seed : Int
  bits : Int
  n : Int
  d : Option Addr
def MP.l (m : MP) : List Value := [.int .u64 m.seed, .int .i64 m.bits, .int .i64 m.n, .pointer m.d]
end Go.Proofs.YtfcegalckjeafaaGreatDoor
namespace Go.Proofs.YtfcegalckjeafaaGreatDoor
open Go.RowKit Go.BigFrame
/-- A trie's node with so many levels of rows left, and its pairs. -/
def IsN (w : World) (S : Nat → Prop) (seed bits : Int) : Nat → List PR → Option Addr → Prop
  | 0, L, p => ∃ b ad c, p = some ⟨b, 0, none⟩ ∧ S b ∧ Blk w b 211 #[.int .u32 0, .slice none 0 0, .slice (some ad) L.length c] ∧ L.length ≤ c ∧ Srt L ∧ Reads w S 12 (some ad) L.length (eP.fl L)
  | d + 1, L, p => ∃ (b : Nat) (m : List (Option SL)) (A : Option Addr) (c : Nat) (ks : List (List PR)), p = some ⟨b, 0, none⟩ ∧ S b ∧ Blk w b 211 #[.int .u32 (Sp.bitsL m), .slice A (Sp.vals m).length c, .slice none 0 0] ∧ m.length = 32 ∧ (Sp.vals m).length ≤ c ∧ Reads w S 13 A (Sp.vals m).length (eS.fl (Sp.vals m)) ∧
      ks.length = 32 ∧ L = ks.flatten ∧ ∀ (i : Nat) (k : List PR), ks[i]? = some k → (Sp.at_ m i = none ∧ k = []) ∨ (∃ p, Sp.at_ m i = some ⟨p, none⟩ ∧ k = [p] ∧ chunk (hsum seed bits p.key).toNat (12 - (d : Int)) = i) ∨
        (∃ q, Sp.at_ m i = some ⟨PR.z, q⟩ ∧ IsN w S seed bits d k q ∧ ∀ p ∈ k, chunk (hsum seed bits p.key).toNat (12 - (d : Int)) = i)
/-- A map's pairs by rising keys, and its trie. -/
def IsMap (w : World) (S : Nat → Prop) (seed bits : Int) (P : List PR) (p : Option Addr) : Prop := U seed ∧ Srt P ∧ ((p = none ∧ P = []) ∨ ∃ L, IsN w S seed bits 13 L p ∧ L.Perm P)
mutual
/-- The cells are a value of the tree. -/
def IsV (w : World) (S : Nat → Prop) : T → V → Prop
  | .mk k i t ks xs, v => (k < 4 ∧ Sc k i t ∧ ks = [] ∧ xs = [] ∧ v = ⟨k, i, t, k, none, 0, 0, 0, none, 0, 0⟩) ∨
    (k = 4 ∧ i = 0 ∧ t = [] ∧ ks = [] ∧ ∃ vs p, IsRope w S vs p ∧ v = ⟨0, 0, [], 4, p, 0, 0, 0, none, depthL xs, nodesL xs⟩ ∧ IsVs w S xs vs) ∨
    ((k = 5 ∨ k = 6) ∧ i = 0 ∧ t = [] ∧ ∃ P seed bits d, IsMap w S seed bits P d ∧ v = ⟨0, 0, [], k, none, seed, bits, P.length, d, depthL xs, nodesL xs⟩ ∧ (k = 5 → P.map PR.key = ks) ∧ (k = 6 → ks = [] ∧ P.map PR.key = xs.map T.key) ∧ IsVs w S xs (P.map PR.v))
/-- As many values as trees, each of its tree. -/
def IsVs (w : World) (S : Nat → Prop) : List T → List V → Prop
  | [], vs => vs = []
  | x :: xs, vs => ∃ v vs', vs = v :: vs' ∧ IsV w S x v ∧ IsVs w S xs vs'
end
section
variable {S S' : Nat → Prop} {w w' : World}
theorem IsVs.len : ∀ {xs : List T} {vs : List V}, IsVs w S xs vs → vs.length = xs.length
  | [], _, h => by rw [IsVs] at h; subst h; rfl
  | x :: xs, _, h => by rw [IsVs] at h; obtain ⟨v, vs', rfl, _, h2⟩ := h; simp [IsVs.len h2]
theorem IsVs.at_ : ∀ {xs : List T} {vs : List V}, IsVs w S xs vs → ∀ {i : Nat} {x : T} {v : V}, xs[i]? = some x → vs[i]? = some v → IsV w S x v
  | [], _, h, i, x, v, hx, _ => by simp at hx
  | x :: xs, _, h, i, y, u, hx, hv => by
    rw [IsVs] at h
    obtain ⟨v, vs', rfl, h1, h2⟩ := h
    cases i with
    | zero => simp at hx hv; subst hx hv; exact h1
    | succ i => simp at hx hv; exact IsVs.at_ h2 hx hv
theorem IsVs.mk' : ∀ {xs : List T} {vs : List V}, vs.length = xs.length → (∀ (i : Nat) (x : T) (v : V), xs[i]? = some x → vs[i]? = some v → IsV w S x v) → IsVs w S xs vs
  | [], vs, h, _ => by rw [IsVs]; simpa using h
  | x :: xs, [], h, _ => by simp at h
  | x :: xs, v :: vs, h, H => by
    rw [IsVs]
    exact ⟨v, vs, rfl, H 0 x v rfl rfl, IsVs.mk' (by simpa using h) fun i x v hx hv => H (i + 1) x v (by simpa using hx) (by simpa using hv)⟩
theorem IsVs.some {xs : List T} {vs : List V} (h : IsVs w S xs vs) {i : Nat} {x : T} (hx : xs[i]? = some x) : ∃ v, vs[i]? = some v ∧ IsV w S x v := by
  have hl := h.len
  have := (List.getElem?_eq_some_iff.1 hx).1
  exact ⟨vs[i], List.getElem?_eq_getElem (by omega), h.at_ hx (List.getElem?_eq_getElem (by omega))⟩
theorem IsVs.app {xs ys : List T} {vs us : List V} (h : IsVs w S xs vs) (h' : IsVs w S ys us) : IsVs w S (xs ++ ys) (vs ++ us) := by
  have l1 := h.len
  have l2 := h'.len
  refine .mk' (by simp [l1, l2]) fun i x v hx hv => ?_
  rw [List.getElem?_append] at hx hv
  rw [l1] at hv
  by_cases hi : i < xs.length
  · rw [if_pos hi] at hx hv; exact h.at_ hx hv
  · rw [if_neg hi] at hx hv; exact h'.at_ hx hv
theorem IsVs.set {xs : List T} {vs : List V} {x : T} {v : V} (h : IsVs w S xs vs) (hx : IsV w S x v) (i : Nat) : IsVs w S (xs.set i x) (vs.set i v) := by
  have l1 := h.len
  refine .mk' (by simp [l1]) fun j y u hy hu => ?_
  rw [List.getElem?_set] at hy hu
  by_cases e : i = j
  · subst e
    rw [if_pos rfl] at hy hu
    split at hy <;> split at hu <;> simp_all
  · rw [if_neg e] at hy hu; exact h.at_ hy hu
theorem IsVs.take {xs : List T} {vs : List V} (h : IsVs w S xs vs) (n : Nat) : IsVs w S (xs.take n) (vs.take n) := by
  refine .mk' (by simp [h.len]) fun j y u hy hu => ?_
  rw [List.getElem?_take] at hy hu
  by_cases e : j < n
  · rw [if_pos e] at hy hu; exact h.at_ hy hu
  · rw [if_neg e] at hy; cases hy
theorem IsVs.drop {xs : List T} {vs : List V} (h : IsVs w S xs vs) (n : Nat) : IsVs w S (xs.drop n) (vs.drop n) := by
  refine .mk' (by simp [h.len]) fun j y u hy hu => ?_
  rw [List.getElem?_drop] at hy hu
  exact h.at_ hy hu
theorem IsVs.one {x : T} {v : V} (h : IsV w S x v) : IsVs w S [x] [v] := by rw [IsVs]; exact ⟨v, [], rfl, h, by rw [IsVs]⟩
theorem IsN.imp {seed bits : Int} (hb : ∀ b t cs, S b → Blk w b t cs → Blk w' b t cs ∧ S' b) (hr : ∀ s A n xs, 0 < s → Reads w S s A n xs → Reads w' S' s A n xs) :
    ∀ (d : Nat) (L : List PR) (p : Option Addr), IsN w S seed bits d L p → IsN w' S' seed bits d L p
  | 0, _, _, ⟨b, ad, c, e, hs, h1, h2, h3, h4⟩ => by
    obtain ⟨a1, a2⟩ := hb _ _ _ hs h1
    exact ⟨b, ad, c, e, a2, a1, h2, h3, hr _ _ _ _ (by omega) h4⟩
  | d + 1, _, _, ⟨b, m, A, c, ks, e, hs, h1, h2, h3, h4, h5, h6, h7⟩ => by
    obtain ⟨a1, a2⟩ := hb _ _ _ hs h1
    refine ⟨b, m, A, c, ks, e, a2, a1, h2, h3, hr _ _ _ _ (by omega) h4, h5, h6, fun i k hk => ?_⟩
    rcases h7 i k hk with h | h | ⟨q, h8, h9, h10⟩
    · exact .inl h
    · exact .inr (.inl h)
    · exact .inr (.inr ⟨q, h8, IsN.imp hb hr d k q h9, h10⟩)
theorem IsMap.imp {seed bits : Int} {P : List PR} {p : Option Addr} (hb : ∀ b t cs, S b → Blk w b t cs → Blk w' b t cs ∧ S' b) (hr : ∀ s A n xs, 0 < s → Reads w S s A n xs → Reads w' S' s A n xs) (h : IsMap w S seed bits P p) : IsMap w' S' seed bits P p :=
  ⟨h.1, h.2.1, h.2.2.imp_right fun ⟨L, h1, h2⟩ => ⟨L, IsN.imp hb hr _ _ _ h1, h2⟩⟩
theorem IsRope.imp (hb : ∀ b t cs, S b → Blk w b t cs → Blk w' b t cs ∧ S' b) (hr : ∀ s A n xs, 0 < s → Reads w S s A n xs → Reads w' S' s A n xs) {vs : List V} {p : Option Addr} (h : IsRope w S vs p) : IsRope w' S' vs p :=
  h.imp_right fun ⟨d, h⟩ => ⟨d, IsR.imp hb hr d vs p h⟩
mutual
theorem IsV.imp (hb : ∀ b t cs, S b → Blk w b t cs → Blk w' b t cs ∧ S' b) (hr : ∀ s A n xs, 0 < s → Reads w S s A n xs → Reads w' S' s A n xs) : ∀ (x : T) (v : V), IsV w S x v → IsV w' S' x v
  | .mk k i t ks xs, v, h => by
    rw [IsV] at h ⊢
    rcases h with h | ⟨h1, h2, h3, h4, vs, p, h5, h6, h7⟩ | ⟨h1, h2, h3, P, seed, bits, d, h4, h5, h6, h7, h8⟩
    · exact .inl h
    · exact .inr (.inl ⟨h1, h2, h3, h4, vs, p, h5.imp hb hr, h6, IsVs.imp hb hr xs vs h7⟩)
    · exact .inr (.inr ⟨h1, h2, h3, P, seed, bits, d, h4.imp hb hr, h5, h6, h7, IsVs.imp hb hr xs _ h8⟩)
theorem IsVs.imp (hb : ∀ b t cs, S b → Blk w b t cs → Blk w' b t cs ∧ S' b) (hr : ∀ s A n xs, 0 < s → Reads w S s A n xs → Reads w' S' s A n xs) : ∀ (xs : List T) (vs : List V), IsVs w S xs vs → IsVs w' S' xs vs
  | [], vs, h => by rw [IsVs] at h ⊢; exact h
  | x :: xs, vs, h => by
    rw [IsVs] at h ⊢
    obtain ⟨v, vs', e, h1, h2⟩ := h
    exact ⟨v, vs', e, IsV.imp hb hr x v h1, IsVs.imp hb hr xs vs' h2⟩
end
theorem IsV.keeps {x : T} {v : V} (h : IsV w S x v) (hk : Keeps S w w') : IsV w' S x v := IsV.imp (fun _ _ _ hs hb => ⟨hb.keeps hk hs, hs⟩) (fun _ _ _ _ _ hr => hr.keeps hk) x v h
theorem IsV.more {x : T} {v : V} (h : IsV w S x v) (hS : ∀ k, S k → S' k) : IsV w S' x v := IsV.imp (fun _ _ _ hs hb => ⟨hb, hS _ hs⟩) (fun _ _ _ _ _ hr => hr.more hS) x v h
theorem IsV.bound {x : T} {v : V} (h : IsV w S x v) : IsV w (fun k => S k ∧ k < w.heap.size) x v := IsV.imp (fun _ _ _ hs hb => ⟨hb, hs, hb.lt⟩) (fun _ _ _ _ h0 hr => hr.bound h0) x v h
theorem IsVs.keeps {x : List T} {v : List V} (h : IsVs w S x v) (hk : Keeps S w w') : IsVs w' S x v := IsVs.imp (fun _ _ _ hs hb => ⟨hb.keeps hk hs, hs⟩) (fun _ _ _ _ _ hr => hr.keeps hk) x v h
theorem IsVs.more {x : List T} {v : List V} (h : IsVs w S x v) (hS : ∀ k, S k → S' k) : IsVs w S' x v := IsVs.imp (fun _ _ _ hs hb => ⟨hb, hS _ hs⟩) (fun _ _ _ _ _ hr => hr.more hS) x v h
theorem IsVs.bound {x : List T} {v : List V} (h : IsVs w S x v) : IsVs w (fun k => S k ∧ k < w.heap.size) x v := IsVs.imp (fun _ _ _ hs hb => ⟨hb, hs, hb.lt⟩) (fun _ _ _ _ h0 hr => hr.bound h0) x v h
/-- The two counts of a value. -/
theorem IsV.sums {x : T} {v : V} (h : IsV w S x v) : v.bel = (depthL x.xs : Int) ∧ v.mor = (nodesL x.xs : Int) ∧ v.kd = x.k ∧ v.si = x.i ∧ v.st = x.t := by
  obtain ⟨k, i, t, ks, xs⟩ := x
  rw [IsV] at h
  rcases h with ⟨h1, h2, h3, h4, rfl⟩ | ⟨h1, h2, h3, h4, vs, p, h5, rfl, h7⟩ | ⟨h1, h2, h3, P, seed, bits, d, h4, rfl, h6, h7, h8⟩
  · simp [T.xs, T.k, T.i, T.t, h4, depthL, nodesL]
  · simp [T.xs, T.k, T.i, T.t, h1, h2, h3]
  · simp [T.xs, T.k, T.i, T.t, h2, h3]
end
end Go.Proofs.YtfcegalckjeafaaGreatDoor
namespace Go.Proofs.YtfcegalckjeafaaGreatDoor
/-- Null. -/
def T.z : T := .mk 0 0 [] [] []
/-- What is wrong with a step from a tree. -/
def fitsT (x : T) (s : St) : Int := if s.K < 0 ∨ 2 < s.K then 1 else if x.k ≠ s.K + 4 then 3 else 0
/-- A tree, or what is wrong with its size. -/
def withinT (x : T) : T × Int := if 64 < x.depth then (T.z, 7) else if 16384 < x.nodes then (T.z, 8) else (x, 0)
/-- The keys of a map or a set. -/
def T.names (x : T) : List (List UInt8) := if x.k = 5 then x.ks else x.xs.map T.key
/-- Which part a step goes to. -/
def idxT (x : T) (s : St) : Option Nat := if x.k = 4 then (if 0 ≤ s.I ∧ s.I < (x.xs.length : Int) then some s.I.toNat else none) else x.names.findIdx? (· == s.T)
/-- The part of a step. -/
def getT (x : T) (s : St) : T × Int := if fitsT x s ≠ 0 then (T.z, fitsT x s) else match idxT x s with
  | none => (T.z, 5)
  | some i => (x.xs.getD i T.z, 0)
/-- Where a key stands among rising ones, or would. -/
def rankK (ks : List (List UInt8)) (k : List UInt8) : Nat := (ks.takeWhile (fun a => decide (a < k))).length
/-- A tree with another part. -/
def setT (x : T) (s : St) (y : T) : T × Int := if fitsT x s ≠ 0 then (T.z, fitsT x s) else if x.k = 6 then (T.z, 12) else match idxT x s with
  | some i => withinT (.mk x.k x.i x.t x.ks (x.xs.set i y))
  | none => if x.k = 4 then (T.z, 5) else withinT (.mk x.k x.i x.t (x.ks.insertIdx (rankK x.ks s.T) s.T) (x.xs.insertIdx (rankK x.ks s.T) y))
theorem nodesL_set : ∀ (xs : List T) (i : Nat) (a y : T), xs[i]? = some a → nodesL (xs.set i y) + a.nodes = nodesL xs + y.nodes
  | [], i, a, y, h => by simp at h
  | x :: xs, 0, a, y, h => by
    obtain rfl : x = a := by simpa using h
    simp [nodesL]; omega
  | x :: xs, i + 1, a, y, h => by
    have := nodesL_set xs i a y (by simpa using h)
    simp [nodesL]; omega
theorem depthL_set_le : ∀ (xs : List T) (i : Nat) (y : T), depthL (xs.set i y) ≤ max (depthL xs) y.depth
  | [], i, y => by simp [depthL]
  | x :: xs, 0, y => by simp [depthL]; omega
  | x :: xs, i + 1, y => by
    have := depthL_set_le xs i y
    simp [depthL]; omega
theorem depthL_set_ge : ∀ (xs : List T) (i : Nat) (a y : T), xs[i]? = some a → y.depth ≤ depthL (xs.set i y) ∧ depthL xs ≤ max (depthL (xs.set i y)) a.depth
  | [], i, a, y, h => by simp at h
  | x :: xs, 0, a, y, h => by
    obtain rfl : x = a := by simpa using h
    simp [depthL]; omega
  | x :: xs, i + 1, a, y, h => by
    have := depthL_set_ge xs i a y (by simpa using h)
    simp [depthL]; omega
theorem depthL_set {xs : List T} {i : Nat} {a y : T} (h : xs[i]? = some a) (hd : a.depth ≠ depthL xs ∨ depthL xs ≤ y.depth) : depthL (xs.set i y) = max (depthL xs) y.depth := by
  have h1 := depthL_set_le xs i y
  have h2 := depthL_set_ge xs i a y h
  have h3 := depthL_mem (List.mem_of_getElem? h)
  omega
end Go.Proofs.YtfcegalckjeafaaGreatDoor
namespace Go.Proofs.YtfcegalckjeafaaGreatDoor
open Go.RowKit Go.BigFrame
/-- The cells of a tree. -/
structure TR where
  k : Int
  i : Int
  t : List UInt8
  kA : Option Addr
  kn : Nat
  kc : Nat
  xA : Option Addr
  xn : Nat
  xc : Nat
def TR.l (r : TR) : List Value := [.int .i64 r.k, .int .i64 r.i, sv r.t, .slice r.kA r.kn r.kc, .slice r.xA r.xn r.xc]
def TR.a (r : TR) : Value := .agg #[.int .i64 r.k, .int .i64 r.i, .string ⟨r.t.toArray⟩, .slice r.kA r.kn r.kc, .slice r.xA r.xn r.xc]
def TR.z : TR := ⟨0, 0, [], none, 0, 0, none, 0, 0⟩
def eT : Enc TR := ⟨TR.l, 5, fun _ => rfl, fun s u hu => by
  simp only [TR.l, List.mem_cons, List.not_mem_nil, or_false] at hu
  rcases hu with rfl | rfl | rfl | rfl | rfl <;> rfl⟩
theorem elT : El 26 28 5 80 := El.mk' (z := .agg #[.int .i64 0, .int .i64 0, .string ⟨#[]⟩, .slice none 0 0, .slice none 0 0]) Tryz.underlying26 (by kernel_rfl) rfl (by decide)
theorem isT : structB 28 5 = true := by kernel_rfl
theorem infoT : (Tryz.prog.info? 28).map (·.size) = some 5 := by kernel_rfl
mutual
/-- The cells are a tree. -/
def IsTr (w : World) (S : Nat → Prop) : T → TR → Prop
  | .mk k i t ks xs, r => r.k = k ∧ r.i = i ∧ r.t = t ∧ r.kn = ks.length ∧ ks.length ≤ r.kc ∧ Reads w S 1 r.kA ks.length (ks.map sv) ∧ r.xn = xs.length ∧ xs.length ≤ r.xc ∧ ∃ rs, Reads w S 5 r.xA xs.length (eT.fl rs) ∧ IsTrs w S xs rs
def IsTrs (w : World) (S : Nat → Prop) : List T → List TR → Prop
  | [], rs => rs = []
  | x :: xs, rs => ∃ r rs', rs = r :: rs' ∧ IsTr w S x r ∧ IsTrs w S xs rs'
end
section
variable {S S' : Nat → Prop} {w w' : World}
theorem IsTrs.len : ∀ {xs : List T} {rs : List TR}, IsTrs w S xs rs → rs.length = xs.length
  | [], _, h => by rw [IsTrs] at h; subst h; rfl
  | x :: xs, _, h => by rw [IsTrs] at h; obtain ⟨v, vs', rfl, _, h2⟩ := h; simp [IsTrs.len h2]
theorem IsTrs.at_ : ∀ {xs : List T} {rs : List TR}, IsTrs w S xs rs → ∀ {i : Nat} {x : T} {r : TR}, xs[i]? = some x → rs[i]? = some r → IsTr w S x r
  | [], _, h, i, x, v, hx, _ => by simp at hx
  | x :: xs, _, h, i, y, u, hx, hv => by
    rw [IsTrs] at h
    obtain ⟨v, vs', rfl, h1, h2⟩ := h
    cases i with
    | zero => simp at hx hv; subst hx hv; exact h1
    | succ i => simp at hx hv; exact IsTrs.at_ h2 hx hv
theorem IsTrs.mk' : ∀ {xs : List T} {rs : List TR}, rs.length = xs.length → (∀ (i : Nat) (x : T) (r : TR), xs[i]? = some x → rs[i]? = some r → IsTr w S x r) → IsTrs w S xs rs
  | [], vs, h, _ => by rw [IsTrs]; simpa using h
  | x :: xs, [], h, _ => by simp at h
  | x :: xs, v :: vs, h, H => by
    rw [IsTrs]
    exact ⟨v, vs, rfl, H 0 x v rfl rfl, IsTrs.mk' (by simpa using h) fun i x v hx hv => H (i + 1) x v (by simpa using hx) (by simpa using hv)⟩
theorem IsTrs.some {xs : List T} {rs : List TR} (h : IsTrs w S xs rs) {i : Nat} {x : T} (hx : xs[i]? = some x) : ∃ r, rs[i]? = some r ∧ IsTr w S x r := by
  have hl := h.len
  have := (List.getElem?_eq_some_iff.1 hx).1
  exact ⟨rs[i], List.getElem?_eq_getElem (by omega), h.at_ hx (List.getElem?_eq_getElem (by omega))⟩
theorem IsTrs.app {xs ys : List T} {rs us : List TR} (h : IsTrs w S xs rs) (h' : IsTrs w S ys us) : IsTrs w S (xs ++ ys) (rs ++ us) := by
  have l1 := h.len
  have l2 := h'.len
  refine .mk' (by simp [l1, l2]) fun i x v hx hv => ?_
  rw [List.getElem?_append] at hx hv
  rw [l1] at hv
  by_cases hi : i < xs.length
  · rw [if_pos hi] at hx hv; exact h.at_ hx hv
  · rw [if_neg hi] at hx hv; exact h'.at_ hx hv
theorem IsTrs.one {x : T} {r : TR} (h : IsTr w S x r) : IsTrs w S [x] [r] := by rw [IsTrs]; exact ⟨r, [], rfl, h, by rw [IsTrs]⟩
mutual
theorem IsTr.imp (hr : ∀ s A n xs, 0 < s → Reads w S s A n xs → Reads w' S' s A n xs) : ∀ (x : T) (r : TR), IsTr w S x r → IsTr w' S' x r
  | .mk k i t ks xs, r, h => by
    rw [IsTr] at h ⊢
    obtain ⟨h1, h2, h3, h4, h5, h6, h7, h8, rs, h9, h10⟩ := h
    exact ⟨h1, h2, h3, h4, h5, hr _ _ _ _ (by omega) h6, h7, h8, rs, hr _ _ _ _ (by omega) h9, IsTrs.imp hr xs rs h10⟩
theorem IsTrs.imp (hr : ∀ s A n xs, 0 < s → Reads w S s A n xs → Reads w' S' s A n xs) : ∀ (xs : List T) (rs : List TR), IsTrs w S xs rs → IsTrs w' S' xs rs
  | [], rs, h => by rw [IsTrs] at h ⊢; exact h
  | x :: xs, rs, h => by
    rw [IsTrs] at h ⊢
    obtain ⟨v, vs', e, h1, h2⟩ := h
    exact ⟨v, vs', e, IsTr.imp hr x v h1, IsTrs.imp hr xs vs' h2⟩
end
theorem IsTr.keeps {x : T} {r : TR} (h : IsTr w S x r) (hk : Keeps S w w') : IsTr w' S x r := IsTr.imp (fun _ _ _ _ _ hr => hr.keeps hk) x r h
theorem IsTr.more {x : T} {r : TR} (h : IsTr w S x r) (hS : ∀ k, S k → S' k) : IsTr w S' x r := IsTr.imp (fun _ _ _ _ _ hr => hr.more hS) x r h
theorem IsTr.bound {x : T} {r : TR} (h : IsTr w S x r) : IsTr w (fun k => S k ∧ k < w.heap.size) x r := IsTr.imp (fun _ _ _ _ h0 hr => hr.bound h0) x r h
theorem IsTrs.keeps {x : List T} {r : List TR} (h : IsTrs w S x r) (hk : Keeps S w w') : IsTrs w' S x r := IsTrs.imp (fun _ _ _ _ _ hr => hr.keeps hk) x r h
theorem IsTrs.more {x : List T} {r : List TR} (h : IsTrs w S x r) (hS : ∀ k, S k → S' k) : IsTrs w S' x r := IsTrs.imp (fun _ _ _ _ _ hr => hr.more hS) x r h
theorem IsTrs.bound {x : List T} {r : List TR} (h : IsTrs w S x r) : IsTrs w (fun k => S k ∧ k < w.heap.size) x r := IsTrs.imp (fun _ _ _ _ h0 hr => hr.bound h0) x r h
end
end Go.Proofs.YtfcegalckjeafaaGreatDoor
namespace Go.Proofs.YtfcegalckjeafaaGreatDoor
open Go.RowKit Go.BigFrame
/-- A count that is no number too large. -/
def Cn (n : Int) : Prop := 0 ≤ n ∧ n ≤ 1000000000
theorem depth_any (v : V) (w : World) (h : Cn v.bel) : Calls Tryz.prog 129 #[v.a] w fun e w' => e = .returned (.int .i64 (v.bel + 1)) ∧ Below w.heap.size w w' := by
  obtain ⟨h0, h1⟩ := h
  obtain ⟨sk, si, st, kd, vec, seed, bits, n, dic, bel, mor⟩ := v
  simp only at h0 h1
  simp only [V.a]
  go_enter Tryz.func129, Tryz.ntmps129
  go_wp2
  go_ret
  exact ⟨rfl, (Below.refl _ _).alloc (Nat.le_refl _) _⟩
theorem nodes_any (v : V) (w : World) (h : Cn v.mor) : Calls Tryz.prog 22 #[v.a] w fun e w' => e = .returned (.int .i64 (v.mor + 1)) ∧ Below w.heap.size w w' := by
  obtain ⟨h0, h1⟩ := h
  obtain ⟨sk, si, st, kd, vec, seed, bits, n, dic, bel, mor⟩ := v
  simp only at h0 h1
  simp only [V.a]
  go_enter Tryz.func22, Tryz.ntmps22
  go_wp2
  go_ret
  exact ⟨rfl, (Below.refl _ _).alloc (Nat.le_refl _) _⟩
theorem kind_any (v : V) (w : World) : Calls Tryz.prog 32 #[v.a] w fun e w' => e = .returned (.int .i64 v.kd) ∧ Below w.heap.size w w' := by
  obtain ⟨sk, si, st, kd, vec, seed, bits, n, dic, bel, mor⟩ := v
  simp only [V.a]
  go_enter Tryz.func32, Tryz.ntmps32
  go_wp2
  go_ret
  exact ⟨rfl, (Below.refl _ _).alloc (Nat.le_refl _) _⟩
/-- A step as a value. -/
def St.a (s : St) : Value := .agg #[.int .i64 s.K, .int .i64 s.I, .string ⟨s.T.toArray⟩]
def St.l (s : St) : List Value := [.int .i64 s.K, .int .i64 s.I, sv s.T]
theorem fits_any (v : V) (x : T) (s : St) (w : World) (hk : v.kd = x.k) (h : 0 ≤ x.k ∧ x.k ≤ 6) : Calls Tryz.prog 100 #[v.a, s.a] w fun e w' => e = .returned (.int .i64 (fitsT x s)) ∧ Below w.heap.size w w' := by
  obtain ⟨sk, si, st, kd, vec, seed, bits, n, dic, bel, mor⟩ := v
  obtain ⟨K, I, TT⟩ := s
  simp only at hk
  subst hk
  obtain ⟨h0, h6⟩ := h
  obtain ⟨R, hR⟩ : ∃ R, R = fitsT x ⟨K, I, TT⟩ := ⟨_, rfl⟩
  have hR' := hR
  simp only [fitsT] at hR'
  rw [← hR]
  clear hR
  generalize x.k = k at *
  simp only [V.a, St.a]
  by_cases c1 : K < 0
  · obtain rfl : R = 1 := by rw [hR', if_pos (.inl c1)]
    clear hR'
    go_enter Tryz.func100, Tryz.ntmps100
    go_wp2
    go_ret
    exact ⟨rfl, ((Below.refl _ _).alloc (Nat.le_refl _) _).alloc (by simp) _⟩
  by_cases c2 : 2 < K
  · obtain rfl : R = 1 := by rw [hR', if_pos (.inr c2)]
    clear hR'
    go_enter Tryz.func100, Tryz.ntmps100
    go_wp2
    go_ret
    exact ⟨rfl, ((Below.refl _ _).alloc (Nat.le_refl _) _).alloc (by simp) _⟩
  rw [if_neg (by omega)] at hR'
  by_cases c3 : k = K + 4
  · obtain rfl : R = 0 := by rw [hR', if_neg (by omega)]
    clear hR'
    subst c3
    go_enter Tryz.func100, Tryz.ntmps100
    go_wp2
    go_ret
    exact ⟨rfl, ((Below.refl _ _).alloc (Nat.le_refl _) _).alloc (by simp) _⟩
  · obtain rfl : R = 3 := by rw [hR', if_pos c3]
    clear hR'
    have c3' : ((k : Int) == K + 4) = false := by simpa using c3
    go_enter Tryz.func100, Tryz.ntmps100
    go_wp2
    go_ret
    exact ⟨rfl, ((Below.refl _ _).alloc (Nat.le_refl _) _).alloc (by simp) _⟩
end Go.Proofs.YtfcegalckjeafaaGreatDoor
namespace Go.Proofs.YtfcegalckjeafaaGreatDoor
open Go.RowKit Go.BigFrame
def eV : Enc V := ⟨V.l, 11, fun _ => rfl, fun v => one_V v⟩
theorem infoV11 : (Tryz.prog.info? 42).map (·.size) = some 11 := by kernel_rfl
set_option maxRecDepth 100000 in
set_option maxHeartbeats 4000000 in
theorem with_any (v x : V) (w : World) (h1 : Cn v.bel) (h2 : Cn v.mor) (h3 : Cn x.bel) (h4 : Cn x.mor) :
    Calls Tryz.prog 111 #[v.a, x.a] w fun e w' => e = .returned (V.a { v with bel := max v.bel (x.bel + 1), mor := v.mor + (x.mor + 1) }) ∧ Below w.heap.size w w' := by
  have HD := Lib.hid (fun W => depth_any x W h3)
  have HN := Lib.hid (fun W => nodes_any x W h4)
  obtain ⟨sk, si, st, kd, vec, seed, bits, n, dic, bel, mor⟩ := v
  obtain ⟨sk1, si1, st1, kd1, vec1, seed1, bits1, n1, dic1, bel1, mor1⟩ := x
  obtain ⟨a1, a2⟩ := h1
  obtain ⟨b1, b2⟩ := h2
  obtain ⟨c1, c2⟩ := h3
  obtain ⟨d1, d2⟩ := h4
  simp only at a1 a2 b1 b2 c1 c2 d1 d2 ⊢
  simp only [V.a] at HD HN ⊢
  obtain ⟨M, hM⟩ : ∃ M, M = max bel (bel1 + 1) := ⟨_, rfl⟩
  rw [← hM]
  have HM := Lib.hid hM
  clear hM
  go_enter Tryz.func111, Tryz.ntmps111
  go_wp2_with fail
  refine wp_at fun W hW => ?_
  obtain ⟨hB, hz, HP, HX, HO⟩ := boxes3 hW
  have HZ := Lib.hid hz
  have HB := Lib.hid hB
  have KEEP : Hid (∀ W', Below W.heap.size W W' → Below w.heap.size w W' ∧ Blk W' w.heap.size 42 #[.int .i64 sk, .int .i64 si, .string ⟨st.toArray⟩, .int .i64 kd, .pointer vec, .int .u64 seed, .int .i64 bits, .int .i64 n, .pointer dic, .int .i64 bel, .int .i64 mor] ∧ VB W' (w.heap.size + 1) ⟨sk1, si1, st1, kd1, vec1, seed1, bits1, n1, dic1, bel1, mor1⟩ ∧ Blk W' (w.heap.size + 1 + 1) 42 V.z.l.toArray) := Lib.hid fun W' h => ⟨hB.trans (h.mono hB.size), HP.below h HP.lt, HX.below h HX.lt, HO.below h HO.lt⟩
  clear hW hB hz HP HX HO
  have K0 := KEEP.out W.drew (Below.refl _ _).drew
  refine wp_region_sq 5 [(0, true), (1, true), (2, true), (3, false), (4, true)] (fun w' => w'.cell? ⟨w.heap.size, 9, none⟩ = some (.int .i64 bel) ∧ VB w' (w.heap.size + 1) ⟨sk1, si1, st1, kd1, vec1, seed1, bits1, n1, dic1, bel1, mor1⟩) (by kernel_rfl) (by kernel_rfl) ⟨K0.2.1.cell 9, K0.2.2.1⟩ (fun hS => ?_)
  iterate 2 (refine sq_t (o := ⟨_, _, _, _, _, _⟩) (v := ?_) rfl (by rfl) ?_ ?_; rotate_left; (· (intro w hSw; (try dsimp only at hSw); obtain ⟨hS1, -⟩ := hSw; go_simp; try with_reducible rfl)); try simp only [Act.put, List.setIfInBounds_toArray, List.set_cons_zero, List.set_cons_succ])
  refine sq_t (o := ⟨_, _, _, _, _, _⟩) (v := V.a ⟨sk1, si1, st1, kd1, vec1, seed1, bits1, n1, dic1, bel1, mor1⟩) rfl (by rfl) (fun w' hw' => exec_load_V rfl (by simp [Act.eval]) hw'.2) ?_
  try simp only [Act.put, List.setIfInBounds_toArray, List.set_cons_zero, List.set_cons_succ]
  refine sq_c rfl (fun K hK => ?_)
  go_simp
  refine (HD.out _).mono ?_
  rintro e w4 ⟨rfl, hb4⟩
  have K4 := KEEP.out w4 ((Below.refl _ _).drew.trans hb4)
  refine hK.out _ _ ⟨K4.2.1.cell 9, K4.2.2.1⟩ (fun hS => ?_)
  clear hK K
  try simp only [Act.put, List.setIfInBounds_toArray, List.set_cons_zero, List.set_cons_succ]
  refine sq_t (o := ⟨_, _, _, _, _, _⟩) (v := .int .i64 M) rfl (by rfl) (fun w' hw' => ?_) ?_
  · by_cases hlt : bel < bel1 + 1
    · have e : M = bel1 + 1 := by rw [HM.out]; omega
      rw [e]
      go_simp
    · have e : M = bel := by rw [HM.out]; omega
      rw [e]
      go_simp
  try simp only [Act.put, List.setIfInBounds_toArray, List.set_cons_zero, List.set_cons_succ]
  simp only [wpSq, List.drop_succ_cons, List.drop_zero]
  have c9 := K4.2.1.cell 9
  have f9 := K4.2.1.frozen 9
  clear hS
  go_wp2_with fail
  refine NoPanic.normal ?_
  go_wp2_with fail
  refine wp_at fun W2 hW2 => ?_
  have hzz := HZ.out
  have KEEP2 : Hid (∀ W', Below W2.heap.size W2 W' → Below w.heap.size w W' ∧ Blk W' w.heap.size 42 #[.int .i64 sk, .int .i64 si, .string ⟨st.toArray⟩, .int .i64 kd, .pointer vec, .int .u64 seed, .int .i64 bits, .int .i64 n, .pointer dic, .int .i64 M, .int .i64 mor] ∧ VB W' (w.heap.size + 1) ⟨sk1, si1, st1, kd1, vec1, seed1, bits1, n1, dic1, bel1, mor1⟩ ∧ Blk W' (w.heap.size + 1 + 1) 42 V.z.l.toArray) := by
    obtain ⟨k1, k2, k3, k4⟩ := K4
    have hB2 : Below w.heap.size w W2 := by rw [hW2]; exact k1.setCell (Nat.le_refl _) _
    have p2 : Blk W2 w.heap.size 42 #[.int .i64 sk, .int .i64 si, .string ⟨st.toArray⟩, .int .i64 kd, .pointer vec, .int .u64 seed, .int .i64 bits, .int .i64 n, .pointer dic, .int .i64 M, .int .i64 mor] := by rw [hW2]; simpa using k2.set_ 9 (.int .i64 M)
    have x2 : VB W2 (w.heap.size + 1) ⟨sk1, si1, st1, kd1, vec1, seed1, bits1, n1, dic1, bel1, mor1⟩ := by rw [hW2]; exact Blk.far k3 (p := ⟨w.heap.size, 9, none⟩) (by simp) _
    have o2 : Blk W2 (w.heap.size + 1 + 1) 42 V.z.l.toArray := by rw [hW2]; exact Blk.far k4 (p := ⟨w.heap.size, 9, none⟩) (by simp; omega) _
    exact fun W' h => ⟨hB2.trans (h.mono hB2.size), p2.below h p2.lt, Blk.below x2 h x2.lt, o2.below h o2.lt⟩
  clear hW2 K4 c9 f9 hb4 K0 KEEP hS HB HD
  have K5 := KEEP2.out W2.drew (Below.refl _ _).drew
  refine wp_region_sq 5 [(0, true), (1, true), (2, true), (3, false), (4, true)] (fun w' => w'.cell? ⟨w.heap.size, 10, none⟩ = some (.int .i64 mor) ∧ VB w' (w.heap.size + 1) ⟨sk1, si1, st1, kd1, vec1, seed1, bits1, n1, dic1, bel1, mor1⟩) (by kernel_rfl) (by kernel_rfl) ⟨K5.2.1.cell 10, K5.2.2.1⟩ (fun hS => ?_)
  iterate 2 (refine sq_t (o := ⟨_, _, _, _, _, _⟩) (v := ?_) rfl (by rfl) ?_ ?_; rotate_left; (· (intro w hSw; (try dsimp only at hSw); obtain ⟨hS1, -⟩ := hSw; go_simp; try with_reducible rfl)); try simp only [Act.put, List.setIfInBounds_toArray, List.set_cons_zero, List.set_cons_succ])
  refine sq_t (o := ⟨_, _, _, _, _, _⟩) (v := V.a ⟨sk1, si1, st1, kd1, vec1, seed1, bits1, n1, dic1, bel1, mor1⟩) rfl (by rfl) (fun w' hw' => exec_load_V rfl (by simp [Act.eval]) hw'.2) ?_
  try simp only [Act.put, List.setIfInBounds_toArray, List.set_cons_zero, List.set_cons_succ]
  refine sq_c rfl (fun K hK => ?_)
  go_simp
  refine (HN.out _).mono ?_
  rintro e w6 ⟨rfl, hb6⟩
  have K6 := KEEP2.out w6 ((Below.refl _ _).drew.trans hb6)
  refine hK.out _ _ ⟨K6.2.1.cell 10, K6.2.2.1⟩ (fun hS => ?_)
  clear hK K
  try simp only [Act.put, List.setIfInBounds_toArray, List.set_cons_zero, List.set_cons_succ]
  iterate 1 (refine sq_t (o := ⟨_, _, _, _, _, _⟩) (v := ?_) rfl (by rfl) ?_ ?_; rotate_left; (· (intro w hSw; (try dsimp only at hSw); obtain ⟨hS1, -⟩ := hSw; go_simp; try with_reducible rfl)); try simp only [Act.put, List.setIfInBounds_toArray, List.set_cons_zero, List.set_cons_succ])
  simp only [wpSq, List.drop_succ_cons, List.drop_zero]
  have c10 := K6.2.1.cell 10
  have f10 := K6.2.1.frozen 10
  clear hS
  go_wp2_with fail
  refine NoPanic.normal ?_
  have hw7 : Hid (Blk (w6.setCell ⟨w.heap.size, 10, none⟩ (.int .i64 (mor + (mor1 + 1)))) w.heap.size 42 (V.l ⟨sk, si, st, kd, vec, seed, bits, n, dic, M, mor + (mor1 + 1)⟩).toArray) := Lib.hid (by simpa [V.l, sv] using K6.2.1.set_ 10 (.int .i64 (mor + (mor1 + 1))))
  have ho7 : Hid (Blk (w6.setCell ⟨w.heap.size, 10, none⟩ (.int .i64 (mor + (mor1 + 1)))) (w.heap.size + 1 + 1) 42 V.z.l.toArray) := Lib.hid (Blk.far K6.2.2.2 (p := ⟨w.heap.size, 10, none⟩) (by simp; omega) _)
  have hB7 : Hid (Below w.heap.size w (w6.setCell ⟨w.heap.size, 10, none⟩ (.int .i64 (mor + (mor1 + 1))))) := Lib.hid (K6.1.setCell (Nat.le_refl _) _)
  clear K6 c10 f10 hb6 K5 KEEP2 HN
  go_wp2_with (first
    | (refine wpList_ldl rfl (o := ⟨some 17, _, _, _, _, _⟩) rfl rfl (V.l ⟨sk, si, st, kd, vec, seed, bits, n, dic, M, mor + (mor1 + 1)⟩) isV (fun j u hu => by have := hw7.out.cell j; rw [at_zero, this]; simpa using hu) ?_)
    | (refine wpList_stE (E := eV) rfl rfl infoV11 rfl ⟨sk, si, st, kd, vec, seed, bits, n, dic, M, mor + (mor1 + 1)⟩ ho7.out rfl rfl ?_; intro w8 HR8 ho8 hB8)
    | fail)
  exact ret_c (p := 4) rfl rfl rfl HR8.out (by kernel_rfl) ⟨rfl, hB8 _ _ hB7.out (by omega)⟩
end Go.Proofs.YtfcegalckjeafaaGreatDoor
namespace Go.Proofs.YtfcegalckjeafaaGreatDoor
open Go.RowKit Go.BigFrame
theorem chg_below {W W' : World} {r : Option Nat} {B : Nat} (h : Below B W W') (hB : W.heap.size ≤ B := by exact Nat.le_refl _) : W.grownBy W' r := ⟨h.os, h.tape, h.output, h.size, fun k hk _ => h.block k (Nat.lt_of_lt_of_le hk hB)⟩
theorem chg_set (W : World) (g o : Nat) (u : Value) : W.grownBy (W.setCell ⟨g, o, none⟩ u) (some g) := by
  have hb := (Below.refl g W).setCell (p := ⟨g, o, none⟩) (Nat.le_refl _) u
  exact ⟨hb.os, hb.tape, hb.output, hb.size, fun k _ hk => Below.heap_setCell _ _ _ _ (fun e => hk (by rw [show k = g from e]))⟩
theorem chg_trans {A B C : World} {r : Option Nat} (h : A.grownBy B r) (k : B.grownBy C r) : A.grownBy C r := ⟨k.os.trans h.os, k.tape.trans h.tape, k.output.trans h.output, Nat.le_trans h.size k.size, fun i hi hr => (k.block i (Nat.lt_of_lt_of_le hi h.size) hr).trans (h.block i hi hr)⟩
theorem chg_tail {A B C : World} {r : Option Nat} (h : A.grownBy B r) (k : Below A.heap.size B C) : A.grownBy C r := ⟨k.os.trans h.os, k.tape.trans h.tape, k.output.trans h.output, Nat.le_trans h.size k.size, fun i hi hr => (k.block i hi).trans (h.block i hi hr)⟩
set_option maxRecDepth 100000 in
set_option maxHeartbeats 4000000 in
theorem cnt_any (v x : V) (s : St) (g : Nat) (w : World) (hg : VB w g v) (h1 : Cn v.bel) (h2 : Cn v.mor) (h3 : Cn x.bel) (h4 : Cn x.mor) :
    Calls Tryz.prog 179 #[s.a, x.a, .pointer (some ⟨g, 0, none⟩)] w fun e w' => (∃ u, e = .returned u) ∧ VB w' g { v with bel := max v.bel (x.bel + 1), mor := v.mor + (x.mor + 1) } ∧ w.grownBy w' (some g) := by
  have HD := Lib.hid (fun W => depth_any x W h3)
  have HN := Lib.hid (fun W => nodes_any x W h4)
  have HG := Lib.hid hg
  clear hg
  obtain ⟨sk, si, st, kd, vec, seed, bits, n, dic, bel, mor⟩ := v
  obtain ⟨sk1, si1, st1, kd1, vec1, seed1, bits1, n1, dic1, bel1, mor1⟩ := x
  obtain ⟨K0, I0, T0⟩ := s
  obtain ⟨a1, a2⟩ := h1
  obtain ⟨b1, b2⟩ := h2
  obtain ⟨c1, c2⟩ := h3
  obtain ⟨d1, d2⟩ := h4
  simp only at a1 a2 b1 b2 c1 c2 d1 d2 ⊢
  simp only [V.a, St.a] at HD HN ⊢
  obtain ⟨M, hM⟩ : ∃ M, M = max bel (bel1 + 1) := ⟨_, rfl⟩
  rw [← hM]
  have HM := Lib.hid hM
  clear hM
  go_enter Tryz.func179, Tryz.ntmps179
  go_wp2_with fail
  refine wp_at fun W hW => ?_
  obtain ⟨hB, hz, HP, HX⟩ := boxes2 hW
  have HZ := Lib.hid hz
  have HB := Lib.hid hB
  have KEEP : Hid (∀ W', Below W.heap.size W W' → w.grownBy W' (some g) ∧ Blk W' g 42 #[.int .i64 sk, .int .i64 si, .string ⟨st.toArray⟩, .int .i64 kd, .pointer vec, .int .u64 seed, .int .i64 bits, .int .i64 n, .pointer dic, .int .i64 bel, .int .i64 mor] ∧ VB W' (w.heap.size + 1) ⟨sk1, si1, st1, kd1, vec1, seed1, bits1, n1, dic1, bel1, mor1⟩) := Lib.hid fun W' h => ⟨chg_trans (chg_below hB) (chg_below h), (HG.out.below hB HG.out.lt).below h (HG.out.below hB HG.out.lt).lt, HX.below h HX.lt⟩
  clear hW hB hz HP HX
  have K0 := KEEP.out W.drew (Below.refl _ _).drew
  refine wp_region_sq 5 [(0, true), (1, true), (2, true), (3, false), (4, true)] (fun w' => w'.cell? ⟨g, 9, none⟩ = some (.int .i64 bel) ∧ VB w' (w.heap.size + 1) ⟨sk1, si1, st1, kd1, vec1, seed1, bits1, n1, dic1, bel1, mor1⟩) (by kernel_rfl) (by kernel_rfl) ⟨K0.2.1.cell 9, K0.2.2⟩ (fun hS => ?_)
  iterate 2 (refine sq_t (o := ⟨_, _, _, _, _, _⟩) (v := ?_) rfl (by rfl) ?_ ?_; rotate_left; (· (intro w hSw; (try dsimp only at hSw); obtain ⟨hS1, -⟩ := hSw; go_simp; try with_reducible rfl)); try simp only [Act.put, List.setIfInBounds_toArray, List.set_cons_zero, List.set_cons_succ])
  refine sq_t (o := ⟨_, _, _, _, _, _⟩) (v := V.a ⟨sk1, si1, st1, kd1, vec1, seed1, bits1, n1, dic1, bel1, mor1⟩) rfl (by rfl) (fun w' hw' => exec_load_V rfl (by simp [Act.eval]) hw'.2) ?_
  try simp only [Act.put, List.setIfInBounds_toArray, List.set_cons_zero, List.set_cons_succ]
  refine sq_c rfl (fun K hK => ?_)
  go_simp
  refine (HD.out _).mono ?_
  rintro e w4 ⟨rfl, hb4⟩
  have K4 := KEEP.out w4 ((Below.refl _ _).drew.trans hb4)
  refine hK.out _ _ ⟨K4.2.1.cell 9, K4.2.2⟩ (fun hS => ?_)
  clear hK K
  try simp only [Act.put, List.setIfInBounds_toArray, List.set_cons_zero, List.set_cons_succ]
  refine sq_t (o := ⟨_, _, _, _, _, _⟩) (v := .int .i64 M) rfl (by rfl) (fun w' hw' => ?_) ?_
  · by_cases hlt : bel < bel1 + 1
    · have e : M = bel1 + 1 := by rw [HM.out]; omega
      rw [e]
      go_simp
    · have e : M = bel := by rw [HM.out]; omega
      rw [e]
      go_simp
  try simp only [Act.put, List.setIfInBounds_toArray, List.set_cons_zero, List.set_cons_succ]
  simp only [wpSq, List.drop_succ_cons, List.drop_zero]
  have c9 := K4.2.1.cell 9
  have f9 := K4.2.1.frozen 9
  clear hS
  go_wp2_with fail
  refine NoPanic.normal ?_
  go_wp2_with fail
  refine wp_at fun W2 hW2 => ?_
  have KEEP2 : Hid (∀ W', Below W2.heap.size W2 W' → w.grownBy W' (some g) ∧ Blk W' g 42 #[.int .i64 sk, .int .i64 si, .string ⟨st.toArray⟩, .int .i64 kd, .pointer vec, .int .u64 seed, .int .i64 bits, .int .i64 n, .pointer dic, .int .i64 M, .int .i64 mor] ∧ VB W' (w.heap.size + 1) ⟨sk1, si1, st1, kd1, vec1, seed1, bits1, n1, dic1, bel1, mor1⟩) := by
    obtain ⟨k1, k2, k3⟩ := K4
    have hB2 : w.grownBy W2 (some g) := by rw [hW2]; exact chg_trans k1 (chg_set _ _ _ _)
    have p2 : Blk W2 g 42 #[.int .i64 sk, .int .i64 si, .string ⟨st.toArray⟩, .int .i64 kd, .pointer vec, .int .u64 seed, .int .i64 bits, .int .i64 n, .pointer dic, .int .i64 M, .int .i64 mor] := by rw [hW2]; simpa using k2.set_ 9 (.int .i64 M)
    have x2 : VB W2 (w.heap.size + 1) ⟨sk1, si1, st1, kd1, vec1, seed1, bits1, n1, dic1, bel1, mor1⟩ := by rw [hW2]; exact Blk.far k3 (p := ⟨g, 9, none⟩) (by have := HG.out.lt; show w.heap.size + 1 ≠ g; omega) _
    exact fun W' h => ⟨chg_trans hB2 (chg_below h), p2.below h p2.lt, Blk.below x2 h x2.lt⟩
  clear hW2 K4 c9 f9 hb4 K0 KEEP hS HB HD
  have K5 := KEEP2.out W2.drew (Below.refl _ _).drew
  refine wp_region_sq 5 [(0, true), (1, true), (2, true), (3, false), (4, true)] (fun w' => w'.cell? ⟨g, 10, none⟩ = some (.int .i64 mor) ∧ VB w' (w.heap.size + 1) ⟨sk1, si1, st1, kd1, vec1, seed1, bits1, n1, dic1, bel1, mor1⟩) (by kernel_rfl) (by kernel_rfl) ⟨K5.2.1.cell 10, K5.2.2⟩ (fun hS => ?_)
  iterate 2 (refine sq_t (o := ⟨_, _, _, _, _, _⟩) (v := ?_) rfl (by rfl) ?_ ?_; rotate_left; (· (intro w hSw; (try dsimp only at hSw); obtain ⟨hS1, -⟩ := hSw; go_simp; try with_reducible rfl)); try simp only [Act.put, List.setIfInBounds_toArray, List.set_cons_zero, List.set_cons_succ])
  refine sq_t (o := ⟨_, _, _, _, _, _⟩) (v := V.a ⟨sk1, si1, st1, kd1, vec1, seed1, bits1, n1, dic1, bel1, mor1⟩) rfl (by rfl) (fun w' hw' => exec_load_V rfl (by simp [Act.eval]) hw'.2) ?_
  try simp only [Act.put, List.setIfInBounds_toArray, List.set_cons_zero, List.set_cons_succ]
  refine sq_c rfl (fun K hK => ?_)
  go_simp
  refine (HN.out _).mono ?_
  rintro e w6 ⟨rfl, hb6⟩
  have K6 := KEEP2.out w6 ((Below.refl _ _).drew.trans hb6)
  refine hK.out _ _ ⟨K6.2.1.cell 10, K6.2.2⟩ (fun hS => ?_)
  clear hK K
  try simp only [Act.put, List.setIfInBounds_toArray, List.set_cons_zero, List.set_cons_succ]
  iterate 1 (refine sq_t (o := ⟨_, _, _, _, _, _⟩) (v := ?_) rfl (by rfl) ?_ ?_; rotate_left; (· (intro w hSw; (try dsimp only at hSw); obtain ⟨hS1, -⟩ := hSw; go_simp; try with_reducible rfl)); try simp only [Act.put, List.setIfInBounds_toArray, List.set_cons_zero, List.set_cons_succ])
  simp only [wpSq, List.drop_succ_cons, List.drop_zero]
  have c10 := K6.2.1.cell 10
  have f10 := K6.2.1.frozen 10
  clear hS
  go_wp2_with fail
  refine NoPanic.normal ?_
  clear c10 f10 hb6 K5 HN
  go_wp2
  go_end0
  refine ⟨⟨_, rfl⟩, by simpa [VB, V.l, sv] using K6.2.1.set_ 10 (.int .i64 (mor + (mor1 + 1))), chg_trans K6.1 (chg_set _ _ _ _)⟩
end Go.Proofs.YtfcegalckjeafaaGreatDoor
