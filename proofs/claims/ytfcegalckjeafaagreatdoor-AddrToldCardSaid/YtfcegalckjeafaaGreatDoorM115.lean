/-
  Parts of the proof that AddrTold,AddrBegins calls on: Bs, Mx, My, Mz, Mn, Hs, Hn, Iv, Tops, Tr, Vs.
-/
import Derived.BigQuiet
import Derived.Deep.DeepAppendRoom
import Derived.Lib.Bytealg
import Derived.Test.YtfcegalckjeafaaGreatDoorM101
import Derived.Test.YtfcegalckjeafaaGreatDoorM103
import Derived.Test.YtfcegalckjeafaaGreatDoorM105
import Derived.Test.YtfcegalckjeafaaGreatDoorM109
import Derived.Test.YtfcegalckjeafaaGreatDoorM114
namespace Go.Proofs.YtfcegalckjeafaaGreatDoor
open Go.RowKit Go.BigFrame
/-- Pairs by rising keys. -/
def Srt (ps : List PR) : Prop := ∀ (i j : Nat) (p q : PR), i < j → ps[i]? = some p → ps[j]? = some q → p.key < q.key
end Go.Proofs.YtfcegalckjeafaaGreatDoor
namespace Go.Proofs.YtfcegalckjeafaaGreatDoor
open Go.RowKit Go.BigFrame
/-- Five bits of a sum. -/
def chunk (s : Nat) (l : Int) : Nat := if l < 0 then 0 else if 13 ≤ l then 0 else s / 2 ^ (5 * l.toNat) % 32
end Go.Proofs.YtfcegalckjeafaaGreatDoor
namespace Go.Proofs.YtfcegalckjeafaaGreatDoor
open Go.RowKit Go.BigFrame
/-- A word of 64 bits. -/
def U (x : Int) : Prop := 0 ≤ x ∧ x < 18446744073709551616
def mend (h : Int) : Int := bits .xor .u64 (IntKind.u64.wrap (bits .xor .u64 h (h / 4294967296) * 15485907386658061715)) (IntKind.u64.wrap (bits .xor .u64 h (h / 4294967296) * 15485907386658061715) / 4294967296)
theorem U.bits (op : BinOp) (a b : Int) : U (Go.bits op .u64 a b) := by
  have h : ∀ n : Int, U (IntKind.u64.wrap n) := fun n => by rw [IntKind.wrap_u64]; exact ⟨Int.emod_nonneg _ (by decide), Int.emod_lt_of_pos _ (by decide)⟩
  unfold Go.bits
  split <;> exact h _
set_option maxHeartbeats 1000000 in
theorem mend_any (h : Int) (hh : U h) (w : World) : Calls Tryz.prog 215 #[.int .u64 h] w fun e w' => e = .returned (.int .u64 (mend h)) ∧ w' = w := by
  obtain ⟨h1, h2⟩ := hh
  go_enter Tryz.func215, Tryz.ntmps215
  go_wp2
  go_ret
  exact ⟨rfl, rfl⟩
def mrot (h : Int) : Int := bits .or .u64 (IntKind.u64.wrap (h * 2147483648)) (h / 8589934592)
def mstep (h x : Int) : Int := IntKind.u64.wrap (mrot (IntKind.u64.wrap (bits .xor .u64 h x * 11400714819323198485)) + 15485907386658061715)
theorem U.wrap (n : Int) : U (IntKind.u64.wrap n) := by rw [IntKind.wrap_u64]; exact ⟨Int.emod_nonneg _ (by decide), Int.emod_lt_of_pos _ (by decide)⟩
set_option maxHeartbeats 1000000 in
theorem mrot_any (h : Int) (hh : U h) (w : World) : Calls Tryz.prog 228 #[.int .u64 h, .int .i64 31] w fun e w' => e = .returned (.int .u64 (mrot h)) ∧ w' = w := by
  obtain ⟨h1, h2⟩ := hh
  have h3 : bits .and .u64 31 63 = 31 := by kernel_rfl
  go_enter Tryz.func228, Tryz.ntmps228
  go_wp2
  go_ret
  exact ⟨rfl, rfl⟩
set_option maxHeartbeats 1000000 in
theorem mstep_any (h x : Int) (hh : U h) (hx : U x) (w : World) : Calls Tryz.prog 213 #[.int .u64 h, .int .u64 x] w fun e w' => e = .returned (.int .u64 (mstep h x)) ∧ w' = w := by
  obtain ⟨h1, h2⟩ := hh
  obtain ⟨h3, h4⟩ := hx
  have HU := Lib.hid (U.wrap (bits .xor .u64 h x * 11400714819323198485))
  go_enter Tryz.func213, Tryz.ntmps213
  go_wp2_with fail
  refine (mrot_any _ HU.out _).mono ?_
  rintro e w1 ⟨rfl, rfl⟩
  have HM := Lib.hid (U.bits .or (IntKind.u64.wrap (IntKind.u64.wrap (bits .xor .u64 h x * 11400714819323198485) * 2147483648)) (IntKind.u64.wrap (bits .xor .u64 h x * 11400714819323198485) / 8589934592))
  go_wp2
  go_ret
  exact ⟨rfl, rfl⟩
end Go.Proofs.YtfcegalckjeafaaGreatDoor
namespace Go.Proofs.YtfcegalckjeafaaGreatDoor
open Go.RowKit Go.BigFrame
/-- Eight bytes at a place, t of them in. -/
def wst (s : List UInt8) (i : Nat) : Nat → Int
  | 0 => 0
  | t + 1 => if h : i + t < s.length then bits .or .u64 (IntKind.u64.wrap (wst s i t * 256)) (s[i + t].toNat : Int) else IntKind.u64.wrap (wst s i t * 256)
theorem U.wst (s : List UInt8) (i : Nat) : ∀ t, U (wst s i t)
  | 0 => ⟨by simp [Proofs.YtfcegalckjeafaaGreatDoor.wst], by simp [Proofs.YtfcegalckjeafaaGreatDoor.wst]⟩
  | t + 1 => by
    unfold Proofs.YtfcegalckjeafaaGreatDoor.wst
    split
    · exact U.bits _ _ _
    · exact U.wrap _
set_option maxRecDepth 100000 in
set_option maxHeartbeats 2000000 in
theorem word_any (s : List UInt8) (i : Nat) (w : World) (hi : i ≤ 1152921504606846976) (hs : s.length ≤ 1152921504606846976) : Calls Tryz.prog 214 #[sv s, .int .i64 i] w fun e w' => e = .returned (.int .u64 (wst s i 8)) ∧ w' = w := by
  simp only [sv]
  go_enter Tryz.func214, Tryz.ntmps214
  go_wp2
  go_loopw [5, 7] (fun x t wr => wr = w ∧ ∃ k : Nat, k ≤ 8 ∧ t = .int .i64 k ∧ x = .int .u64 (wst s i k)) (fun _ t _ => 8 - (intOf t).toNat)
  case atStart => exact ⟨rfl, 0, by omega, rfl, rfl⟩
  case round =>
    obtain ⟨rfl, k, hk, rfl, rfl⟩ := hrel
    obtain ⟨u1, u2⟩ := U.wst s i k
    by_cases h8 : k < 8
    · have h9 : (k : Int) < 8 := by omega
      by_cases hlt : i + k < s.length
      · have e1 : wst s i (k + 1) = bits .or .u64 (IntKind.u64.wrap (wst s i k * 256)) (s[i + k].toNat : Int) := by rw [wst, dif_pos hlt]
        have E1 := Lib.hid e1
        have b1 := UInt8.toNat_lt s[i + k]
        have e2 : s[i + k]? = some s[i + k] := List.getElem?_eq_getElem hlt
        have h10 : (i : Int) + (k : Int) < (s.length : Int) := by omega
        clear e1
        generalize s[i + k] = b at *
        generalize wst s i k = q at *
        go_wp2
        refine ⟨⟨trivial, k + 1, by omega, by go_num, ?_⟩, by simp [intOf]; omega⟩
        rw [E1.out]
        have e3 : (IntKind.u64.wrap (b.toNat : Int)) = (b.toNat : Int) := by rw [IntKind.wrap_u64]; omega
        have e4 : ∀ h, (⟨s.toArray⟩ : ByteArray)[i + k]'h = b := fun h => by
          have h5 := List.getElem?_eq_some_iff.1 e2
          obtain ⟨_, h6⟩ := h5
          rw [← h6]; rfl
        rw [e4, e3]
      · have e1 : wst s i (k + 1) = IntKind.u64.wrap (wst s i k * 256) := by rw [wst, dif_neg hlt]
        have E1 := Lib.hid e1
        have h10 : (s.length : Int) ≤ (i : Int) + (k : Int) := by omega
        clear e1
        generalize wst s i k = q at *
        go_wp2
        go_roundw
        case rel => exact ⟨trivial, k + 1, by omega, by go_num, by rw [E1.out]⟩
        case measure => simp [intOf]; omega
    · obtain rfl : k = 8 := by omega
      go_wp2
      go_ret
      exact ⟨rfl, rfl⟩
/-- A text's sum, t words in. -/
def tst (c : Int) (s : List UInt8) : Nat → Int
  | 0 => mstep c (s.length : Int)
  | t + 1 => mstep (tst c s t) (wst s (8 * t) 8)
theorem U.mstep (h x : Int) : U (mstep h x) := U.wrap _
theorem U.tst (c : Int) (s : List UInt8) (t : Nat) : U (tst c s t) := by cases t <;> exact U.wrap _
def mtext (c : Int) (s : List UInt8) : Int := mend (tst c s ((s.length + 7) / 8))
theorem U.mtext (c : Int) (s : List UInt8) : U (mtext c s) := by
  unfold Proofs.YtfcegalckjeafaaGreatDoor.mtext mend
  exact U.bits _ _ _
set_option maxRecDepth 100000 in
set_option maxHeartbeats 2000000 in
theorem text_any (c : Int) (s : List UInt8) (w : World) (hc : U c) (hs : s.length ≤ 1152921504606846968) : Calls Tryz.prog 184 #[.int .u64 c, sv s] w fun e w' => e = .returned (.int .u64 (mtext c s)) ∧ w' = w := by
  have HC := Lib.hid hc
  obtain ⟨c1, c2⟩ := hc
  have l1 : (0 : Int) ≤ (s.length : Int) := by omega
  have l2 : (s.length : Int) ≤ 1152921504606846968 := by omega
  have HL : Hid (U (s.length : Int)) := Lib.hid ⟨by omega, by omega⟩
  simp only [sv]
  go_enter Tryz.func184, Tryz.ntmps184
  go_wp2_with fail
  refine (mstep_any _ _ HC.out HL.out _).mono ?_
  rintro e w1 ⟨rfl, rfl⟩
  go_wp2
  go_loopw [5, 6] (fun x i wr => wr = w1 ∧ ∃ t : Nat, t ≤ (s.length + 7) / 8 ∧ i = .int .i64 ((8 * t : Nat) : Int) ∧ x = .int .u64 (tst c s t)) (fun _ i _ => s.length + 8 - (intOf i).toNat)
  case atStart => exact ⟨rfl, 0, by omega, rfl, rfl⟩
  case round =>
    obtain ⟨rfl, t, ht, rfl, rfl⟩ := hrel
    have HT := Lib.hid (U.tst c s t)
    obtain ⟨u1, u2⟩ := U.tst c s t
    by_cases hlt : 8 * t < s.length
    · have h9 : ((8 * t : Nat) : Int) < (s.length : Int) := by omega
      have HW := Lib.hid (word_any s (8 * t) wr (by omega) (by omega))
      have E1 : Hid (tst c s (t + 1) = mstep (tst c s t) (wst s (8 * t) 8)) := Lib.hid rfl
      have HQ := Lib.hid (U.wst s (8 * t) 8)
      have h10 : (((8 * t : Nat) : Int) + 8) = ((8 * (t + 1) : Nat) : Int) := by omega
      have H11 : Hid (s.length + 8 - 8 * (t + 1) < s.length + 8 - 8 * t) := Lib.hid (by omega)
      have H12 : Hid (t + 1 ≤ (s.length + 7) / 8) := Lib.hid (by omega)
      have H13 : Hid ((8 * t : Nat) = 8 * t) := Lib.hid rfl
      obtain ⟨m, hm⟩ : ∃ m, m = 8 * t := ⟨_, rfl⟩
      have HM := Lib.hid hm
      rw [← hm] at h9 HW HQ h10 ⊢
      simp only [sv] at HW
      have m1 : (m : Int) ≤ 1152921504606846968 := by omega
      clear h10 hlt hm
      go_wp2_with fail
      refine HW.out.mono ?_
      rintro e w2 ⟨rfl, rfl⟩
      obtain ⟨v1, v2⟩ := HQ.out
      go_wp2_with fail
      refine (mstep_any _ _ HT.out HQ.out _).mono ?_
      rintro e w3 ⟨rfl, rfl⟩
      go_wp2
      go_roundw
      case rel => exact ⟨trivial, t + 1, H12.out, by rw [HM.out]; go_num, by rw [E1.out, HM.out]⟩
      case measure => have := H11.out; have := HM.out; simp [intOf]; omega
    · obtain rfl : t = (s.length + 7) / 8 := by omega
      have h9 : (s.length : Int) ≤ ((8 * ((s.length + 7) / 8) : Nat) : Int) := by omega
      generalize hm : 8 * ((s.length + 7) / 8) = m at *
      go_wp2_with fail
      refine (mend_any _ HT.out _).mono ?_
      rintro e w2 ⟨rfl, rfl⟩
      go_wp2
      go_ret
      exact ⟨rfl, rfl⟩
end Go.Proofs.YtfcegalckjeafaaGreatDoor
namespace Go.Proofs.YtfcegalckjeafaaGreatDoor
open Go.RowKit Go.BigFrame
def mnarrow (s b : Int) : Int := if b ≤ 0 then 0 else if 64 ≤ b then s else bits .and .u64 s (IntKind.u64.wrap (IntKind.u64.wrap ((2 : Int) ^ b.toNat) - 1))
theorem U.mnarrow (s b : Int) (hs : U s) : U (mnarrow s b) := by
  unfold Proofs.YtfcegalckjeafaaGreatDoor.mnarrow
  split
  · exact ⟨by omega, by omega⟩
  · split
    · exact hs
    · exact U.bits _ _ _
set_option maxRecDepth 100000 in
set_option maxHeartbeats 1000000 in
theorem narrow_any (s b : Int) (w : World) (hs : U s) : Calls Tryz.prog 183 #[.int .u64 s, .int .i64 b] w fun e w' => e = .returned (.int .u64 (mnarrow s b)) ∧ w' = w := by
  obtain ⟨h1, h2⟩ := hs
  by_cases h0 : b ≤ 0
  · rw [mnarrow, if_pos h0]
    go_enter Tryz.func183, Tryz.ntmps183
    go_wp2
    go_ret
    exact ⟨rfl, rfl⟩
  by_cases h3 : 64 ≤ b
  · rw [mnarrow, if_neg h0, if_pos h3]
    go_enter Tryz.func183, Tryz.ntmps183
    go_wp2
    go_ret
    exact ⟨rfl, rfl⟩
  rw [mnarrow, if_neg h0, if_neg h3]
  obtain ⟨n, rfl⟩ := Int.eq_ofNat_of_zero_le (by omega : 0 ≤ b)
  rw [Int.toNat_natCast]
  have j0 : (0 : Int) < (n : Int) := by omega
  have j1 : (n : Int) < 64 := by omega
  clear h0 h3
  go_enter Tryz.func183, Tryz.ntmps183
  go_wp2
  go_ret
  exact ⟨rfl, rfl⟩
end Go.Proofs.YtfcegalckjeafaaGreatDoor
namespace Go.Proofs.YtfcegalckjeafaaGreatDoor
open Go.RowKit Go.BigFrame
/-- A key's sum, in a map of so a seed and so many bits. -/
def hsum (seed b : Int) (k : List UInt8) : Int := mnarrow (mtext seed k) b
theorem U.hsum (seed b : Int) (k : List UInt8) : U (hsum seed b k) := U.mnarrow _ _ (U.mtext _ _)
set_option maxRecDepth 100000 in
set_option maxHeartbeats 2000000 in
theorem hsum_any (seed b n : Int) (d : Option Addr) (k : List UInt8) (w : World) (hs : U seed) (hk : k.length ≤ 1152921504606846968) :
    Calls Tryz.prog 147 #[.agg #[.int .u64 seed, .int .i64 b, .int .i64 n, .pointer d], sv k] w fun e w' => e = .returned (.int .u64 (hsum seed b k)) ∧ Below w.heap.size w w' := by
  have HS := Lib.hid hs
  have HT := Lib.hid (fun W => text_any seed k W hs hk)
  have HN := Lib.hid (fun W => narrow_any (mtext seed k) b W (U.mtext seed k))
  have HQ := Lib.hid hk
  clear hs hk
  simp only [sv] at HT ⊢
  go_enter Tryz.func147, Tryz.ntmps147
  go_wp2_with fail
  go_quiet (first | (go_at_call 184; exact Calls.quiet_of_same (HT.out _)) | (go_at_call 183; exact Calls.quiet_of_same (HN.out _)))
  go_wp2
  go_ret
  exact ⟨rfl, ((Below.refl _ _).alloc (Nat.le_refl _) _).trans ((below_drewN _ _).mono (by simp))⟩
end Go.Proofs.YtfcegalckjeafaaGreatDoor
namespace Go.Proofs.YtfcegalckjeafaaGreatDoor
open Go.RowKit Go.BigFrame
/-- A map's four cells. -/
structure MP where
  seed : Int
  bits : Int
  n : Int
  d : Option Addr
def MP.l (m : MP) : List Value := [.int .u64 m.seed, .int .i64 m.bits, .int .i64 m.n, .pointer m.d]
end Go.Proofs.YtfcegalckjeafaaGreatDoor
namespace Go.Proofs.YtfcegalckjeafaaGreatDoor
open Go.RowKit Go.BigFrame
/-- A trie's node with so many levels of rows left, and its pairs. -/
def IsN (w : World) (S : Nat → Prop) (seed bits : Int) : Nat → List PR → Option Addr → Prop
  | 0, L, p => ∃ b ad c, p = some ⟨b, 0, none⟩ ∧ S b ∧ Blk w b 211 #[.int .u32 0, .slice none 0 0, .slice (some ad) L.length c] ∧ L.length ≤ c ∧ Srt L ∧ Reads w S 12 (some ad) L.length (eP.fl L)
  | d + 1, L, p => ∃ (b : Nat) (m : List (Option SL)) (A : Option Addr) (c : Nat) (ks : List (List PR)), p = some ⟨b, 0, none⟩ ∧ S b ∧ Blk w b 211 #[.int .u32 (Sp.bitsL m), .slice A (Sp.vals m).length c, .slice none 0 0] ∧ m.length = 32 ∧ (Sp.vals m).length ≤ c ∧ Reads w S 13 A (Sp.vals m).length (eS.fl (Sp.vals m)) ∧
      ks.length = 32 ∧ L = ks.flatten ∧ ∀ (i : Nat) (k : List PR), ks[i]? = some k → (Sp.at_ m i = none ∧ k = []) ∨ (∃ p, Sp.at_ m i = some ⟨p, none⟩ ∧ k = [p] ∧ chunk (hsum seed bits p.key).toNat (12 - (d : Int)) = i) ∨
        (∃ q, Sp.at_ m i = some ⟨PR.z, q⟩ ∧ IsN w S seed bits d k q ∧ ∀ p ∈ k, chunk (hsum seed bits p.key).toNat (12 - (d : Int)) = i)
/-- A map's pairs by rising keys, and its trie. -/
def IsMap (w : World) (S : Nat → Prop) (seed bits : Int) (P : List PR) (p : Option Addr) : Prop := U seed ∧ Srt P ∧ ((p = none ∧ P = []) ∨ ∃ L, IsN w S seed bits 13 L p ∧ L.Perm P)
mutual
/-- The cells are a value of the tree. -/
def IsV (w : World) (S : Nat → Prop) : T → V → Prop
  | .mk k i t ks xs, v => (k < 4 ∧ Sc k i t ∧ ks = [] ∧ xs = [] ∧ v = ⟨k, i, t, k, none, 0, 0, 0, none, 0, 0⟩) ∨
    (k = 4 ∧ i = 0 ∧ t = [] ∧ ks = [] ∧ ∃ vs p, IsRope w S vs p ∧ v = ⟨0, 0, [], 4, p, 0, 0, 0, none, depthL xs, nodesL xs⟩ ∧ IsVs w S xs vs) ∨
    ((k = 5 ∨ k = 6) ∧ i = 0 ∧ t = [] ∧ ∃ P seed bits d, IsMap w S seed bits P d ∧ v = ⟨0, 0, [], k, none, seed, bits, P.length, d, depthL xs, nodesL xs⟩ ∧ (k = 5 → P.map PR.key = ks) ∧ (k = 6 → ks = [] ∧ P.map PR.key = xs.map T.key) ∧ IsVs w S xs (P.map PR.v))
/-- As many values as trees, each of its tree. -/
def IsVs (w : World) (S : Nat → Prop) : List T → List V → Prop
  | [], vs => vs = []
  | x :: xs, vs => ∃ v vs', vs = v :: vs' ∧ IsV w S x v ∧ IsVs w S xs vs'
end
section
variable {S S' : Nat → Prop} {w w' : World}
theorem IsVs.len : ∀ {xs : List T} {vs : List V}, IsVs w S xs vs → vs.length = xs.length
  | [], _, h => by rw [IsVs] at h; subst h; rfl
  | x :: xs, _, h => by rw [IsVs] at h; obtain ⟨v, vs', rfl, _, h2⟩ := h; simp [IsVs.len h2]
theorem IsVs.at_ : ∀ {xs : List T} {vs : List V}, IsVs w S xs vs → ∀ {i : Nat} {x : T} {v : V}, xs[i]? = some x → vs[i]? = some v → IsV w S x v
  | [], _, h, i, x, v, hx, _ => by simp at hx
  | x :: xs, _, h, i, y, u, hx, hv => by
    rw [IsVs] at h
    obtain ⟨v, vs', rfl, h1, h2⟩ := h
    cases i with
    | zero => simp at hx hv; subst hx hv; exact h1
    | succ i => simp at hx hv; exact IsVs.at_ h2 hx hv
theorem IsVs.mk' : ∀ {xs : List T} {vs : List V}, vs.length = xs.length → (∀ (i : Nat) (x : T) (v : V), xs[i]? = some x → vs[i]? = some v → IsV w S x v) → IsVs w S xs vs
  | [], vs, h, _ => by rw [IsVs]; simpa using h
  | x :: xs, [], h, _ => by simp at h
  | x :: xs, v :: vs, h, H => by
    rw [IsVs]
    exact ⟨v, vs, rfl, H 0 x v rfl rfl, IsVs.mk' (by simpa using h) fun i x v hx hv => H (i + 1) x v (by simpa using hx) (by simpa using hv)⟩
theorem IsVs.some {xs : List T} {vs : List V} (h : IsVs w S xs vs) {i : Nat} {x : T} (hx : xs[i]? = some x) : ∃ v, vs[i]? = some v ∧ IsV w S x v := by
  have hl := h.len
  have := (List.getElem?_eq_some_iff.1 hx).1
  exact ⟨vs[i], List.getElem?_eq_getElem (by omega), h.at_ hx (List.getElem?_eq_getElem (by omega))⟩
theorem IsVs.app {xs ys : List T} {vs us : List V} (h : IsVs w S xs vs) (h' : IsVs w S ys us) : IsVs w S (xs ++ ys) (vs ++ us) := by
  have l1 := h.len
  have l2 := h'.len
  refine .mk' (by simp [l1, l2]) fun i x v hx hv => ?_
  rw [List.getElem?_append] at hx hv
  rw [l1] at hv
  by_cases hi : i < xs.length
  · rw [if_pos hi] at hx hv; exact h.at_ hx hv
  · rw [if_neg hi] at hx hv; exact h'.at_ hx hv
theorem IsVs.set {xs : List T} {vs : List V} {x : T} {v : V} (h : IsVs w S xs vs) (hx : IsV w S x v) (i : Nat) : IsVs w S (xs.set i x) (vs.set i v) := by
  have l1 := h.len
  refine .mk' (by simp [l1]) fun j y u hy hu => ?_
  rw [List.getElem?_set] at hy hu
  by_cases e : i = j
  · subst e
    rw [if_pos rfl] at hy hu
    split at hy <;> split at hu <;> simp_all
  · rw [if_neg e] at hy hu; exact h.at_ hy hu
theorem IsVs.take {xs : List T} {vs : List V} (h : IsVs w S xs vs) (n : Nat) : IsVs w S (xs.take n) (vs.take n) := by
  refine .mk' (by simp [h.len]) fun j y u hy hu => ?_
  rw [List.getElem?_take] at hy hu
  by_cases e : j < n
  · rw [if_pos e] at hy hu; exact h.at_ hy hu
  · rw [if_neg e] at hy; cases hy
theorem IsVs.drop {xs : List T} {vs : List V} (h : IsVs w S xs vs) (n : Nat) : IsVs w S (xs.drop n) (vs.drop n) := by
  refine .mk' (by simp [h.len]) fun j y u hy hu => ?_
  rw [List.getElem?_drop] at hy hu
  exact h.at_ hy hu
theorem IsVs.one {x : T} {v : V} (h : IsV w S x v) : IsVs w S [x] [v] := by rw [IsVs]; exact ⟨v, [], rfl, h, by rw [IsVs]⟩
theorem IsN.imp {seed bits : Int} (hb : ∀ b t cs, S b → Blk w b t cs → Blk w' b t cs ∧ S' b) (hr : ∀ s A n xs, 0 < s → Reads w S s A n xs → Reads w' S' s A n xs) :
    ∀ (d : Nat) (L : List PR) (p : Option Addr), IsN w S seed bits d L p → IsN w' S' seed bits d L p
  | 0, _, _, ⟨b, ad, c, e, hs, h1, h2, h3, h4⟩ => by
    obtain ⟨a1, a2⟩ := hb _ _ _ hs h1
    exact ⟨b, ad, c, e, a2, a1, h2, h3, hr _ _ _ _ (by omega) h4⟩
  | d + 1, _, _, ⟨b, m, A, c, ks, e, hs, h1, h2, h3, h4, h5, h6, h7⟩ => by
    obtain ⟨a1, a2⟩ := hb _ _ _ hs h1
    refine ⟨b, m, A, c, ks, e, a2, a1, h2, h3, hr _ _ _ _ (by omega) h4, h5, h6, fun i k hk => ?_⟩
    rcases h7 i k hk with h | h | ⟨q, h8, h9, h10⟩
    · exact .inl h
    · exact .inr (.inl h)
    · exact .inr (.inr ⟨q, h8, IsN.imp hb hr d k q h9, h10⟩)
theorem IsMap.imp {seed bits : Int} {P : List PR} {p : Option Addr} (hb : ∀ b t cs, S b → Blk w b t cs → Blk w' b t cs ∧ S' b) (hr : ∀ s A n xs, 0 < s → Reads w S s A n xs → Reads w' S' s A n xs) (h : IsMap w S seed bits P p) : IsMap w' S' seed bits P p :=
  ⟨h.1, h.2.1, h.2.2.imp_right fun ⟨L, h1, h2⟩ => ⟨L, IsN.imp hb hr _ _ _ h1, h2⟩⟩
theorem IsRope.imp (hb : ∀ b t cs, S b → Blk w b t cs → Blk w' b t cs ∧ S' b) (hr : ∀ s A n xs, 0 < s → Reads w S s A n xs → Reads w' S' s A n xs) {vs : List V} {p : Option Addr} (h : IsRope w S vs p) : IsRope w' S' vs p :=
  h.imp_right fun ⟨d, h⟩ => ⟨d, IsR.imp hb hr d vs p h⟩
mutual
theorem IsV.imp (hb : ∀ b t cs, S b → Blk w b t cs → Blk w' b t cs ∧ S' b) (hr : ∀ s A n xs, 0 < s → Reads w S s A n xs → Reads w' S' s A n xs) : ∀ (x : T) (v : V), IsV w S x v → IsV w' S' x v
  | .mk k i t ks xs, v, h => by
    rw [IsV] at h ⊢
    rcases h with h | ⟨h1, h2, h3, h4, vs, p, h5, h6, h7⟩ | ⟨h1, h2, h3, P, seed, bits, d, h4, h5, h6, h7, h8⟩
    · exact .inl h
    · exact .inr (.inl ⟨h1, h2, h3, h4, vs, p, h5.imp hb hr, h6, IsVs.imp hb hr xs vs h7⟩)
    · exact .inr (.inr ⟨h1, h2, h3, P, seed, bits, d, h4.imp hb hr, h5, h6, h7, IsVs.imp hb hr xs _ h8⟩)
theorem IsVs.imp (hb : ∀ b t cs, S b → Blk w b t cs → Blk w' b t cs ∧ S' b) (hr : ∀ s A n xs, 0 < s → Reads w S s A n xs → Reads w' S' s A n xs) : ∀ (xs : List T) (vs : List V), IsVs w S xs vs → IsVs w' S' xs vs
  | [], vs, h => by rw [IsVs] at h ⊢; exact h
  | x :: xs, vs, h => by
    rw [IsVs] at h ⊢
    obtain ⟨v, vs', e, h1, h2⟩ := h
    exact ⟨v, vs', e, IsV.imp hb hr x v h1, IsVs.imp hb hr xs vs' h2⟩
end
theorem IsV.keeps {x : T} {v : V} (h : IsV w S x v) (hk : Keeps S w w') : IsV w' S x v := IsV.imp (fun _ _ _ hs hb => ⟨hb.keeps hk hs, hs⟩) (fun _ _ _ _ _ hr => hr.keeps hk) x v h
theorem IsV.more {x : T} {v : V} (h : IsV w S x v) (hS : ∀ k, S k → S' k) : IsV w S' x v := IsV.imp (fun _ _ _ hs hb => ⟨hb, hS _ hs⟩) (fun _ _ _ _ _ hr => hr.more hS) x v h
theorem IsV.bound {x : T} {v : V} (h : IsV w S x v) : IsV w (fun k => S k ∧ k < w.heap.size) x v := IsV.imp (fun _ _ _ hs hb => ⟨hb, hs, hb.lt⟩) (fun _ _ _ _ h0 hr => hr.bound h0) x v h
theorem IsVs.keeps {x : List T} {v : List V} (h : IsVs w S x v) (hk : Keeps S w w') : IsVs w' S x v := IsVs.imp (fun _ _ _ hs hb => ⟨hb.keeps hk hs, hs⟩) (fun _ _ _ _ _ hr => hr.keeps hk) x v h
theorem IsVs.more {x : List T} {v : List V} (h : IsVs w S x v) (hS : ∀ k, S k → S' k) : IsVs w S' x v := IsVs.imp (fun _ _ _ hs hb => ⟨hb, hS _ hs⟩) (fun _ _ _ _ _ hr => hr.more hS) x v h
theorem IsVs.bound {x : List T} {v : List V} (h : IsVs w S x v) : IsVs w (fun k => S k ∧ k < w.heap.size) x v := IsVs.imp (fun _ _ _ hs hb => ⟨hb, hs, hb.lt⟩) (fun _ _ _ _ h0 hr => hr.bound h0) x v h
/-- The two counts of a value. -/
theorem IsV.sums {x : T} {v : V} (h : IsV w S x v) : v.bel = (depthL x.xs : Int) ∧ v.mor = (nodesL x.xs : Int) ∧ v.kd = x.k ∧ v.si = x.i ∧ v.st = x.t := by
  obtain ⟨k, i, t, ks, xs⟩ := x
  rw [IsV] at h
  rcases h with ⟨h1, h2, h3, h4, rfl⟩ | ⟨h1, h2, h3, h4, vs, p, h5, rfl, h7⟩ | ⟨h1, h2, h3, P, seed, bits, d, h4, rfl, h6, h7, h8⟩
  · simp [T.xs, T.k, T.i, T.t, h4, depthL, nodesL]
  · simp [T.xs, T.k, T.i, T.t, h1, h2, h3]
  · simp [T.xs, T.k, T.i, T.t, h2, h3]
end
end Go.Proofs.YtfcegalckjeafaaGreatDoor
namespace Go.Proofs.YtfcegalckjeafaaGreatDoor
/-- Null. -/
def T.z : T := .mk 0 0 [] [] []
/-- What is wrong with a step from a tree. -/
def fitsT (x : T) (s : St) : Int := if s.K < 0 ∨ 2 < s.K then 1 else if x.k ≠ s.K + 4 then 3 else 0
/-- A tree, or what is wrong with its size. -/
def withinT (x : T) : T × Int := if 64 < x.depth then (T.z, 7) else if 16384 < x.nodes then (T.z, 8) else (x, 0)
/-- The keys of a map or a set. -/
def T.names (x : T) : List (List UInt8) := if x.k = 5 then x.ks else x.xs.map T.key
/-- Which part a step goes to. -/
def idxT (x : T) (s : St) : Option Nat := if x.k = 4 then (if 0 ≤ s.I ∧ s.I < (x.xs.length : Int) then some s.I.toNat else none) else x.names.findIdx? (· == s.T)
/-- The part of a step. -/
def getT (x : T) (s : St) : T × Int := if fitsT x s ≠ 0 then (T.z, fitsT x s) else match idxT x s with
  | none => (T.z, 5)
  | some i => (x.xs.getD i T.z, 0)
/-- Where a key stands among rising ones, or would. -/
def rankK (ks : List (List UInt8)) (k : List UInt8) : Nat := (ks.takeWhile (fun a => decide (a < k))).length
/-- A tree with another part. -/
def setT (x : T) (s : St) (y : T) : T × Int := if fitsT x s ≠ 0 then (T.z, fitsT x s) else if x.k = 6 then (T.z, 12) else match idxT x s with
  | some i => withinT (.mk x.k x.i x.t x.ks (x.xs.set i y))
  | none => if x.k = 4 then (T.z, 5) else withinT (.mk x.k x.i x.t (x.ks.insertIdx (rankK x.ks s.T) s.T) (x.xs.insertIdx (rankK x.ks s.T) y))
theorem nodesL_set : ∀ (xs : List T) (i : Nat) (a y : T), xs[i]? = some a → nodesL (xs.set i y) + a.nodes = nodesL xs + y.nodes
  | [], i, a, y, h => by simp at h
  | x :: xs, 0, a, y, h => by
    obtain rfl : x = a := by simpa using h
    simp [nodesL]; omega
  | x :: xs, i + 1, a, y, h => by
    have := nodesL_set xs i a y (by simpa using h)
    simp [nodesL]; omega
theorem depthL_set_le : ∀ (xs : List T) (i : Nat) (y : T), depthL (xs.set i y) ≤ max (depthL xs) y.depth
  | [], i, y => by simp [depthL]
  | x :: xs, 0, y => by simp [depthL]; omega
  | x :: xs, i + 1, y => by
    have := depthL_set_le xs i y
    simp [depthL]; omega
theorem depthL_set_ge : ∀ (xs : List T) (i : Nat) (a y : T), xs[i]? = some a → y.depth ≤ depthL (xs.set i y) ∧ depthL xs ≤ max (depthL (xs.set i y)) a.depth
  | [], i, a, y, h => by simp at h
  | x :: xs, 0, a, y, h => by
    obtain rfl : x = a := by simpa using h
    simp [depthL]; omega
  | x :: xs, i + 1, a, y, h => by
    have := depthL_set_ge xs i a y (by simpa using h)
    simp [depthL]; omega
theorem depthL_set {xs : List T} {i : Nat} {a y : T} (h : xs[i]? = some a) (hd : a.depth ≠ depthL xs ∨ depthL xs ≤ y.depth) : depthL (xs.set i y) = max (depthL xs) y.depth := by
  have h1 := depthL_set_le xs i y
  have h2 := depthL_set_ge xs i a y h
  have h3 := depthL_mem (List.mem_of_getElem? h)
  omega
end Go.Proofs.YtfcegalckjeafaaGreatDoor
namespace Go.Proofs.YtfcegalckjeafaaGreatDoor
open Go.RowKit Go.BigFrame
/-- The cells of a tree. -/
structure TR where
  k : Int
  i : Int
  t : List UInt8
  kA : Option Addr
  kn : Nat
  kc : Nat
  xA : Option Addr
  xn : Nat
  xc : Nat
def TR.l (r : TR) : List Value := [.int .i64 r.k, .int .i64 r.i, sv r.t, .slice r.kA r.kn r.kc, .slice r.xA r.xn r.xc]
def TR.a (r : TR) : Value := .agg #[.int .i64 r.k, .int .i64 r.i, .string ⟨r.t.toArray⟩, .slice r.kA r.kn r.kc, .slice r.xA r.xn r.xc]
def TR.z : TR := ⟨0, 0, [], none, 0, 0, none, 0, 0⟩
def eT : Enc TR := ⟨TR.l, 5, fun _ => rfl, fun s u hu => by
  simp only [TR.l, List.mem_cons, List.not_mem_nil, or_false] at hu
  rcases hu with rfl | rfl | rfl | rfl | rfl <;> rfl⟩
theorem elT : El 26 28 5 80 := El.mk' (z := .agg #[.int .i64 0, .int .i64 0, .string ⟨#[]⟩, .slice none 0 0, .slice none 0 0]) Tryz.underlying26 (by kernel_rfl) rfl (by decide)
theorem isT : structB 28 5 = true := by kernel_rfl
theorem infoT : (Tryz.prog.info? 28).map (·.size) = some 5 := by kernel_rfl
mutual
/-- The cells are a tree. -/
def IsTr (w : World) (S : Nat → Prop) : T → TR → Prop
  | .mk k i t ks xs, r => r.k = k ∧ r.i = i ∧ r.t = t ∧ r.kn = ks.length ∧ ks.length ≤ r.kc ∧ Reads w S 1 r.kA ks.length (ks.map sv) ∧ r.xn = xs.length ∧ xs.length ≤ r.xc ∧ ∃ rs, Reads w S 5 r.xA xs.length (eT.fl rs) ∧ IsTrs w S xs rs
def IsTrs (w : World) (S : Nat → Prop) : List T → List TR → Prop
  | [], rs => rs = []
  | x :: xs, rs => ∃ r rs', rs = r :: rs' ∧ IsTr w S x r ∧ IsTrs w S xs rs'
end
section
variable {S S' : Nat → Prop} {w w' : World}
theorem IsTrs.len : ∀ {xs : List T} {rs : List TR}, IsTrs w S xs rs → rs.length = xs.length
  | [], _, h => by rw [IsTrs] at h; subst h; rfl
  | x :: xs, _, h => by rw [IsTrs] at h; obtain ⟨v, vs', rfl, _, h2⟩ := h; simp [IsTrs.len h2]
theorem IsTrs.at_ : ∀ {xs : List T} {rs : List TR}, IsTrs w S xs rs → ∀ {i : Nat} {x : T} {r : TR}, xs[i]? = some x → rs[i]? = some r → IsTr w S x r
  | [], _, h, i, x, v, hx, _ => by simp at hx
  | x :: xs, _, h, i, y, u, hx, hv => by
    rw [IsTrs] at h
    obtain ⟨v, vs', rfl, h1, h2⟩ := h
    cases i with
    | zero => simp at hx hv; subst hx hv; exact h1
    | succ i => simp at hx hv; exact IsTrs.at_ h2 hx hv
theorem IsTrs.mk' : ∀ {xs : List T} {rs : List TR}, rs.length = xs.length → (∀ (i : Nat) (x : T) (r : TR), xs[i]? = some x → rs[i]? = some r → IsTr w S x r) → IsTrs w S xs rs
  | [], vs, h, _ => by rw [IsTrs]; simpa using h
  | x :: xs, [], h, _ => by simp at h
  | x :: xs, v :: vs, h, H => by
    rw [IsTrs]
    exact ⟨v, vs, rfl, H 0 x v rfl rfl, IsTrs.mk' (by simpa using h) fun i x v hx hv => H (i + 1) x v (by simpa using hx) (by simpa using hv)⟩
theorem IsTrs.some {xs : List T} {rs : List TR} (h : IsTrs w S xs rs) {i : Nat} {x : T} (hx : xs[i]? = some x) : ∃ r, rs[i]? = some r ∧ IsTr w S x r := by
  have hl := h.len
  have := (List.getElem?_eq_some_iff.1 hx).1
  exact ⟨rs[i], List.getElem?_eq_getElem (by omega), h.at_ hx (List.getElem?_eq_getElem (by omega))⟩
theorem IsTrs.app {xs ys : List T} {rs us : List TR} (h : IsTrs w S xs rs) (h' : IsTrs w S ys us) : IsTrs w S (xs ++ ys) (rs ++ us) := by
  have l1 := h.len
  have l2 := h'.len
  refine .mk' (by simp [l1, l2]) fun i x v hx hv => ?_
  rw [List.getElem?_append] at hx hv
  rw [l1] at hv
  by_cases hi : i < xs.length
  · rw [if_pos hi] at hx hv; exact h.at_ hx hv
  · rw [if_neg hi] at hx hv; exact h'.at_ hx hv
theorem IsTrs.one {x : T} {r : TR} (h : IsTr w S x r) : IsTrs w S [x] [r] := by rw [IsTrs]; exact ⟨r, [], rfl, h, by rw [IsTrs]⟩
mutual
theorem IsTr.imp (hr : ∀ s A n xs, 0 < s → Reads w S s A n xs → Reads w' S' s A n xs) : ∀ (x : T) (r : TR), IsTr w S x r → IsTr w' S' x r
  | .mk k i t ks xs, r, h => by
    rw [IsTr] at h ⊢
    obtain ⟨h1, h2, h3, h4, h5, h6, h7, h8, rs, h9, h10⟩ := h
    exact ⟨h1, h2, h3, h4, h5, hr _ _ _ _ (by omega) h6, h7, h8, rs, hr _ _ _ _ (by omega) h9, IsTrs.imp hr xs rs h10⟩
theorem IsTrs.imp (hr : ∀ s A n xs, 0 < s → Reads w S s A n xs → Reads w' S' s A n xs) : ∀ (xs : List T) (rs : List TR), IsTrs w S xs rs → IsTrs w' S' xs rs
  | [], rs, h => by rw [IsTrs] at h ⊢; exact h
  | x :: xs, rs, h => by
    rw [IsTrs] at h ⊢
    obtain ⟨v, vs', e, h1, h2⟩ := h
    exact ⟨v, vs', e, IsTr.imp hr x v h1, IsTrs.imp hr xs vs' h2⟩
end
theorem IsTr.keeps {x : T} {r : TR} (h : IsTr w S x r) (hk : Keeps S w w') : IsTr w' S x r := IsTr.imp (fun _ _ _ _ _ hr => hr.keeps hk) x r h
theorem IsTr.more {x : T} {r : TR} (h : IsTr w S x r) (hS : ∀ k, S k → S' k) : IsTr w S' x r := IsTr.imp (fun _ _ _ _ _ hr => hr.more hS) x r h
theorem IsTr.bound {x : T} {r : TR} (h : IsTr w S x r) : IsTr w (fun k => S k ∧ k < w.heap.size) x r := IsTr.imp (fun _ _ _ _ h0 hr => hr.bound h0) x r h
theorem IsTrs.keeps {x : List T} {r : List TR} (h : IsTrs w S x r) (hk : Keeps S w w') : IsTrs w' S x r := IsTrs.imp (fun _ _ _ _ _ hr => hr.keeps hk) x r h
theorem IsTrs.more {x : List T} {r : List TR} (h : IsTrs w S x r) (hS : ∀ k, S k → S' k) : IsTrs w S' x r := IsTrs.imp (fun _ _ _ _ _ hr => hr.more hS) x r h
theorem IsTrs.bound {x : List T} {r : List TR} (h : IsTrs w S x r) : IsTrs w (fun k => S k ∧ k < w.heap.size) x r := IsTrs.imp (fun _ _ _ _ h0 hr => hr.bound h0) x r h
end
end Go.Proofs.YtfcegalckjeafaaGreatDoor
namespace Go.Proofs.YtfcegalckjeafaaGreatDoor
open Go.RowKit Go.BigFrame
/-- A count that is no number too large. -/
def Cn (n : Int) : Prop := 0 ≤ n ∧ n ≤ 1000000000
theorem depth_any (v : V) (w : World) (h : Cn v.bel) : Calls Tryz.prog 129 #[v.a] w fun e w' => e = .returned (.int .i64 (v.bel + 1)) ∧ Below w.heap.size w w' := by
  obtain ⟨h0, h1⟩ := h
  obtain ⟨sk, si, st, kd, vec, seed, bits, n, dic, bel, mor⟩ := v
  simp only at h0 h1
  simp only [V.a]
  go_enter Tryz.func129, Tryz.ntmps129
  go_wp2
  go_ret
  exact ⟨rfl, (Below.refl _ _).alloc (Nat.le_refl _) _⟩
theorem nodes_any (v : V) (w : World) (h : Cn v.mor) : Calls Tryz.prog 22 #[v.a] w fun e w' => e = .returned (.int .i64 (v.mor + 1)) ∧ Below w.heap.size w w' := by
  obtain ⟨h0, h1⟩ := h
  obtain ⟨sk, si, st, kd, vec, seed, bits, n, dic, bel, mor⟩ := v
  simp only at h0 h1
  simp only [V.a]
  go_enter Tryz.func22, Tryz.ntmps22
  go_wp2
  go_ret
  exact ⟨rfl, (Below.refl _ _).alloc (Nat.le_refl _) _⟩
theorem kind_any (v : V) (w : World) : Calls Tryz.prog 32 #[v.a] w fun e w' => e = .returned (.int .i64 v.kd) ∧ Below w.heap.size w w' := by
  obtain ⟨sk, si, st, kd, vec, seed, bits, n, dic, bel, mor⟩ := v
  simp only [V.a]
  go_enter Tryz.func32, Tryz.ntmps32
  go_wp2
  go_ret
  exact ⟨rfl, (Below.refl _ _).alloc (Nat.le_refl _) _⟩
/-- A step as a value. -/
def St.a (s : St) : Value := .agg #[.int .i64 s.K, .int .i64 s.I, .string ⟨s.T.toArray⟩]
def St.l (s : St) : List Value := [.int .i64 s.K, .int .i64 s.I, sv s.T]
theorem fits_any (v : V) (x : T) (s : St) (w : World) (hk : v.kd = x.k) (h : 0 ≤ x.k ∧ x.k ≤ 6) : Calls Tryz.prog 100 #[v.a, s.a] w fun e w' => e = .returned (.int .i64 (fitsT x s)) ∧ Below w.heap.size w w' := by
  obtain ⟨sk, si, st, kd, vec, seed, bits, n, dic, bel, mor⟩ := v
  obtain ⟨K, I, TT⟩ := s
  simp only at hk
  subst hk
  obtain ⟨h0, h6⟩ := h
  obtain ⟨R, hR⟩ : ∃ R, R = fitsT x ⟨K, I, TT⟩ := ⟨_, rfl⟩
  have hR' := hR
  simp only [fitsT] at hR'
  rw [← hR]
  clear hR
  generalize x.k = k at *
  simp only [V.a, St.a]
  by_cases c1 : K < 0
  · obtain rfl : R = 1 := by rw [hR', if_pos (.inl c1)]
    clear hR'
    go_enter Tryz.func100, Tryz.ntmps100
    go_wp2
    go_ret
    exact ⟨rfl, ((Below.refl _ _).alloc (Nat.le_refl _) _).alloc (by simp) _⟩
  by_cases c2 : 2 < K
  · obtain rfl : R = 1 := by rw [hR', if_pos (.inr c2)]
    clear hR'
    go_enter Tryz.func100, Tryz.ntmps100
    go_wp2
    go_ret
    exact ⟨rfl, ((Below.refl _ _).alloc (Nat.le_refl _) _).alloc (by simp) _⟩
  rw [if_neg (by omega)] at hR'
  by_cases c3 : k = K + 4
  · obtain rfl : R = 0 := by rw [hR', if_neg (by omega)]
    clear hR'
    subst c3
    go_enter Tryz.func100, Tryz.ntmps100
    go_wp2
    go_ret
    exact ⟨rfl, ((Below.refl _ _).alloc (Nat.le_refl _) _).alloc (by simp) _⟩
  · obtain rfl : R = 3 := by rw [hR', if_pos c3]
    clear hR'
    have c3' : ((k : Int) == K + 4) = false := by simpa using c3
    go_enter Tryz.func100, Tryz.ntmps100
    go_wp2
    go_ret
    exact ⟨rfl, ((Below.refl _ _).alloc (Nat.le_refl _) _).alloc (by simp) _⟩
end Go.Proofs.YtfcegalckjeafaaGreatDoor
