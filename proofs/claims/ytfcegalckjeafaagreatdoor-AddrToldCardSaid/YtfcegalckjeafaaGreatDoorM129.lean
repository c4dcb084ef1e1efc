/-
  Parts of the proof that AddrTold,AddrBegins calls on: Ye, Ya.
-/
import Derived.Deep.CutRange
import Derived.Test.YtfcegalckjeafaaGreatDoorM105
import Derived.Test.YtfcegalckjeafaaGreatDoorM107
import Derived.Test.YtfcegalckjeafaaGreatDoorM115
import Derived.Test.YtfcegalckjeafaaGreatDoorM120
import Derived.Test.YtfcegalckjeafaaGreatDoorM124
import Derived.Test.YtfcegalckjeafaaGreatDoorM128
namespace Go.Proofs.YtfcegalckjeafaaGreatDoor
open Go.RowKit Go.BigFrame Go.Shelf
/-- Addresses, each in memory of its own. -/
def AllOut (w : World) (l : List (List St)) (e : Ending) (w' : World) : Prop := ∃ (v : Value) (hs : List Hd), e = .returned v ∧ hs.length = l.length ∧ w'.ownsRow w.heap.size 46 1 v l.length (eH.fl hs) ∧
  (∀ (i : Nat) (h : Hd) (a : List St), hs[i]? = some h → l[i]? = some a → w'.ownsRow w.heap.size 48 3 h.v a.length (eSt.fl a)) ∧
  (∀ (i j : Nat) (h h' : Hd) (b : Nat), hs[i]? = some h → hs[j]? = some h' → h.v.ownBlock = some b → h'.v.ownBlock = some b → i = j) ∧
  (∀ (i : Nat) (h : Hd) (b : Nat), hs[i]? = some h → h.v.ownBlock = some b → v.ownBlock ≠ some b) ∧ Below w.heap.size w w'
set_option maxRecDepth 100000 in
set_option maxHeartbeats 4000000 in
theorem all_any (x : T) (v : V) (S : Nat → Prop) (w : World) (hv : IsV w S x v) (hu : UnderOk x) (hn : x.nodes ≤ 16384) (hd : x.depth ≤ 5000) :
    Calls Tryz.prog 13 #[v.a] w (AllOut w (addrsT x [])) := by
  have HV := Lib.hid hv.bound
  have HU := Lib.hid hu
  have HND := Lib.hid (show x.nodes ≤ 16384 ∧ x.depth ≤ 5000 from ⟨hn, hd⟩)
  clear hv hu hn hd
  obtain ⟨sk, si, st, kd, vec, seed, bits, n, dic, bel, mor⟩ := v
  simp only [V.a]
  go_enter Tryz.func13, Tryz.ntmps13
  go_wp2_with fail
  refine calls_at fun W hW => ?_
  obtain ⟨hB, hz, -, HO⟩ := boxes2 hW
  have HZ := Lib.hid hz
  clear hW
  have hnd := HND.out
  refine (HU.out ⟨sk, si, st, kd, vec, seed, bits, n, dic, bel, mor⟩ (fun k => S k ∧ k < w.heap.size) [] none 0 (w.heap.size + 1) w.heap.size w (fun k => S k ∧ k < w.heap.size) [] W (HV.out.keeps (.of_below hB)) ⟨fun _ => rfl, Nat.le_refl _, rfl, fun h => absurd h (Nat.lt_irrefl 0)⟩ (fun _ h => h)
    ⟨.slice none 0 0, [], rfl, HO, World.ownsRow_nil _ _ _ _, fun i h a hi => by simp at hi, fun i j h h' b hi => by simp at hi, fun i h b hi => by simp at hi, nofun, fun h => by have := h.2; omega, fun b h => by have := h.2; omega, hB⟩ (by omega) (Nat.le_refl _) (by omega) (by simp; omega) (by simp; omega)).mono ?_
  rintro e W3 ⟨⟨u, rfl⟩, ⟨v3, hs, h1, h2, h3, h4, h5, h6, h7, h8, h9, h10⟩, -⟩
  rw [List.nil_append] at h1 h3 h4
  have c0 := h2.cell 0
  simp only [List.getElem?_toArray, List.getElem?_cons_zero] at c0
  have HFIN : Hid (AllOut w (addrsT x []) (.returned v3) W3) := Lib.hid ⟨v3, hs, rfl, h1, h3, h4, h5, fun i h b hi hb => (h6 i h b hi hb).2.1, h10⟩
  clear h1 h2 h3 h4 h5 h6 h7 h8 h9 h10 hB HO hnd
  go_wp2_with fail
  go_ret
  exact HFIN.out
theorem get_step {x : T} (hk : x.k = 4) {j : Nat} {y : T} (hy : x.xs[j]? = some y) : getT x (stepAt x j) = (y, 0) := by
  have hj := (List.getElem?_eq_some_iff.1 hy).1
  have hs : stepAt x j = ⟨0, j, []⟩ := by rw [stepAt, if_pos hk]
  rw [hs, get_some (j := j)]
  · rw [List.getD_eq_getElem?_getD, hy]; rfl
  · simp [fitsT, hk]
  · rw [idx_vec hk, if_pos ⟨by simp, by simp; omega⟩]; rfl
mutual
theorem underOk : ∀ (x : T), Pl x → x.nodes ≤ 16384 → UnderOk x
  | .mk k i t ks xs, h, hn => by
    have hk : k ≤ 4 ∧ (k = 4 ∨ xs = []) ∧ Pls xs := by
      rw [Pl] at h
      rcases h with ⟨h, rfl, rfl⟩ | ⟨rfl, rfl, rfl, rfl, h⟩
      · exact ⟨by rcases h with h | h | h | h <;> omega, .inr rfl, by rw [Pls]; trivial⟩
      · exact ⟨by decide, .inl rfl, h⟩
    have hnn : nodesL xs + 1 ≤ 16384 := by simpa [T.nodes] using hn
    refine under_at (.mk k i t ks xs) (hk.2.1.imp id fun h => .inr (.inr h)) (fun v S w j y hv hy => ?_) (fun v S w hv hS => each_pl hv hS hk.1 hn) hn (undersOk xs hk.2.2 (by omega))
    have hk4 : k = 4 := by
      rcases hk.2.1 with h | h
      · exact h
      · subst h; simp [T.xs] at hy
    have := vget_any (.mk k i t ks xs) v (stepAt (.mk k i t ks xs) j) S w hv hk.1 (by rw [stepAt, if_pos (show (T.mk k i t ks xs).k = 4 from hk4)]; simp) hn
    rwa [get_step (x := .mk k i t ks xs) hk4 hy] at this
theorem undersOk : ∀ (xs : List T), Pls xs → nodesL xs ≤ 16384 → ∀ (i : Nat) (y : T), xs[i]? = some y → UnderOk y
  | [], _, _, i, y, h => by simp at h
  | x :: xs, hp, hn, i, y, h => by
    rw [Pls] at hp
    have hnn : x.nodes + nodesL xs ≤ 16384 := hn
    cases i with
    | zero => simp at h; subst h; exact underOk x hp.1 (by omega)
    | succ i => exact undersOk xs hp.2 (by omega) i y (by simpa using h)
end
end Go.Proofs.YtfcegalckjeafaaGreatDoor
namespace Go.Proofs.YtfcegalckjeafaaGreatDoor
open Go.RowKit Go.BigFrame Go.Shelf
mutual
/-- The same tree, node by node. -/
def sameT : T → T → Bool | .mk k i t ks xs, .mk k' i' t' ks' xs' => decide (k = k') && decide (i = i') && decide (t = t') && decide (ks = ks') && sameTs xs xs'
def sameTs : List T → List T → Bool
  | [], [] => true
  | x :: xs, y :: ys => sameT x y && sameTs xs ys
  | [], _ :: _ => false
  | _ :: _, [] => false
end
mutual
theorem sameT_iff : ∀ (x y : T), sameT x y = true ↔ x = y
  | .mk k i t ks xs, .mk k' i' t' ks' xs' => by
    rw [sameT]
    simp only [Bool.and_eq_true, decide_eq_true_eq, sameTs_iff xs xs', T.mk.injEq]
    exact ⟨fun ⟨⟨⟨⟨a, b⟩, c⟩, d⟩, e⟩ => ⟨a, b, c, d, e⟩, fun ⟨a, b, c, d, e⟩ => ⟨⟨⟨⟨a, b⟩, c⟩, d⟩, e⟩⟩
theorem sameTs_iff : ∀ (xs ys : List T), sameTs xs ys = true ↔ xs = ys
  | [], [] => by simp [sameTs]
  | x :: xs, y :: ys => by
    rw [sameTs]
    simp only [Bool.and_eq_true, sameT_iff x y, sameTs_iff xs ys, List.cons.injEq]
  | [], _ :: _ => by simp [sameTs]
  | _ :: _, [] => by simp [sameTs]
end
theorem sameTs_len {xs ys : List T} (h : xs.length ≠ ys.length) : sameTs xs ys = false := by
  rw [Bool.eq_false_iff]; intro e; exact h (by rw [(sameTs_iff xs ys).1 e])
theorem sameTs_at {xs ys : List T} {k : Nat} {x y : T} (hx : xs[k]? = some x) (hy : ys[k]? = some y) (h : sameT x y = false) : sameTs xs ys = false := by
  rw [Bool.eq_false_iff]; intro e
  rw [(sameTs_iff xs ys).1 e, hy] at hx
  rw [Option.some.inj hx, (sameT_iff x x).2 rfl] at h
  cases h
theorem sameT_def (k i k' i' : Int) (t t' : List UInt8) (ks ks' : List (List UInt8)) (xs xs' : List T) : sameT (.mk k i t ks xs) (.mk k' i' t' ks' xs') = (decide (k = k') && decide (i = i') && decide (t = t') && decide (ks = ks') && sameTs xs xs') := by rw [sameT]
mutual
def LensA : T → Prop | .mk _ _ _ ks xs => ks.length ≤ 1000000 ∧ xs.length ≤ 1000000 ∧ LensL xs
def LensL : List T → Prop | [] => True | x :: xs => LensA x ∧ LensL xs
end
theorem LensL.at_ : ∀ {xs : List T}, LensL xs → ∀ {i : Nat} {x : T}, xs[i]? = some x → LensA x
  | [], _, i, x, h => by simp at h
  | y :: xs, hp, i, x, h => by
    rw [LensL] at hp
    cases i with
    | zero => simp at h; subst h; exact hp.1
    | succ i => exact LensL.at_ hp.2 (by simpa using h)
/-- Same tells whether two trees are the same. -/
def SameOk (x : T) : Prop := ∀ (y : T) (r u : TR) (S : Nat → Prop) (w : World), IsTr w S x r → IsTr w S y u → LensA x → LensA y → Calls Tryz.prog 36 #[r.a, u.a] w fun e w' => e = .returned (.bool (sameT x y)) ∧ Below w.heap.size w w'
theorem text_at {w : World} {S : Nat → Prop} {A : Option Addr} {n k : Nat} {ts : List (List UInt8)} {t : List UInt8} (h : Reads w S 1 A n (ts.map sv)) (ht : ts[k]? = some t) (hn : k < n) : ∃ ad, A = some ad ∧ w.cell? (ad.add k) = some (.string ⟨t.toArray⟩) := by
  obtain ⟨ad, e, -, hc⟩ := h.2 (by omega)
  exact ⟨ad, e, hc k _ (by rw [List.getElem?_map, ht]; rfl)⟩
set_option maxRecDepth 100000 in
set_option maxHeartbeats 8000000 in
theorem same_tree (x : T) (ih : ∀ (i : Nat) (z : T), x.xs[i]? = some z → SameOk z) : SameOk x := by
  intro y r u S w hr hu hlx hly
  have hrb := hr.bound
  have hub := hu.bound
  obtain ⟨k, i, t, ks, xs⟩ := x
  obtain ⟨k', i', t', ks', xs'⟩ := y
  rw [IsTr] at hrb hub
  obtain ⟨rk, ri, rt, kA, kn, kc, xA, xn, xc⟩ := r
  obtain ⟨uk, ui, ut, lA, ln, lc, yA, yn, yc⟩ := u
  obtain ⟨e1, e2, e3, e4, hkc, hkr, e5, hxc, rs, hxr, hrs⟩ := hrb
  obtain ⟨d1, d2, d3, d4, hlc, hlr, d5, hyc, us, hyr, hus⟩ := hub
  simp only at e1 e2 e3 e4 e5 d1 d2 d3 d4 d5 hkc hkr hxc hxr hlc hlr hyc hyr
  subst e1 e2 e3 e4 e5 d1 d2 d3 d4 d5
  rw [LensA] at hlx hly
  obtain ⟨l1, l2, l3⟩ := hlx
  obtain ⟨m1, m2, m3⟩ := hly
  have HKR := Lib.hid hkr
  have HLR := Lib.hid hlr
  have HXR := Lib.hid hxr
  have HYR := Lib.hid hyr
  have HRS := Lib.hid hrs
  have HUS := Lib.hid hus
  have HIH := Lib.hid ih
  have HL3 := Lib.hid l3
  have HM3 := Lib.hid m3
  obtain ⟨R, hR⟩ : ∃ R, R = sameT (.mk rk ri rt ks xs) (.mk uk ui ut ks' xs') := ⟨_, rfl⟩
  rw [← hR]
  rw [sameT_def] at hR
  have HR := Lib.hid hR
  clear hr hu hkr hlr hxr hyr hrs hus ih hR l3 m3
  have hTb : ((⟨rt.toArray⟩ : ByteArray).toList == (⟨ut.toArray⟩ : ByteArray).toList) = decide (rt = ut) := by rw [Lib.toList_data, Lib.toList_data, Bool.eq_iff_iff]; simp
  have hTe : rt = ut → (⟨rt.toArray⟩ : ByteArray) = ⟨ut.toArray⟩ := fun e => by rw [e]
  simp only [TR.a]
  generalize (⟨rt.toArray⟩ : ByteArray) = tb at *
  generalize (⟨ut.toArray⟩ : ByteArray) = tb' at *
  by_cases q1 : rk = uk
  case neg =>
    have b1 : (rk != uk) = true := by simpa using q1
    have HX : Hid (R = false) := Lib.hid (by rw [HR.out]; simp [q1])
    clear hTb hTe q1
    go_enter Tryz.func36, Tryz.ntmps36
    go_wp2
    go_ret
    exact ⟨by rw [HX.out]; rfl, ((Below.refl _ _).alloc (Nat.le_refl _) _).alloc (by simp) _⟩
  subst q1
  by_cases q2 : ri = ui
  case neg =>
    have b1 : (ri != ui) = true := by simpa using q2
    have HX : Hid (R = false) := Lib.hid (by rw [HR.out]; simp [q2])
    clear hTb hTe q2
    go_enter Tryz.func36, Tryz.ntmps36
    go_wp2
    go_ret
    exact ⟨by rw [HX.out]; rfl, ((Below.refl _ _).alloc (Nat.le_refl _) _).alloc (by simp) _⟩
  subst q2
  by_cases q3 : rt = ut
  case neg =>
    have b1 : (tb.toList == tb'.toList) = false := by rw [hTb]; exact decide_eq_false q3
    have HX : Hid (R = false) := Lib.hid (by rw [HR.out]; simp [q3])
    clear hTb hTe q3
    go_enter Tryz.func36, Tryz.ntmps36
    go_wp2
    go_ret
    exact ⟨by rw [HX.out]; rfl, ((Below.refl _ _).alloc (Nat.le_refl _) _).alloc (by simp) _⟩
  obtain rfl := hTe q3
  clear hTb hTe
  by_cases q4 : ks.length = ks'.length
  case neg =>
    have b1 : ((ks.length : Int) != (ks'.length : Int)) = true := by simp; omega
    have b2 : decide (ks.length = ks'.length) = false := decide_eq_false q4
    have HX : Hid (R = false) := Lib.hid (by rw [HR.out, decide_eq_false (show ¬ ks = ks' from fun e => q4 (by rw [e]))]; simp)
    clear q3 q4
    go_enter Tryz.func36, Tryz.ntmps36
    go_wp2
    go_ret
    exact ⟨by rw [HX.out]; rfl, ((Below.refl _ _).alloc (Nat.le_refl _) _).alloc (by simp) _⟩
  have b4 : ((ks.length : Int) != (ks'.length : Int)) = false := by simp; omega
  by_cases q5 : xs.length = xs'.length
  case neg =>
    have b1 : ((xs.length : Int) != (xs'.length : Int)) = true := by simp; omega
    have HX : Hid (R = false) := Lib.hid (by rw [HR.out, sameTs_len q5]; simp)
    clear q3 q4 q5
    go_enter Tryz.func36, Tryz.ntmps36
    go_wp2
    go_ret
    exact ⟨by rw [HX.out]; rfl, ((Below.refl _ _).alloc (Nat.le_refl _) _).alloc (by simp) _⟩
  have b5 : ((xs.length : Int) != (xs'.length : Int)) = false := by simp; omega
  have HR2 : Hid (R = (decide (ks = ks') && sameTs xs xs')) := Lib.hid (by rw [HR.out]; simp [q3])
  have Q4 := Lib.hid q4
  have Q5 := Lib.hid q5
  clear HR q3 q4 q5
  go_enter Tryz.func36, Tryz.ntmps36
  go_wp2_with fail
  refine wp_at fun W hW => ?_
  obtain ⟨hB, hz, H1, H2⟩ := boxes2 hW
  have HZ := Lib.hid hz
  have KEEP : Hid (∀ W', Below W.heap.size W W' → Below w.heap.size w W' ∧ Blk W' w.heap.size 28 #[.int .i64 rk, .int .i64 ri, .string tb, .slice kA ks.length kc, .slice xA xs.length xc] ∧ Blk W' (w.heap.size + 1) 28 #[.int .i64 rk, .int .i64 ri, .string tb, .slice lA ks'.length lc, .slice yA xs'.length yc]) := Lib.hid fun W' h => ⟨hB.trans (h.mono hB.size), H1.below h H1.lt, H2.below h H2.lt⟩
  clear hW hB hz H1 H2 b4 b5
  go_loopw [47] (fun i wr => ∃ k : Nat, k ≤ ks.length ∧ i = .int .i64 k ∧ Hid (ks.take k = ks'.take k) ∧ Hid (Below W.heap.size W wr)) (fun i _ => (ks.length - intOf i).toNat)
  case atStart => exact ⟨0, Nat.zero_le _, rfl, by simp [Hid], Below.refl _ _⟩
  case round =>
    obtain ⟨k, hk, rfl, hE, hBr⟩ := hrel
    obtain ⟨k1, k2, k3⟩ := KEEP.out _ hBr.out
    have K1 := Lib.hid k1
    have K2 := Lib.hid k2
    have K3 := Lib.hid k3
    by_cases hlt : k < ks.length
    · have hlt' : k < ks'.length := by have := Q4.out; omega
      obtain ⟨ta, hta⟩ : ∃ ta, ks[k]? = some ta := ⟨_, List.getElem?_eq_getElem hlt⟩
      obtain ⟨ua, hua⟩ : ∃ ua, ks'[k]? = some ua := ⟨_, List.getElem?_eq_getElem hlt'⟩
      obtain ⟨ad, rfl, hc⟩ := text_at (HKR.out.keeps (.of_below k1)) hta hlt
      obtain ⟨bd, rfl, hd⟩ := text_at (HLR.out.keeps (.of_below k1)) hua hlt'
      have c3 := k2.cell 3
      have d3 := k3.cell 3
      simp only [List.getElem?_toArray, List.getElem?_cons_succ, List.getElem?_cons_zero] at c3 d3
      have HTA := Lib.hid hta
      have HUA := Lib.hid hua
      have hTb : ((⟨ta.toArray⟩ : ByteArray).toList == (⟨ua.toArray⟩ : ByteArray).toList) = decide (ta = ua) := by rw [Lib.toList_data, Lib.toList_data, Bool.eq_iff_iff]; simp
      have hTe : ta = ua → (⟨ta.toArray⟩ : ByteArray) = ⟨ua.toArray⟩ := fun e => by rw [e]
      generalize (⟨ta.toArray⟩ : ByteArray) = sa at *
      generalize (⟨ua.toArray⟩ : ByteArray) = sb at *
      clear hta hua k1 k2 k3
      by_cases q : ta = ua
      · have hnx : Hid (ks.take (k + 1) = ks'.take (k + 1)) := Lib.hid (by rw [List.take_add_one, List.take_add_one, hE.out, HTA.out, HUA.out, q])
        obtain rfl := hTe q
        clear hTb hTe q hE
        go_wp2_with fail
        go_quiet (fail)
        go_wp2_with fail
        exact ⟨⟨k + 1, by omega, by go_num, hnx, hBr.out.trans ((below_drewN _ _).mono hBr.out.size)⟩, by simp [intOf]; omega⟩
      · have e3 : (sa.toList == sb.toList) = false := by rw [hTb]; exact decide_eq_false q
        have HX : Hid (R = false) := Lib.hid (by
          rw [HR2.out, decide_eq_false (show ¬ ks = ks' from fun e => q ?_)]
          · rfl
          · have h1 := HTA.out
            rw [e, HUA.out] at h1
            exact (Option.some.inj h1).symm)
        clear hTb hTe q
        go_wp2_with fail
        go_quiet (fail)
        go_wp2
        go_ret
        exact ⟨by rw [HX.out]; rfl, K1.out.trans ((below_drewN _ _).mono K1.out.size)⟩
    · have HKS : Hid (ks = ks') := Lib.hid (by
        have h1 := hE.out
        rwa [List.take_of_length_le (by omega), List.take_of_length_le (by have := Q4.out; omega)] at h1)
      have c4 := k2.cell 4
      simp only [List.getElem?_toArray, List.getElem?_cons_succ, List.getElem?_cons_zero] at c4
      clear k1 k2 k3 hE hk
      go_wp2_with fail
      clear c4 K1 K2 K3
      go_loopw [65] (fun i wr => ∃ k : Nat, k ≤ xs.length ∧ i = .int .i64 k ∧ Hid (xs.take k = xs'.take k) ∧ Hid (Below W.heap.size W wr)) (fun i _ => (xs.length - intOf i).toNat)
      case atStart => exact ⟨0, Nat.zero_le _, rfl, by simp [Hid], hBr⟩
      case round =>
        clear hBr
        obtain ⟨k, hk, rfl, hE, hBr⟩ := hrel
        obtain ⟨k1, k2, k3⟩ := KEEP.out _ hBr.out
        have K1 := Lib.hid k1
        by_cases hlt : k < xs.length
        · have hlt' : k < xs'.length := by have := Q5.out; omega
          obtain ⟨xa, hxa⟩ : ∃ z, xs[k]? = some z := ⟨_, List.getElem?_eq_getElem hlt⟩
          obtain ⟨xb, hxb⟩ : ∃ z, xs'[k]? = some z := ⟨_, List.getElem?_eq_getElem hlt'⟩
          obtain ⟨ra, hra, hta⟩ := HRS.out.some hxa
          obtain ⟨rb, hrb, htb⟩ := HUS.out.some hxb
          obtain ⟨ad, rfl, -, hcc⟩ := eT.cells (HXR.out.keeps (.of_below k1)) hra (by omega)
          obtain ⟨bd, rfl, -, hdd⟩ := eT.cells (HYR.out.keeps (.of_below k1)) hrb (by omega)
          have c4 := k2.cell 4
          have d4 := k3.cell 4
          simp only [List.getElem?_toArray, List.getElem?_cons_succ, List.getElem?_cons_zero] at c4 d4
          have HC := Lib.hid (fun W2 (hW2 : Below wr.heap.size wr W2) => HIH.out k xa hxa xb ra rb (fun k => S k ∧ k < w.heap.size) W2 ((hta.keeps (.of_below k1)).keeps (.of_below hW2)) ((htb.keeps (.of_below k1)).keeps (.of_below hW2)) (HL3.out.at_ hxa) (HM3.out.at_ hxb))
          have HXA := Lib.hid hxa
          have HXB := Lib.hid hxb
          clear hxa hxb hra hrb hta htb k1 k2 k3
          obtain ⟨Q, hQ⟩ : ∃ Q, Q = sameT xa xb := ⟨_, rfl⟩
          have HQ := Lib.hid hQ
          rw [← hQ] at HC
          clear hQ
          cases Q with
          | true =>
            have hnx : Hid (xs.take (k + 1) = xs'.take (k + 1)) := Lib.hid (by rw [List.take_add_one, List.take_add_one, hE.out, HXA.out, HXB.out, (sameT_iff xa xb).1 HQ.out.symm])
            clear hE
            go_wp2_with fail
            have hkI : (0 : Int) ≤ (k : Int) := by omega
            have hkI2 : (k : Int) < (xs.length : Int) := by omega
            have hkI3 : (k : Int) < (xs'.length : Int) := by omega
            refine wp_region_sq 11 [(0, true), (1, true), (2, true), (3, true), (4, true), (5, true), (6, true), (7, true), (8, true), (9, true), (10, false)] (fun w' => w'.cell? ⟨w.heap.size, 4, none⟩ = some (.slice (some ad) xs.length xc) ∧ w'.cell? ⟨w.heap.size + 1, 4, none⟩ = some (.slice (some bd) xs'.length yc) ∧ (∀ j u, (eT.l ra)[j]? = some u → w'.cell? ((ad.add (k * 5)).add j) = some u) ∧ (∀ j u, (eT.l rb)[j]? = some u → w'.cell? ((bd.add (k * 5)).add j) = some u)) (by kernel_rfl) (by kernel_rfl) ⟨c4, d4, hcc, hdd⟩ (fun hS => ?_)
            iterate 4 (refine sq_t (o := ⟨_, _, _, _, _, _⟩) (v := ?_) rfl (by rfl) ?_ ?_; rotate_left; (· (intro w hSw; (try dsimp only at hSw); obtain ⟨hS1, hS2, -⟩ := hSw; go_simp; try with_reducible rfl)); try simp only [Act.put, List.setIfInBounds_toArray, List.set_cons_zero, List.set_cons_succ])
            refine sq_t (o := ⟨_, _, _, _, _, _⟩) (v := .agg (TR.l ra).toArray) rfl (by rfl) (fun w' hw' => exec_load_list (cs := eT.l ra) isT rfl (by simp [Act.eval]) hw'.2.2.1) ?_
            try simp only [Act.put, List.setIfInBounds_toArray, List.set_cons_zero, List.set_cons_succ]
            iterate 4 (refine sq_t (o := ⟨_, _, _, _, _, _⟩) (v := ?_) rfl (by rfl) ?_ ?_; rotate_left; (· (intro w hSw; (try dsimp only at hSw); obtain ⟨hS1, hS2, -⟩ := hSw; go_simp; try with_reducible rfl)); try simp only [Act.put, List.setIfInBounds_toArray, List.set_cons_zero, List.set_cons_succ])
            refine sq_t (o := ⟨_, _, _, _, _, _⟩) (v := .agg (TR.l rb).toArray) rfl (by rfl) (fun w' hw' => exec_load_list (cs := eT.l rb) isT rfl (by simp [Act.eval]) hw'.2.2.2) ?_
            try simp only [Act.put, List.setIfInBounds_toArray, List.set_cons_zero, List.set_cons_succ]
            refine sq_c rfl (fun K hK => ?_)
            go_simp
            refine (HC.out _ (Below.refl _ _).drew).mono ?_
            rintro e w4 ⟨rfl, hb4⟩
            have hb4' : Below wr.heap.size wr w4 := (Below.refl _ _).drew.trans hb4
            refine hK.out _ _ ⟨cb' hb4' c4, cb' hb4' d4, fun j u hu => cb' hb4' (hcc j u hu), fun j u hu => cb' hb4' (hdd j u hu)⟩ (fun hS => ?_)
            clear hK K
            have HB4 := Lib.hid (hBr.out.trans (hb4'.mono hBr.out.size))
            have HB5 := Lib.hid (K1.out.trans (hb4'.mono K1.out.size))
            try simp only [Act.put, List.setIfInBounds_toArray, List.set_cons_zero, List.set_cons_succ]
            simp only [wpSq, List.drop_succ_cons, List.drop_zero]
            clear hS hb4 hb4' hcc hdd c4 d4
            go_wp2_with fail
            refine NoPanic.normal ?_
            go_wp2_with fail
            exact ⟨⟨k + 1, by omega, by go_num, hnx, HB4⟩, by simp [intOf]; omega⟩
          | false =>
            have HX : Hid (R = false) := Lib.hid (by rw [HR2.out, sameTs_at HXA.out HXB.out HQ.out.symm]; simp)
            go_wp2_with fail
            have hkI : (0 : Int) ≤ (k : Int) := by omega
            have hkI2 : (k : Int) < (xs.length : Int) := by omega
            have hkI3 : (k : Int) < (xs'.length : Int) := by omega
            refine wp_region_sq 11 [(0, true), (1, true), (2, true), (3, true), (4, true), (5, true), (6, true), (7, true), (8, true), (9, true), (10, false)] (fun w' => w'.cell? ⟨w.heap.size, 4, none⟩ = some (.slice (some ad) xs.length xc) ∧ w'.cell? ⟨w.heap.size + 1, 4, none⟩ = some (.slice (some bd) xs'.length yc) ∧ (∀ j u, (eT.l ra)[j]? = some u → w'.cell? ((ad.add (k * 5)).add j) = some u) ∧ (∀ j u, (eT.l rb)[j]? = some u → w'.cell? ((bd.add (k * 5)).add j) = some u)) (by kernel_rfl) (by kernel_rfl) ⟨c4, d4, hcc, hdd⟩ (fun hS => ?_)
            iterate 4 (refine sq_t (o := ⟨_, _, _, _, _, _⟩) (v := ?_) rfl (by rfl) ?_ ?_; rotate_left; (· (intro w hSw; (try dsimp only at hSw); obtain ⟨hS1, hS2, -⟩ := hSw; go_simp; try with_reducible rfl)); try simp only [Act.put, List.setIfInBounds_toArray, List.set_cons_zero, List.set_cons_succ])
            refine sq_t (o := ⟨_, _, _, _, _, _⟩) (v := .agg (TR.l ra).toArray) rfl (by rfl) (fun w' hw' => exec_load_list (cs := eT.l ra) isT rfl (by simp [Act.eval]) hw'.2.2.1) ?_
            try simp only [Act.put, List.setIfInBounds_toArray, List.set_cons_zero, List.set_cons_succ]
            iterate 4 (refine sq_t (o := ⟨_, _, _, _, _, _⟩) (v := ?_) rfl (by rfl) ?_ ?_; rotate_left; (· (intro w hSw; (try dsimp only at hSw); obtain ⟨hS1, hS2, -⟩ := hSw; go_simp; try with_reducible rfl)); try simp only [Act.put, List.setIfInBounds_toArray, List.set_cons_zero, List.set_cons_succ])
            refine sq_t (o := ⟨_, _, _, _, _, _⟩) (v := .agg (TR.l rb).toArray) rfl (by rfl) (fun w' hw' => exec_load_list (cs := eT.l rb) isT rfl (by simp [Act.eval]) hw'.2.2.2) ?_
            try simp only [Act.put, List.setIfInBounds_toArray, List.set_cons_zero, List.set_cons_succ]
            refine sq_c rfl (fun K hK => ?_)
            go_simp
            refine (HC.out _ (Below.refl _ _).drew).mono ?_
            rintro e w4 ⟨rfl, hb4⟩
            have hb4' : Below wr.heap.size wr w4 := (Below.refl _ _).drew.trans hb4
            refine hK.out _ _ ⟨cb' hb4' c4, cb' hb4' d4, fun j u hu => cb' hb4' (hcc j u hu), fun j u hu => cb' hb4' (hdd j u hu)⟩ (fun hS => ?_)
            clear hK K
            have HB4 := Lib.hid (hBr.out.trans (hb4'.mono hBr.out.size))
            have HB5 := Lib.hid (K1.out.trans (hb4'.mono K1.out.size))
            try simp only [Act.put, List.setIfInBounds_toArray, List.set_cons_zero, List.set_cons_succ]
            simp only [wpSq, List.drop_succ_cons, List.drop_zero]
            clear hS hb4 hb4' hcc hdd c4 d4
            go_wp2_with fail
            refine NoPanic.normal ?_
            go_wp2
            go_ret
            exact ⟨by rw [HX.out]; rfl, HB5.out⟩
        · have HX : Hid (R = true) := Lib.hid (by
            have h1 := hE.out
            rw [List.take_of_length_le (by omega), List.take_of_length_le (by have := Q5.out; omega)] at h1
            rw [HR2.out, HKS.out, h1, (sameTs_iff xs' xs').2 rfl]
            simp)
          clear k1 k2 k3
          go_wp2
          go_ret
          exact ⟨by rw [HX.out]; rfl, K1.out⟩
mutual
theorem sameOk : ∀ (x : T), SameOk x
  | .mk k i t ks xs => same_tree (.mk k i t ks xs) (sameOks xs)
theorem sameOks : ∀ (xs : List T) (i : Nat) (z : T), xs[i]? = some z → SameOk z
  | [], i, z, h => by simp at h
  | x :: xs, 0, z, h => by simp at h; subst h; exact sameOk x
  | x :: xs, i + 1, z, h => sameOks xs i z (by simpa using h)
end
end Go.Proofs.YtfcegalckjeafaaGreatDoor
