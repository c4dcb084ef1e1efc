/-
  Parts of the proof that AddrBegins,AddrTexts calls on: Yd, Ye, Ya.
-/
import Derived.Deep.CutRange
import Derived.Deep.RegionLawGrows
import Derived.Test.YtfcegalckjeafaaGreatDoorM306
import Derived.Test.YtfcegalckjeafaaGreatDoorM307
import Derived.Test.YtfcegalckjeafaaGreatDoorM311
import Derived.Test.YtfcegalckjeafaaGreatDoorM313
import Derived.Test.YtfcegalckjeafaaGreatDoorM317
import Derived.Test.YtfcegalckjeafaaGreatDoorM320
namespace Go.Proofs.YtfcegalckjeafaaGreatDoor
open Go.RowKit Go.BigFrame Go.Shelf
mutual
/-- The addresses of a tree that lies at an address, and of what lies in it. -/
def addrsT : T → List St → List (List St)
  | .mk k i t ks xs, a => a :: addrsL (.mk k i t ks xs) xs 0 a
/-- Those of its parts, from the j-th on. -/
def addrsL (x0 : T) : List T → Nat → List St → List (List St)
  | [], _, _ => []
  | x :: xs, j, a => addrsT x (a ++ [stepAt x0 j]) ++ addrsL x0 xs (j + 1) a
end
mutual
theorem addrsT_len : ∀ (x : T) (a : List St), (addrsT x a).length = x.nodes
  | .mk k i t ks xs, a => by rw [addrsT, T.nodes, List.length_cons, addrsL_len]
theorem addrsL_len (x0 : T) : ∀ (xs : List T) (j : Nat) (a : List St), (addrsL x0 xs j a).length = nodesL xs
  | [], j, a => by rw [addrsL, nodesL]; rfl
  | x :: xs, j, a => by rw [addrsL, nodesL, List.length_append, addrsT_len, addrsL_len]
end
theorem addrsT_eq (x : T) (a : List St) : addrsT x a = a :: addrsL x x.xs 0 a := by cases x; rw [addrsT]; rfl
theorem addrsL_snoc (x0 : T) : ∀ (xs : List T) (j : Nat) (a : List St) (x : T), addrsL x0 (xs ++ [x]) j a = addrsL x0 xs j a ++ addrsT x (a ++ [stepAt x0 (j + xs.length)])
  | [], j, a, x => by simp [addrsL]
  | y :: xs, j, a, x => by
    rw [List.cons_append, addrsL, addrsL, addrsL_snoc x0 xs (j + 1) a x, List.append_assoc]
    simp only [List.length_cons]
    rw [show j + 1 + xs.length = j + (xs.length + 1) by omega]
/-- under goes through all of a tree. -/
def UnderOk (x : T) : Prop := ∀ (v : V) (S : Nat → Prop) (a : List St) (A : Option Addr) (c g B : Nat) (w0 : World) (P : Nat → Prop) (l : List (List St)) (w : World), IsV w S x v → StsIn w S a A c → (∀ b, S b → P b) → AllJ w0 B g P l w → w0.heap.size ≤ g → w0.heap.size ≤ B → B ≤ w.heap.size → l.length + x.nodes ≤ 50000 → a.length + x.depth ≤ 10000 →
  Calls Tryz.prog 44 #[v.a, .slice A a.length c, .func (.func 45) #[] #[.pointer (some ⟨g, 0, none⟩)]] w fun e W' => (∃ u, e = .returned u) ∧ AllJ w0 B g P (l ++ addrsT x a) W' ∧ Kp P w W'
theorem own_sl {w : World} {B e sz n : Nat} {v : Value} {xs : List Value} (h : w.ownsRow B e sz v n xs) : ∃ A c, v = .slice A n c ∧ n ≤ c ∧ Reads w (fun b => B ≤ b ∧ b < w.heap.size) sz A n xs := by
  obtain ⟨A, c, rfl, hc⟩ := own_shape h
  exact ⟨A, c, rfl, hc, Reads.of_own h⟩
section
variable {ts e : TypeId} {size bytes : Nat} (E : El ts e size bytes) {ops : Array Oper} {o : Oper} {a : Act} {w : World} {Q : Exit → Act → World → Prop}
include E
/-- A full slice grows. -/
theorem step_grow {s x : Operand} {K : Act → World → Prop} {F : Prop} (hgd : o.guard = none) (ho : o.op = .call { callee := .builtin .append, args := #[s, x], argTypes := #[ts, ts] })
    {B : Nat → Prop} {ao : Option Addr} {n : Nat} {olds : List Value} (hs : a.eval s = .slice ao n n) (hro : Reads w B size ao n olds) (hnone : ao = none → n = 0) {C : Nat → Prop} {ad : Addr} {m c : Nat} {news : List Value} (hr : Reads w C size (some ad) m news) (hm : 0 < m) (hx : a.eval x = .slice (some ad) m c) (h1 : ∀ u ∈ news, u.oneCell' = true)
    (h63 : n + m ≤ 16777216) (hsz : bytes ≤ 1024)
    (h : ∀ v' w', Hid (w'.ownsRow w.heap.size e size v' (n + m) (olds ++ news)) → Hid (w.grownBy w' none) → K (a.put o.dst v') w') : if Region.wanted o (yielded ops a.tmps) = true then Oper.wp Tryz.prog o a w K Q else F := by
  obtain ⟨i, z, e1, e2, e3, e4, e5, e6, e7⟩ := E.ex
  refine step_append_grows hgd s x ts ho e i z size bytes e1 e2 e3 e4 e5 e6 e7 ao n n olds hs (fun h => ⟨hnone h, hnone h⟩) hro.1 (fun b hb j u hu => ?_) ad m c news hx hr.1 (fun j u hu => ?_) h1 (by omega) (by simp only [maxLen]; omega) ?_ (fun v' w' h2 h3 => h v' w' h2 h3)
  · have hn0 : 0 < n := by
      rcases Nat.eq_zero_or_pos n with h0 | h0
      · have := hro.1; rw [h0] at this; simp at this; subst this; simp at hu
      · exact h0
    obtain ⟨ad', e', -, hc⟩ := hro.2 hn0
    rw [hb] at e'; cases e'
    exact hc j u hu
  · obtain ⟨ad', e', -, hc⟩ := hr.2 hm
    cases e'
    exact hc j u hu
  · have := Nat.mul_le_mul h63 hsz
    omega
end
set_option maxRecDepth 100000 in
set_option maxHeartbeats 8000000 in
theorem under_at (x : T) (hk : x.k = 4 ∨ x.k = 5 ∨ x.k = 6 ∨ x.xs = [])
    (hg : ∀ (v : V) (S : Nat → Prop) (w : World) (j : Nat) (y : T), IsV w S x v → x.xs[j]? = some y → Calls Tryz.prog 56 #[v.a, (stepAt x j).a] w (GetOut w S (y, 0)))
    (he : ∀ (v : V) (S : Nat → Prop) (w : World), IsV w S x v → (∀ k, S k → k < w.heap.size) → EachAt w S x v) (hn : x.nodes ≤ 16384)
    (ih : ∀ (i : Nat) (y : T), x.xs[i]? = some y → UnderOk y) : UnderOk x := by
  intro v S a A c g B w0 P l w hv ha hSP hJ h0 hB0 hBw hl hd
  have HV0 := Lib.hid hv
  have HSL : Hid (∀ k, S k → k < w.heap.size) := Lib.hid fun k h => hJ.own_at k (hSP k h)
  have HCL := Lib.hid (fun W hW => clones_any a A c W S ⟨ha.1, ha.2.1, ha.2.2.keeps (.of_below (w' := W) hW)⟩ (by have := x.depth_pos; omega))
  have HST := Lib.hid (fun W (hV : IsV W S x v) (hS : ∀ k, S k → k < W.heap.size) => steps_any x v S W hn hk (fun W2 hW2 => by
    have := he v (fun k => S k ∧ k < W.heap.size) W2 (hV.bound.keeps (.of_below hW2)) (fun k h => Nat.lt_of_lt_of_le h.2 hW2.size)
    exact this))
  have HGT := Lib.hid (fun W j y => hg v S W j y)
  have HIH := Lib.hid ih
  have HSP := Lib.hid hSP
  have HJ := Lib.hid hJ
  have HH := Lib.hid (show w0.heap.size ≤ g ∧ w0.heap.size ≤ B ∧ B ≤ w.heap.size ∧ l.length + x.nodes ≤ 50000 ∧ a.length + x.depth ≤ 10000 from ⟨h0, hB0, hBw, hl, hd⟩)
  have hxl : x.xs.length ≤ 16384 := by have := x.nodes_eq; have := len_nodesL x.xs; omega
  have HA := Lib.hid ha
  have HAE := Lib.hid (addrsT_eq x a)
  have hal : (a.length : Int) ≤ 10000 := by omega
  clear hv hSP hJ h0 hB0 hBw hl hd hg he hn ih ha hk
  simp only [V.a, St.a] at HGT HST ⊢
  go_enter Tryz.func44, Tryz.ntmps44
  go_wp2_with fail
  refine calls_at fun W hW => ?_
  obtain ⟨hB, hz, hVB⟩ := boxes1 hW
  have HVB := Lib.hid (show VB W w.heap.size v from hVB)
  have HB := Lib.hid hB
  have HZ := Lib.hid hz
  have hJ1 := HJ.out.more hB
  clear hW hB hz hVB
  refine (HCL.out W HB.out).mono ?_
  rintro e w2 ⟨vc, rfl, hoc, hb2⟩
  have hJ2 := hJ1.more hb2
  have HB2 := Lib.hid (HB.out.trans (hb2.mono HB.out.size))
  have HVB2 := Lib.hid (show VB w2 w.heap.size v from Blk.below HVB.out hb2 (Blk.lt HVB.out))
  have hpc : ∀ b, vc.ownBlock = some b → W.heap.size ≤ b ∧ b < w2.heap.size := fun b e => ⟨own_base hoc e, own_lt hoc e⟩
  have HOC := Lib.hid hoc
  have HJ2 := Lib.hid hJ2
  have HPC := Lib.hid hpc
  clear hJ1 hJ2 hoc hb2 hpc HVB
  go_wp2_with fail
  have hh := HH.out
  have hzz := HZ.out
  have hb2s := HB2.out.size
  refine (all1_any w0 B g _ l a vc w2 HJ2.out hh.1 hh.2.1 (by omega) (by omega) ⟨HOC.out.1, HOC.out.2.imp id fun ⟨g, cap, cur, e1, e2, r⟩ => ⟨g, cap, cur, e1, by omega, r⟩⟩ (fun b e => .inr (HPC.out b e))).mono ?_
  rintro e w3 ⟨⟨u3, rfl⟩, hJ3, hk3⟩
  have hVB3 : VB w3 w.heap.size v := (hk3.2 _ (Blk.lt HVB2.out) (.inl (.inr ⟨Nat.le_refl _, by omega⟩))).trans HVB2.out
  have hV3 : IsV w3 S x v := (HV0.out.keeps (.of_below HB2.out)).keeps (fun k hk hs => hk3.2 k hk (.inl (.inl (HSP.out k hs))))
  have HVB3 := Lib.hid hVB3
  have HV3 := Lib.hid hV3
  have HK3 : Hid (Kp P w w3) := Lib.hid (Kp.trans (Kp.of_below HB2.out) ⟨hk3.1, fun k hk hs => hk3.2 k hk (.inl (.inl hs))⟩)
  have HJ3 := Lib.hid hJ3
  have HS3 : Hid (w2.heap.size ≤ w3.heap.size) := Lib.hid hk3.1
  clear hVB3 hV3 hJ3 hk3 hh hb2s HOC HJ2 HVB2
  go_wp2_with (first
    | (refine wpList_ldl rfl (o := ⟨some 14, _, _, _, _, _⟩) rfl rfl v.l isV (fun j u hu => by have := Blk.cell HVB3.out j; rw [at_zero, this]; simpa using hu) ?_)
    | fail)
  refine (HST.out w3 HV3.out (fun k h => by have := HSL.out k h; have := HB2.out.size; have := HS3.out; omega)).mono ?_
  rintro e w4 ⟨vs, rfl, hos, hb4⟩
  obtain ⟨A4, c4, rfl, hc4, hr4⟩ := own_sl hos
  obtain ⟨N, hN⟩ : ∃ N, N = (stepsT x).length := ⟨_, rfl⟩
  have hNx : N = x.xs.length := by rw [hN, stepsT_len]
  rw [← hN] at hc4 hr4
  rw [← hN]
  have hj4 : AllJ w0 B g (fun b => P b ∨ b = w.heap.size ∨ w3.heap.size ≤ b ∧ b < w4.heap.size) (l ++ [a]) w4 := (HJ3.out.more hb4).less (fun b h => by
    have i1 := HB2.out.size
    have i2 := HS3.out
    have i3 := HZ.out
    rcases h with h | h | h
    · exact .inl ⟨.inl (.inl h), fun e => by have := HPC.out b e.symm; have := HJ.out.own_at b h; omega⟩
    · exact .inl ⟨.inl (.inr ⟨by omega, by omega⟩), fun e => by have := HPC.out b e.symm; omega⟩
    · exact .inr h)
  have HJ4 := Lib.hid hj4
  have HB4 := Lib.hid hb4
  have HR4 := Lib.hid hr4
  have HNX := Lib.hid hNx
  have hN16 : N ≤ 16384 := by omega
  have HC4 := Lib.hid hc4
  have HK4 : Hid (Kp P w w4) := Lib.hid (Kp.trans HK3.out (Kp.of_below hb4))
  have HVB4 : Hid (VB w4 w.heap.size v) := Lib.hid (Blk.below HVB3.out hb4 (Blk.lt HVB3.out))
  have HV4 : Hid (IsV w4 S x v) := Lib.hid (HV3.out.keeps (.of_below hb4))
  have HN := Lib.hid hN
  have HSZ4 : Hid (w.heap.size + 1 ≤ w3.heap.size ∧ w3.heap.size ≤ w4.heap.size) := Lib.hid (by have := HB2.out.size; have := HS3.out; have := HZ.out; have := hb4.size; have := Blk.lt HVB3.out; omega)
  clear hj4 hb4 hr4 hNx hc4 hos hN HJ3 HVB3 HV3 HK3 HST HCL hzz HB HB2 HPC HS3
  go_wp2_with fail
  go_loopw [17] (fun i wr => ∃ k : Nat, k ≤ N ∧ i = .int .i64 k ∧ Hid (AllJ w0 B g (fun b => P b ∨ b = w.heap.size ∨ w3.heap.size ≤ b ∧ b < w4.heap.size) (l ++ [a] ++ addrsL x (x.xs.take k) 0 a) wr) ∧ Hid (Kp (fun b => P b ∨ b = w.heap.size ∨ w3.heap.size ≤ b ∧ b < w4.heap.size) w4 wr)) (fun i _ => (N - intOf i).toNat)
  case atStart => exact ⟨0, Nat.zero_le _, rfl, by rw [List.take_zero, addrsL, List.append_nil]; exact HJ4, Kp.refl⟩
  case round =>
    obtain ⟨k, hk, rfl, hJr, hKr⟩ := hrel
    clear HJ4
    by_cases hlt : k < N
    · have hkx : k < x.xs.length := by have := HNX.out; omega
      obtain ⟨y, hy⟩ : ∃ y, x.xs[k]? = some y := ⟨_, List.getElem?_eq_getElem hkx⟩
      have hst : (stepsT x)[k]? = some (stepAt x k) := by rw [stepsT, List.getElem?_map, List.getElem?_range hkx]; rfl
      obtain ⟨s, hs⟩ : ∃ s, s = stepAt x k := ⟨_, rfl⟩
      rw [← hs] at hst
      have hrr : Reads wr (fun b => w3.heap.size ≤ b ∧ b < w4.heap.size) eSt.sz A4 N (eSt.fl (stepsT x)) := HR4.out.keeps (fun b hb hs => hKr.out.2 b hb (.inr (.inr hs)))
      obtain ⟨ad, rfl, -, hcc⟩ := eSt.cells hrr hst hlt
      have HCC := Lib.hid hcc
      have hVr : VB wr w.heap.size v := (hKr.out.2 _ (Blk.lt HVB4.out) (.inr (.inl rfl))).trans HVB4.out
      have HVr := Lib.hid hVr
      have HIVr : Hid (IsV wr S x v) := Lib.hid (HV4.out.keeps (fun b hb h => hKr.out.2 b hb (.inl (HSP.out b h))))
      have HY := Lib.hid hy
      have HGE := Lib.hid (fun W hW => HGT.out W k y hW hy)
      rw [← hs] at HGE
      have HSS := Lib.hid hs
      have hki : (0 : Int) ≤ (k : Int) := by omega
      have hki2 : (k : Int) < (N : Int) := by omega
      clear hst hrr hcc hVr hy hs
      go_wp2_with (first
        | (refine wpList_ldl rfl (o := ⟨some 20, _, _, _, _, _⟩) rfl rfl (eSt.l s) isSt HCC.out ?_)
        | (refine wpList_stE (E := eSt) (o := ⟨none, .store 48 _ _, _, _, _, _⟩) rfl rfl infoSt rfl s (Blk.new wr _ #[.int .i64 0, .int .i64 0, .string ⟨#[]⟩]) rfl rfl ?_; intro w5 HR5 ho5 hB5; have HB5 := Lib.hid (hB5 _ _ ((Below.refl wr.heap.size wr).alloc (Nat.le_refl _) (.cells #[.int .i64 0, .int .i64 0, .string ⟨#[]⟩] 48)) (Nat.le_refl _)); have HV5 := Lib.hid (show VB w5 w.heap.size v from Blk.below HVr.out HB5.out (Blk.lt HVr.out)); clear ho5 hB5)
        | (refine wpList_ldl rfl (o := ⟨some 22, _, _, _, _, _⟩) rfl rfl v.l isV (fun j u hu => by have := Blk.cell HV5.out j; rw [at_zero, this]; simpa using hu) ?_)
        | (refine wpList_ldl rfl (o := ⟨some 23, _, _, _, _, _⟩) rfl rfl (eSt.l s) isSt (fun j u hu => by have := Blk.cell HR5.out j; rw [at_zero, this]; simpa using hu) ?_)
        | fail)
      refine (HGE.out w5 (HIVr.out.keeps (.of_below HB5.out))).mono ?_
      rintro e w6 ⟨u, rfl, hu, hb6⟩
      have HU6 := Lib.hid hu
      have HB6 := Lib.hid (HB5.out.trans (hb6.mono HB5.out.size))
      have HS6 := Lib.hid (show EB eSt 48 w6 wr.heap.size s from HR5.out.below hb6 HR5.out.lt)
      have hsl := HS6.out.lt
      clear hu hb6 HR5 HB5 HV5 HGE HCC
      simp only [V.a]
      go_wp2_with (first
        | (refine wpList_stE (E := eV) (o := ⟨none, .store 42 _ _, _, _, _, _⟩) rfl rfl infoV11 rfl u (Blk.new w6 _ V.z.l.toArray) rfl rfl ?_; intro w7 HR7 ho7 hB7; have HB7 := Lib.hid (hB7 _ _ ((Below.refl w6.heap.size w6).alloc (Nat.le_refl _) (.cells V.z.l.toArray 42)) (Nat.le_refl _)); clear ho7 hB7)
        | fail)
      have HB67 := Lib.hid (HB6.out.trans (HB7.out.mono HB6.out.size))
      have HS7 := Lib.hid (show EB eSt 48 w7 wr.heap.size s from HS6.out.below HB7.out hsl)
      have hs7 := HB7.out.size
      have hAr : StsIn w7 S a A c := ⟨HA.out.1, HA.out.2.1, ((HA.out.2.2.keeps (fun b hb h => HK4.out.2 b hb (HSP.out b h))).keeps (fun b hb h => hKr.out.2 b hb (.inl (HSP.out b h)))).keeps (.of_below HB67.out)⟩
      obtain ⟨hA1, hA2, hA3⟩ := hAr
      have hc1 : (a.length : Int) ≤ (c : Int) := by omega
      have hc0 : (0 : Int) ≤ (a.length : Int) := by omega
      have HA3 := Lib.hid hA3
      have HA1 : Hid (A = none → a.length = 0) := Lib.hid fun h => by have := hA1 h; omega
      clear hA1 hA3 hA2
      have hS7 := HS7.out
      refine wp_region_sq 11 [(0, true), (1, true), (2, true), (3, true), (4, true), (5, true), (6, true), (7, true), (10, true), (8, false), (9, false)] (fun w' => VB w' w6.heap.size u ∧ EB eSt 48 w' wr.heap.size s) (by kernel_rfl) (by kernel_rfl) ⟨HR7.out.drew, HS7.out.drew⟩ (fun hS => ?_)
      refine sq_t (o := ⟨_, _, _, _, _, _⟩) (v := V.a u) rfl (by rfl) (fun w' hw' => exec_load_V rfl (by simp [Act.eval]) hw'.1) ?_
      try simp only [Act.put, List.setIfInBounds_toArray, List.set_cons_zero, List.set_cons_succ]
      iterate 5 (refine sq_t (o := ⟨_, _, _, _, _, _⟩) (v := ?_) rfl (by rfl) ?_ ?_; rotate_left; (· (intro w hSw; go_simp; try with_reducible rfl)); try simp only [Act.put, List.setIfInBounds_toArray, List.set_cons_zero, List.set_cons_succ])
      refine sq_t (o := ⟨_, _, _, _, _, _⟩) (v := .slice A a.length a.length) rfl (by rfl) (fun w' hw' => ?_) ?_
      · go_simp
        try with_reducible rfl
      try simp only [Act.put, List.setIfInBounds_toArray, List.set_cons_zero, List.set_cons_succ]
      refine sq_t (o := ⟨_, _, _, _, _, _⟩) (v := .agg (eSt.l s).toArray) rfl (by rfl) (fun w' hw' => exec_load_list (cs := eSt.l s) (ad := ⟨wr.heap.size, 0, none⟩) isSt rfl (by simp [Act.eval]) (fun j u hu => by have := Blk.cell hw'.2 j; rw [addr_plain, this]; simpa using hu)) ?_
      try simp only [Act.put, List.setIfInBounds_toArray, List.set_cons_zero, List.set_cons_succ]
      iterate 1 (refine sq_t (o := ⟨_, _, _, _, _, _⟩) (v := ?_) rfl (by rfl) ?_ ?_; rotate_left; (· (intro w hSw; go_simp; try with_reducible rfl)); try simp only [Act.put, List.setIfInBounds_toArray, List.set_cons_zero, List.set_cons_succ])
      refine sq_c rfl (fun K hK => ?_)
      go_simp
      have hb8 : Below w7.heap.size w7 (w7.drew.alloc (.cells (eSt.l s).toArray 48)) := (Below.refl w7.heap.size w7).drew.alloc (Nat.le_refl _) _
      have hz8 : (w7.drew.alloc (.cells (eSt.l s).toArray 48)).heap.size = w7.heap.size + 1 := by simp
      refine hK.out _ _ ⟨Blk.below HR7.out hb8 (Blk.lt HR7.out), HS7.out.below hb8 HS7.out.lt⟩ (fun hS => ?_)
      clear hK K
      try simp only [Act.put, List.setIfInBounds_toArray, List.set_cons_zero, List.set_cons_succ]
      refine sq_c rfl (fun K hK => ?_)
      refine step_grow elSt rfl rfl rfl (HA3.out.keeps (.of_below hb8)) HA1.out (reads_one_E eSt w7.drew 48 s) (by omega) rfl (eSt.fl_one _) (by omega) (by decide) (fun v9 w9 HO9 HG9 => ?_)
      have hb9 : Below w7.heap.size w7 w9 := hb8.grown HG9.out (by have := hb8.size; omega) (fun k e => by cases e)
      refine hK.out _ _ ⟨Blk.below HR7.out hb9 (Blk.lt HR7.out), HS7.out.below hb9 HS7.out.lt⟩ (fun hS => ?_)
      clear hK K
      try simp only [Act.put, List.setIfInBounds_toArray]
      obtain ⟨A9, c9, rfl, hc9, hr9⟩ := own_sl HO9.out
      have HO9' : Hid (w9.ownsRow (w7.heap.size + 1) 48 3 (.slice A9 (a.length + 1) c9) (a.length + 1) (eSt.fl a ++ eSt.fl [s])) := by rw [← hz8]; exact HO9
      have HB9 := Lib.hid (HB67.out.trans (hb9.mono HB67.out.size))
      have HU9 : Hid (IsV w9 S y u) := Lib.hid ((HU6.out.keeps (.of_below HB7.out)).keeps (.of_below hb9))
      have HR9 := Lib.hid hr9
      have hz9 := hb9.size
      have HC9 := Lib.hid hc9
      have HZ9 : Hid (w7.heap.size + 1 ≤ w9.heap.size) := Lib.hid (by have := HG9.out.size; simp at this; omega)
      simp only [wpSq, List.drop_succ_cons, List.drop_zero]
      clear hS hS7 hb8 hz8 hb9 hr9 hc9 HO9 HG9 HR7 HS7 HA3 HA1 HU6 HS6 hsl hs7
      go_wp2_with fail
      have hh := HH.out
      have i1 := HSZ4.out
      have i2 := hKr.out.1
      have i3 := HB9.out.size
      have i4 := HZ9.out
      obtain ⟨t1, t2⟩ := nodesL_take HY.out
      have hnx := x.nodes_eq
      have hdx := x.depth_eq
      have hdy := depthL_mem (List.mem_of_getElem? HY.out)
      have hlL : (l ++ [a] ++ addrsL x (x.xs.take k) 0 a).length = l.length + 1 + nodesL (x.xs.take k) := by simp [addrsL_len]; omega
      have hsts : StsIn w9 (fun b => S b ∨ wr.heap.size ≤ b ∧ b < w9.heap.size) (a ++ [s]) A9 c9 := by
        have hl1 : (a ++ [s]).length = a.length + 1 := by simp
        have hr9' : Reads w9 (fun b => S b ∨ wr.heap.size ≤ b ∧ b < w9.heap.size) 3 A9 (a.length + 1) (eSt.fl a ++ eSt.fl [s]) := HR9.out.more fun b hb => .inr ⟨by have := HB67.out.size; have := hb.1; simp at this; omega, hb.2⟩
        refine ⟨fun h => ?_, by rw [hl1]; exact HC9.out, by rw [hl1, eSt.fl_app]; exact hr9'⟩
        obtain ⟨g', e, -⟩ := own_some HO9'.out (by omega)
        rw [h] at e; cases e
      have hcl := HIH.out k y HY.out u (fun b => S b ∨ wr.heap.size ≤ b ∧ b < w9.heap.size) (a ++ [s]) A9 c9 g B w0 _ (l ++ [a] ++ addrsL x (x.xs.take k) 0 a) w9 (HU9.out.more fun b h => .inl h) hsts (fun b h => h.imp (fun h => .inl (HSP.out b h)) id) (hJr.out.more HB9.out) hh.1 hh.2.1 (by omega) (by rw [hlL]; omega) (by simp; omega)
      rw [show (a ++ [s]).length = a.length + 1 by simp] at hcl
      simp only [V.a] at hcl
      refine hcl.mono ?_
      rintro e w10 ⟨⟨u10, rfl⟩, hJ10, hK10⟩
      have hfin : Hid (AllJ w0 B g (fun b => P b ∨ b = w.heap.size ∨ w3.heap.size ≤ b ∧ b < w4.heap.size) (l ++ [a] ++ addrsL x (x.xs.take (k + 1)) 0 a) w10) := by
        have e1 : x.xs.take (k + 1) = x.xs.take k ++ [y] := by rw [List.take_add_one, HY.out]; rfl
        have e2 : (x.xs.take k).length = k := by rw [List.length_take]; omega
        rw [e1, addrsL_snoc, Nat.zero_add, e2, ← HSS.out, ← List.append_assoc]
        exact hJ10.less fun b h => .inl h
      have hfk : Hid (Kp (fun b => P b ∨ b = w.heap.size ∨ w3.heap.size ≤ b ∧ b < w4.heap.size) w4 w10) := Kp.trans hKr.out (Kp.trans (Kp.of_below HB9.out) ⟨hK10.1, fun b hb h => hK10.2 b hb (.inl h)⟩)
      clear hcl hsts hJ10 hK10 hh t1 t2 i1 i2 i3 i4 hnx hdx hdy hlL
      go_wp2_with fail
      refine NoPanic.normal ?_
      go_wp2_with fail
      exact ⟨⟨k + 1, by omega, by go_num, hfin, hfk⟩, by simp [intOf]; omega⟩
    · have hfin : Hid (AllJ w0 B g P (l ++ addrsT x a) wr) := by
        have e1 : x.xs.take k = x.xs := List.take_of_length_le (by have := HNX.out; omega)
        have := hJr.out
        rw [e1] at this
        rw [HAE.out]
        rw [List.append_assoc] at this
        exact this.less fun b h => .inl h
      have hfk : Hid (Kp P w wr) := Kp.trans HK4.out ⟨hKr.out.1, fun b hb h => hKr.out.2 b hb (.inl h)⟩
      go_wp2
      go_end0
      exact ⟨⟨_, rfl⟩, hfin.out, hfk.out⟩
end Go.Proofs.YtfcegalckjeafaaGreatDoor
namespace Go.Proofs.YtfcegalckjeafaaGreatDoor
open Go.RowKit Go.BigFrame Go.Shelf
/-- Addresses, each in memory of its own. -/
def AllOut (w : World) (l : List (List St)) (e : Ending) (w' : World) : Prop := ∃ (v : Value) (hs : List Hd), e = .returned v ∧ hs.length = l.length ∧ w'.ownsRow w.heap.size 46 1 v l.length (eH.fl hs) ∧
  (∀ (i : Nat) (h : Hd) (a : List St), hs[i]? = some h → l[i]? = some a → w'.ownsRow w.heap.size 48 3 h.v a.length (eSt.fl a)) ∧
  (∀ (i j : Nat) (h h' : Hd) (b : Nat), hs[i]? = some h → hs[j]? = some h' → h.v.ownBlock = some b → h'.v.ownBlock = some b → i = j) ∧
  (∀ (i : Nat) (h : Hd) (b : Nat), hs[i]? = some h → h.v.ownBlock = some b → v.ownBlock ≠ some b) ∧ Below w.heap.size w w'
set_option maxRecDepth 100000 in
set_option maxHeartbeats 4000000 in
theorem all_any (x : T) (v : V) (S : Nat → Prop) (w : World) (hv : IsV w S x v) (hu : UnderOk x) (hn : x.nodes ≤ 16384) (hd : x.depth ≤ 5000) :
    Calls Tryz.prog 13 #[v.a] w (AllOut w (addrsT x [])) := by
  have HV := Lib.hid hv.bound
  have HU := Lib.hid hu
  have HND := Lib.hid (show x.nodes ≤ 16384 ∧ x.depth ≤ 5000 from ⟨hn, hd⟩)
  clear hv hu hn hd
  obtain ⟨sk, si, st, kd, vec, seed, bits, n, dic, bel, mor⟩ := v
  simp only [V.a]
  go_enter Tryz.func13, Tryz.ntmps13
  go_wp2_with fail
  refine calls_at fun W hW => ?_
  obtain ⟨hB, hz, -, HO⟩ := boxes2 hW
  have HZ := Lib.hid hz
  clear hW
  have hnd := HND.out
  refine (HU.out ⟨sk, si, st, kd, vec, seed, bits, n, dic, bel, mor⟩ (fun k => S k ∧ k < w.heap.size) [] none 0 (w.heap.size + 1) w.heap.size w (fun k => S k ∧ k < w.heap.size) [] W (HV.out.keeps (.of_below hB)) ⟨fun _ => rfl, Nat.le_refl _, rfl, fun h => absurd h (Nat.lt_irrefl 0)⟩ (fun _ h => h)
    ⟨.slice none 0 0, [], rfl, HO, World.ownsRow_nil _ _ _ _, fun i h a hi => by simp at hi, fun i j h h' b hi => by simp at hi, fun i h b hi => by simp at hi, nofun, fun h => by have := h.2; omega, fun b h => by have := h.2; omega, hB⟩ (by omega) (Nat.le_refl _) (by omega) (by simp; omega) (by simp; omega)).mono ?_
  rintro e W3 ⟨⟨u, rfl⟩, ⟨v3, hs, h1, h2, h3, h4, h5, h6, h7, h8, h9, h10⟩, -⟩
  rw [List.nil_append] at h1 h3 h4
  have c0 := h2.cell 0
  simp only [List.getElem?_toArray, List.getElem?_cons_zero] at c0
  have HFIN : Hid (AllOut w (addrsT x []) (.returned v3) W3) := Lib.hid ⟨v3, hs, rfl, h1, h3, h4, h5, fun i h b hi hb => (h6 i h b hi hb).2.1, h10⟩
  clear h1 h2 h3 h4 h5 h6 h7 h8 h9 h10 hB HO hnd
  go_wp2_with fail
  go_ret
  exact HFIN.out
theorem get_step {x : T} (hk : x.k = 4) {j : Nat} {y : T} (hy : x.xs[j]? = some y) : getT x (stepAt x j) = (y, 0) := by
  have hj := (List.getElem?_eq_some_iff.1 hy).1
  have hs : stepAt x j = ⟨0, j, []⟩ := by rw [stepAt, if_pos hk]
  rw [hs, get_some (j := j)]
  · rw [List.getD_eq_getElem?_getD, hy]; rfl
  · simp [fitsT, hk]
  · rw [idx_vec hk, if_pos ⟨by simp, by simp; omega⟩]; rfl
mutual
theorem underOk : ∀ (x : T), Pl x → x.nodes ≤ 16384 → UnderOk x
  | .mk k i t ks xs, h, hn => by
    have hk : k ≤ 4 ∧ (k = 4 ∨ xs = []) ∧ Pls xs := by
      rw [Pl] at h
      rcases h with ⟨h, rfl, rfl⟩ | ⟨rfl, rfl, rfl, rfl, h⟩
      · exact ⟨by rcases h with h | h | h | h <;> omega, .inr rfl, by rw [Pls]; trivial⟩
      · exact ⟨by decide, .inl rfl, h⟩
    have hnn : nodesL xs + 1 ≤ 16384 := by simpa [T.nodes] using hn
    refine under_at (.mk k i t ks xs) (hk.2.1.imp id fun h => .inr (.inr h)) (fun v S w j y hv hy => ?_) (fun v S w hv hS => each_pl hv hS hk.1 hn) hn (undersOk xs hk.2.2 (by omega))
    have hk4 : k = 4 := by
      rcases hk.2.1 with h | h
      · exact h
      · subst h; simp [T.xs] at hy
    have := vget_any (.mk k i t ks xs) v (stepAt (.mk k i t ks xs) j) S w hv hk.1 (by rw [stepAt, if_pos (show (T.mk k i t ks xs).k = 4 from hk4)]; simp) hn
    rwa [get_step (x := .mk k i t ks xs) hk4 hy] at this
theorem undersOk : ∀ (xs : List T), Pls xs → nodesL xs ≤ 16384 → ∀ (i : Nat) (y : T), xs[i]? = some y → UnderOk y
  | [], _, _, i, y, h => by simp at h
  | x :: xs, hp, hn, i, y, h => by
    rw [Pls] at hp
    have hnn : x.nodes + nodesL xs ≤ 16384 := hn
    cases i with
    | zero => simp at h; subst h; exact underOk x hp.1 (by omega)
    | succ i => exact undersOk xs hp.2 (by omega) i y (by simpa using h)
end
end Go.Proofs.YtfcegalckjeafaaGreatDoor
namespace Go.Proofs.YtfcegalckjeafaaGreatDoor
open Go.RowKit Go.BigFrame Go.Shelf
mutual
/-- The same tree, node by node. -/
def sameT : T → T → Bool | .mk k i t ks xs, .mk k' i' t' ks' xs' => decide (k = k') && decide (i = i') && decide (t = t') && decide (ks = ks') && sameTs xs xs'
def sameTs : List T → List T → Bool
  | [], [] => true
  | x :: xs, y :: ys => sameT x y && sameTs xs ys
  | [], _ :: _ => false
  | _ :: _, [] => false
end
mutual
theorem sameT_iff : ∀ (x y : T), sameT x y = true ↔ x = y
  | .mk k i t ks xs, .mk k' i' t' ks' xs' => by
    rw [sameT]
    simp only [Bool.and_eq_true, decide_eq_true_eq, sameTs_iff xs xs', T.mk.injEq]
    exact ⟨fun ⟨⟨⟨⟨a, b⟩, c⟩, d⟩, e⟩ => ⟨a, b, c, d, e⟩, fun ⟨a, b, c, d, e⟩ => ⟨⟨⟨⟨a, b⟩, c⟩, d⟩, e⟩⟩
theorem sameTs_iff : ∀ (xs ys : List T), sameTs xs ys = true ↔ xs = ys
  | [], [] => by simp [sameTs]
  | x :: xs, y :: ys => by
    rw [sameTs]
    simp only [Bool.and_eq_true, sameT_iff x y, sameTs_iff xs ys, List.cons.injEq]
  | [], _ :: _ => by simp [sameTs]
  | _ :: _, [] => by simp [sameTs]
end
theorem sameTs_len {xs ys : List T} (h : xs.length ≠ ys.length) : sameTs xs ys = false := by
  rw [Bool.eq_false_iff]; intro e; exact h (by rw [(sameTs_iff xs ys).1 e])
theorem sameTs_at {xs ys : List T} {k : Nat} {x y : T} (hx : xs[k]? = some x) (hy : ys[k]? = some y) (h : sameT x y = false) : sameTs xs ys = false := by
  rw [Bool.eq_false_iff]; intro e
  rw [(sameTs_iff xs ys).1 e, hy] at hx
  rw [Option.some.inj hx, (sameT_iff x x).2 rfl] at h
  cases h
theorem sameT_def (k i k' i' : Int) (t t' : List UInt8) (ks ks' : List (List UInt8)) (xs xs' : List T) : sameT (.mk k i t ks xs) (.mk k' i' t' ks' xs') = (decide (k = k') && decide (i = i') && decide (t = t') && decide (ks = ks') && sameTs xs xs') := by rw [sameT]
mutual
def LensA : T → Prop | .mk _ _ _ ks xs => ks.length ≤ 1000000 ∧ xs.length ≤ 1000000 ∧ LensL xs
def LensL : List T → Prop | [] => True | x :: xs => LensA x ∧ LensL xs
end
theorem LensL.at_ : ∀ {xs : List T}, LensL xs → ∀ {i : Nat} {x : T}, xs[i]? = some x → LensA x
  | [], _, i, x, h => by simp at h
  | y :: xs, hp, i, x, h => by
    rw [LensL] at hp
    cases i with
    | zero => simp at h; subst h; exact hp.1
    | succ i => exact LensL.at_ hp.2 (by simpa using h)
/-- Same tells whether two trees are the same. -/
def SameOk (x : T) : Prop := ∀ (y : T) (r u : TR) (S : Nat → Prop) (w : World), IsTr w S x r → IsTr w S y u → LensA x → LensA y → Calls Tryz.prog 36 #[r.a, u.a] w fun e w' => e = .returned (.bool (sameT x y)) ∧ Below w.heap.size w w'
theorem text_at {w : World} {S : Nat → Prop} {A : Option Addr} {n k : Nat} {ts : List (List UInt8)} {t : List UInt8} (h : Reads w S 1 A n (ts.map sv)) (ht : ts[k]? = some t) (hn : k < n) : ∃ ad, A = some ad ∧ w.cell? (ad.add k) = some (.string ⟨t.toArray⟩) := by
  obtain ⟨ad, e, -, hc⟩ := h.2 (by omega)
  exact ⟨ad, e, hc k _ (by rw [List.getElem?_map, ht]; rfl)⟩
set_option maxRecDepth 100000 in
set_option maxHeartbeats 8000000 in
theorem same_tree (x : T) (ih : ∀ (i : Nat) (z : T), x.xs[i]? = some z → SameOk z) : SameOk x := by
  intro y r u S w hr hu hlx hly
  have hrb := hr.bound
  have hub := hu.bound
  obtain ⟨k, i, t, ks, xs⟩ := x
  obtain ⟨k', i', t', ks', xs'⟩ := y
  rw [IsTr] at hrb hub
  obtain ⟨rk, ri, rt, kA, kn, kc, xA, xn, xc⟩ := r
  obtain ⟨uk, ui, ut, lA, ln, lc, yA, yn, yc⟩ := u
  obtain ⟨e1, e2, e3, e4, hkc, hkr, e5, hxc, rs, hxr, hrs⟩ := hrb
  obtain ⟨d1, d2, d3, d4, hlc, hlr, d5, hyc, us, hyr, hus⟩ := hub
  simp only at e1 e2 e3 e4 e5 d1 d2 d3 d4 d5 hkc hkr hxc hxr hlc hlr hyc hyr
  subst e1 e2 e3 e4 e5 d1 d2 d3 d4 d5
  rw [LensA] at hlx hly
  obtain ⟨l1, l2, l3⟩ := hlx
  obtain ⟨m1, m2, m3⟩ := hly
  have HKR := Lib.hid hkr
  have HLR := Lib.hid hlr
  have HXR := Lib.hid hxr
  have HYR := Lib.hid hyr
  have HRS := Lib.hid hrs
  have HUS := Lib.hid hus
  have HIH := Lib.hid ih
  have HL3 := Lib.hid l3
  have HM3 := Lib.hid m3
  obtain ⟨R, hR⟩ : ∃ R, R = sameT (.mk rk ri rt ks xs) (.mk uk ui ut ks' xs') := ⟨_, rfl⟩
  rw [← hR]
  rw [sameT_def] at hR
  have HR := Lib.hid hR
  clear hr hu hkr hlr hxr hyr hrs hus ih hR l3 m3
  have hTb : ((⟨rt.toArray⟩ : ByteArray).toList == (⟨ut.toArray⟩ : ByteArray).toList) = decide (rt = ut) := by rw [Lib.toList_data, Lib.toList_data, Bool.eq_iff_iff]; simp
  have hTe : rt = ut → (⟨rt.toArray⟩ : ByteArray) = ⟨ut.toArray⟩ := fun e => by rw [e]
  simp only [TR.a]
  generalize (⟨rt.toArray⟩ : ByteArray) = tb at *
  generalize (⟨ut.toArray⟩ : ByteArray) = tb' at *
  by_cases q1 : rk = uk
  case neg =>
    have b1 : (rk != uk) = true := by simpa using q1
    have HX : Hid (R = false) := Lib.hid (by rw [HR.out]; simp [q1])
    clear hTb hTe q1
    go_enter Tryz.func36, Tryz.ntmps36
    go_wp2
    go_ret
    exact ⟨by rw [HX.out]; rfl, ((Below.refl _ _).alloc (Nat.le_refl _) _).alloc (by simp) _⟩
  subst q1
  by_cases q2 : ri = ui
  case neg =>
    have b1 : (ri != ui) = true := by simpa using q2
    have HX : Hid (R = false) := Lib.hid (by rw [HR.out]; simp [q2])
    clear hTb hTe q2
    go_enter Tryz.func36, Tryz.ntmps36
    go_wp2
    go_ret
    exact ⟨by rw [HX.out]; rfl, ((Below.refl _ _).alloc (Nat.le_refl _) _).alloc (by simp) _⟩
  subst q2
  by_cases q3 : rt = ut
  case neg =>
    have b1 : (tb.toList == tb'.toList) = false := by rw [hTb]; exact decide_eq_false q3
    have HX : Hid (R = false) := Lib.hid (by rw [HR.out]; simp [q3])
    clear hTb hTe q3
    go_enter Tryz.func36, Tryz.ntmps36
    go_wp2
    go_ret
    exact ⟨by rw [HX.out]; rfl, ((Below.refl _ _).alloc (Nat.le_refl _) _).alloc (by simp) _⟩
  obtain rfl := hTe q3
  clear hTb hTe
  by_cases q4 : ks.length = ks'.length
  case neg =>
    have b1 : ((ks.length : Int) != (ks'.length : Int)) = true := by simp; omega
    have b2 : decide (ks.length = ks'.length) = false := decide_eq_false q4
    have HX : Hid (R = false) := Lib.hid (by rw [HR.out, decide_eq_false (show ¬ ks = ks' from fun e => q4 (by rw [e]))]; simp)
    clear q3 q4
    go_enter Tryz.func36, Tryz.ntmps36
    go_wp2
    go_ret
    exact ⟨by rw [HX.out]; rfl, ((Below.refl _ _).alloc (Nat.le_refl _) _).alloc (by simp) _⟩
  have b4 : ((ks.length : Int) != (ks'.length : Int)) = false := by simp; omega
  by_cases q5 : xs.length = xs'.length
  case neg =>
    have b1 : ((xs.length : Int) != (xs'.length : Int)) = true := by simp; omega
    have HX : Hid (R = false) := Lib.hid (by rw [HR.out, sameTs_len q5]; simp)
    clear q3 q4 q5
    go_enter Tryz.func36, Tryz.ntmps36
    go_wp2
    go_ret
    exact ⟨by rw [HX.out]; rfl, ((Below.refl _ _).alloc (Nat.le_refl _) _).alloc (by simp) _⟩
  have b5 : ((xs.length : Int) != (xs'.length : Int)) = false := by simp; omega
  have HR2 : Hid (R = (decide (ks = ks') && sameTs xs xs')) := Lib.hid (by rw [HR.out]; simp [q3])
  have Q4 := Lib.hid q4
  have Q5 := Lib.hid q5
  clear HR q3 q4 q5
  go_enter Tryz.func36, Tryz.ntmps36
  go_wp2_with fail
  refine wp_at fun W hW => ?_
  obtain ⟨hB, hz, H1, H2⟩ := boxes2 hW
  have HZ := Lib.hid hz
  have KEEP : Hid (∀ W', Below W.heap.size W W' → Below w.heap.size w W' ∧ Blk W' w.heap.size 28 #[.int .i64 rk, .int .i64 ri, .string tb, .slice kA ks.length kc, .slice xA xs.length xc] ∧ Blk W' (w.heap.size + 1) 28 #[.int .i64 rk, .int .i64 ri, .string tb, .slice lA ks'.length lc, .slice yA xs'.length yc]) := Lib.hid fun W' h => ⟨hB.trans (h.mono hB.size), H1.below h H1.lt, H2.below h H2.lt⟩
  clear hW hB hz H1 H2 b4 b5
  go_loopw [47] (fun i wr => ∃ k : Nat, k ≤ ks.length ∧ i = .int .i64 k ∧ Hid (ks.take k = ks'.take k) ∧ Hid (Below W.heap.size W wr)) (fun i _ => (ks.length - intOf i).toNat)
  case atStart => exact ⟨0, Nat.zero_le _, rfl, by simp [Hid], Below.refl _ _⟩
  case round =>
    obtain ⟨k, hk, rfl, hE, hBr⟩ := hrel
    obtain ⟨k1, k2, k3⟩ := KEEP.out _ hBr.out
    have K1 := Lib.hid k1
    have K2 := Lib.hid k2
    have K3 := Lib.hid k3
    by_cases hlt : k < ks.length
    · have hlt' : k < ks'.length := by have := Q4.out; omega
      obtain ⟨ta, hta⟩ : ∃ ta, ks[k]? = some ta := ⟨_, List.getElem?_eq_getElem hlt⟩
      obtain ⟨ua, hua⟩ : ∃ ua, ks'[k]? = some ua := ⟨_, List.getElem?_eq_getElem hlt'⟩
      obtain ⟨ad, rfl, hc⟩ := text_at (HKR.out.keeps (.of_below k1)) hta hlt
      obtain ⟨bd, rfl, hd⟩ := text_at (HLR.out.keeps (.of_below k1)) hua hlt'
      have c3 := k2.cell 3
      have d3 := k3.cell 3
      simp only [List.getElem?_toArray, List.getElem?_cons_succ, List.getElem?_cons_zero] at c3 d3
      have HTA := Lib.hid hta
      have HUA := Lib.hid hua
      have hTb : ((⟨ta.toArray⟩ : ByteArray).toList == (⟨ua.toArray⟩ : ByteArray).toList) = decide (ta = ua) := by rw [Lib.toList_data, Lib.toList_data, Bool.eq_iff_iff]; simp
      have hTe : ta = ua → (⟨ta.toArray⟩ : ByteArray) = ⟨ua.toArray⟩ := fun e => by rw [e]
      generalize (⟨ta.toArray⟩ : ByteArray) = sa at *
      generalize (⟨ua.toArray⟩ : ByteArray) = sb at *
      clear hta hua k1 k2 k3
      by_cases q : ta = ua
      · have hnx : Hid (ks.take (k + 1) = ks'.take (k + 1)) := Lib.hid (by rw [List.take_add_one, List.take_add_one, hE.out, HTA.out, HUA.out, q])
        obtain rfl := hTe q
        clear hTb hTe q hE
        go_wp2_with fail
        go_quiet (fail)
        go_wp2_with fail
        exact ⟨⟨k + 1, by omega, by go_num, hnx, hBr.out.trans ((below_drewN _ _).mono hBr.out.size)⟩, by simp [intOf]; omega⟩
      · have e3 : (sa.toList == sb.toList) = false := by rw [hTb]; exact decide_eq_false q
        have HX : Hid (R = false) := Lib.hid (by
          rw [HR2.out, decide_eq_false (show ¬ ks = ks' from fun e => q ?_)]
          · rfl
          · have h1 := HTA.out
            rw [e, HUA.out] at h1
            exact (Option.some.inj h1).symm)
        clear hTb hTe q
        go_wp2_with fail
        go_quiet (fail)
        go_wp2
        go_ret
        exact ⟨by rw [HX.out]; rfl, K1.out.trans ((below_drewN _ _).mono K1.out.size)⟩
    · have HKS : Hid (ks = ks') := Lib.hid (by
        have h1 := hE.out
        rwa [List.take_of_length_le (by omega), List.take_of_length_le (by have := Q4.out; omega)] at h1)
      have c4 := k2.cell 4
      simp only [List.getElem?_toArray, List.getElem?_cons_succ, List.getElem?_cons_zero] at c4
      clear k1 k2 k3 hE hk
      go_wp2_with fail
      clear c4 K1 K2 K3
      go_loopw [65] (fun i wr => ∃ k : Nat, k ≤ xs.length ∧ i = .int .i64 k ∧ Hid (xs.take k = xs'.take k) ∧ Hid (Below W.heap.size W wr)) (fun i _ => (xs.length - intOf i).toNat)
      case atStart => exact ⟨0, Nat.zero_le _, rfl, by simp [Hid], hBr⟩
      case round =>
        clear hBr
        obtain ⟨k, hk, rfl, hE, hBr⟩ := hrel
        obtain ⟨k1, k2, k3⟩ := KEEP.out _ hBr.out
        have K1 := Lib.hid k1
        by_cases hlt : k < xs.length
        · have hlt' : k < xs'.length := by have := Q5.out; omega
          obtain ⟨xa, hxa⟩ : ∃ z, xs[k]? = some z := ⟨_, List.getElem?_eq_getElem hlt⟩
          obtain ⟨xb, hxb⟩ : ∃ z, xs'[k]? = some z := ⟨_, List.getElem?_eq_getElem hlt'⟩
          obtain ⟨ra, hra, hta⟩ := HRS.out.some hxa
          obtain ⟨rb, hrb, htb⟩ := HUS.out.some hxb
          obtain ⟨ad, rfl, -, hcc⟩ := eT.cells (HXR.out.keeps (.of_below k1)) hra (by omega)
          obtain ⟨bd, rfl, -, hdd⟩ := eT.cells (HYR.out.keeps (.of_below k1)) hrb (by omega)
          have c4 := k2.cell 4
          have d4 := k3.cell 4
          simp only [List.getElem?_toArray, List.getElem?_cons_succ, List.getElem?_cons_zero] at c4 d4
          have HC := Lib.hid (fun W2 (hW2 : Below wr.heap.size wr W2) => HIH.out k xa hxa xb ra rb (fun k => S k ∧ k < w.heap.size) W2 ((hta.keeps (.of_below k1)).keeps (.of_below hW2)) ((htb.keeps (.of_below k1)).keeps (.of_below hW2)) (HL3.out.at_ hxa) (HM3.out.at_ hxb))
          have HXA := Lib.hid hxa
          have HXB := Lib.hid hxb
          clear hxa hxb hra hrb hta htb k1 k2 k3
          obtain ⟨Q, hQ⟩ : ∃ Q, Q = sameT xa xb := ⟨_, rfl⟩
          have HQ := Lib.hid hQ
          rw [← hQ] at HC
          clear hQ
          cases Q with
          | true =>
            have hnx : Hid (xs.take (k + 1) = xs'.take (k + 1)) := Lib.hid (by rw [List.take_add_one, List.take_add_one, hE.out, HXA.out, HXB.out, (sameT_iff xa xb).1 HQ.out.symm])
            clear hE
            go_wp2_with fail
            have hkI : (0 : Int) ≤ (k : Int) := by omega
            have hkI2 : (k : Int) < (xs.length : Int) := by omega
            have hkI3 : (k : Int) < (xs'.length : Int) := by omega
            refine wp_region_sq 11 [(0, true), (1, true), (2, true), (3, true), (4, true), (5, true), (6, true), (7, true), (8, true), (9, true), (10, false)] (fun w' => w'.cell? ⟨w.heap.size, 4, none⟩ = some (.slice (some ad) xs.length xc) ∧ w'.cell? ⟨w.heap.size + 1, 4, none⟩ = some (.slice (some bd) xs'.length yc) ∧ (∀ j u, (eT.l ra)[j]? = some u → w'.cell? ((ad.add (k * 5)).add j) = some u) ∧ (∀ j u, (eT.l rb)[j]? = some u → w'.cell? ((bd.add (k * 5)).add j) = some u)) (by kernel_rfl) (by kernel_rfl) ⟨c4, d4, hcc, hdd⟩ (fun hS => ?_)
            iterate 4 (refine sq_t (o := ⟨_, _, _, _, _, _⟩) (v := ?_) rfl (by rfl) ?_ ?_; rotate_left; (· (intro w hSw; (try dsimp only at hSw); obtain ⟨hS1, hS2, -⟩ := hSw; go_simp; try with_reducible rfl)); try simp only [Act.put, List.setIfInBounds_toArray, List.set_cons_zero, List.set_cons_succ])
            refine sq_t (o := ⟨_, _, _, _, _, _⟩) (v := .agg (TR.l ra).toArray) rfl (by rfl) (fun w' hw' => exec_load_list (cs := eT.l ra) isT rfl (by simp [Act.eval]) hw'.2.2.1) ?_
            try simp only [Act.put, List.setIfInBounds_toArray, List.set_cons_zero, List.set_cons_succ]
            iterate 4 (refine sq_t (o := ⟨_, _, _, _, _, _⟩) (v := ?_) rfl (by rfl) ?_ ?_; rotate_left; (· (intro w hSw; (try dsimp only at hSw); obtain ⟨hS1, hS2, -⟩ := hSw; go_simp; try with_reducible rfl)); try simp only [Act.put, List.setIfInBounds_toArray, List.set_cons_zero, List.set_cons_succ])
            refine sq_t (o := ⟨_, _, _, _, _, _⟩) (v := .agg (TR.l rb).toArray) rfl (by rfl) (fun w' hw' => exec_load_list (cs := eT.l rb) isT rfl (by simp [Act.eval]) hw'.2.2.2) ?_
            try simp only [Act.put, List.setIfInBounds_toArray, List.set_cons_zero, List.set_cons_succ]
            refine sq_c rfl (fun K hK => ?_)
            go_simp
            refine (HC.out _ (Below.refl _ _).drew).mono ?_
            rintro e w4 ⟨rfl, hb4⟩
            have hb4' : Below wr.heap.size wr w4 := (Below.refl _ _).drew.trans hb4
            refine hK.out _ _ ⟨cb' hb4' c4, cb' hb4' d4, fun j u hu => cb' hb4' (hcc j u hu), fun j u hu => cb' hb4' (hdd j u hu)⟩ (fun hS => ?_)
            clear hK K
            have HB4 := Lib.hid (hBr.out.trans (hb4'.mono hBr.out.size))
            have HB5 := Lib.hid (K1.out.trans (hb4'.mono K1.out.size))
            try simp only [Act.put, List.setIfInBounds_toArray, List.set_cons_zero, List.set_cons_succ]
            simp only [wpSq, List.drop_succ_cons, List.drop_zero]
            clear hS hb4 hb4' hcc hdd c4 d4
            go_wp2_with fail
            refine NoPanic.normal ?_
            go_wp2_with fail
            exact ⟨⟨k + 1, by omega, by go_num, hnx, HB4⟩, by simp [intOf]; omega⟩
          | false =>
            have HX : Hid (R = false) := Lib.hid (by rw [HR2.out, sameTs_at HXA.out HXB.out HQ.out.symm]; simp)
            go_wp2_with fail
            have hkI : (0 : Int) ≤ (k : Int) := by omega
            have hkI2 : (k : Int) < (xs.length : Int) := by omega
            have hkI3 : (k : Int) < (xs'.length : Int) := by omega
            refine wp_region_sq 11 [(0, true), (1, true), (2, true), (3, true), (4, true), (5, true), (6, true), (7, true), (8, true), (9, true), (10, false)] (fun w' => w'.cell? ⟨w.heap.size, 4, none⟩ = some (.slice (some ad) xs.length xc) ∧ w'.cell? ⟨w.heap.size + 1, 4, none⟩ = some (.slice (some bd) xs'.length yc) ∧ (∀ j u, (eT.l ra)[j]? = some u → w'.cell? ((ad.add (k * 5)).add j) = some u) ∧ (∀ j u, (eT.l rb)[j]? = some u → w'.cell? ((bd.add (k * 5)).add j) = some u)) (by kernel_rfl) (by kernel_rfl) ⟨c4, d4, hcc, hdd⟩ (fun hS => ?_)
            iterate 4 (refine sq_t (o := ⟨_, _, _, _, _, _⟩) (v := ?_) rfl (by rfl) ?_ ?_; rotate_left; (· (intro w hSw; (try dsimp only at hSw); obtain ⟨hS1, hS2, -⟩ := hSw; go_simp; try with_reducible rfl)); try simp only [Act.put, List.setIfInBounds_toArray, List.set_cons_zero, List.set_cons_succ])
            refine sq_t (o := ⟨_, _, _, _, _, _⟩) (v := .agg (TR.l ra).toArray) rfl (by rfl) (fun w' hw' => exec_load_list (cs := eT.l ra) isT rfl (by simp [Act.eval]) hw'.2.2.1) ?_
            try simp only [Act.put, List.setIfInBounds_toArray, List.set_cons_zero, List.set_cons_succ]
            iterate 4 (refine sq_t (o := ⟨_, _, _, _, _, _⟩) (v := ?_) rfl (by rfl) ?_ ?_; rotate_left; (· (intro w hSw; (try dsimp only at hSw); obtain ⟨hS1, hS2, -⟩ := hSw; go_simp; try with_reducible rfl)); try simp only [Act.put, List.setIfInBounds_toArray, List.set_cons_zero, List.set_cons_succ])
            refine sq_t (o := ⟨_, _, _, _, _, _⟩) (v := .agg (TR.l rb).toArray) rfl (by rfl) (fun w' hw' => exec_load_list (cs := eT.l rb) isT rfl (by simp [Act.eval]) hw'.2.2.2) ?_
            try simp only [Act.put, List.setIfInBounds_toArray, List.set_cons_zero, List.set_cons_succ]
            refine sq_c rfl (fun K hK => ?_)
            go_simp
            refine (HC.out _ (Below.refl _ _).drew).mono ?_
            rintro e w4 ⟨rfl, hb4⟩
            have hb4' : Below wr.heap.size wr w4 := (Below.refl _ _).drew.trans hb4
            refine hK.out _ _ ⟨cb' hb4' c4, cb' hb4' d4, fun j u hu => cb' hb4' (hcc j u hu), fun j u hu => cb' hb4' (hdd j u hu)⟩ (fun hS => ?_)
            clear hK K
            have HB4 := Lib.hid (hBr.out.trans (hb4'.mono hBr.out.size))
            have HB5 := Lib.hid (K1.out.trans (hb4'.mono K1.out.size))
            try simp only [Act.put, List.setIfInBounds_toArray, List.set_cons_zero, List.set_cons_succ]
            simp only [wpSq, List.drop_succ_cons, List.drop_zero]
            clear hS hb4 hb4' hcc hdd c4 d4
            go_wp2_with fail
            refine NoPanic.normal ?_
            go_wp2
            go_ret
            exact ⟨by rw [HX.out]; rfl, HB5.out⟩
        · have HX : Hid (R = true) := Lib.hid (by
            have h1 := hE.out
            rw [List.take_of_length_le (by omega), List.take_of_length_le (by have := Q5.out; omega)] at h1
            rw [HR2.out, HKS.out, h1, (sameTs_iff xs' xs').2 rfl]
            simp)
          clear k1 k2 k3
          go_wp2
          go_ret
          exact ⟨by rw [HX.out]; rfl, K1.out⟩
mutual
theorem sameOk : ∀ (x : T), SameOk x
  | .mk k i t ks xs => same_tree (.mk k i t ks xs) (sameOks xs)
theorem sameOks : ∀ (xs : List T) (i : Nat) (z : T), xs[i]? = some z → SameOk z
  | [], i, z, h => by simp at h
  | x :: xs, 0, z, h => by simp at h; subst h; exact sameOk x
  | x :: xs, i + 1, z, h => sameOks xs i z (by simpa using h)
end
end Go.Proofs.YtfcegalckjeafaaGreatDoor
