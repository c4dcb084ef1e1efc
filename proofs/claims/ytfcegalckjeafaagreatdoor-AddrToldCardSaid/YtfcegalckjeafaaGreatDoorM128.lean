/-
  Parts of the proof that AddrTold,AddrBegins calls on: Yb, Yc, Yd.
-/
import Derived.Deep.CutRange
import Derived.Deep.RegionLawGrows
import Derived.Test.YtfcegalckjeafaaGreatDoorM124
import Derived.Test.YtfcegalckjeafaaGreatDoorM125
import Derived.Test.YtfcegalckjeafaaGreatDoorM127
namespace Go.Proofs.YtfcegalckjeafaaGreatDoor
open Go.RowKit Go.BigFrame Go.Shelf
/-- A list under way, in a box. -/
def AppJ {α : Type} (E : Enc α) (ts e : TypeId) (w0 : World) (n₀ g : Nat) (l : List α) (W : World) : Prop := ∃ v, Blk W g ts #[v] ∧ W.ownsRow (n₀ + 3) e E.sz v l.length (E.fl l) ∧ Below w0.heap.size w0 W
theorem app_stay {α : Type} {E : Enc α} {ts e : TypeId} {w0 : World} {n₀ g : Nat} {l : List α} {W W' : World} {row : Option Nat} (h : AppJ E ts e w0 n₀ g l W) (h0 : w0.heap.size ≤ g) (h1 : g < n₀) (hg : W.grownBy W' row) (hr : ∀ r, row = some r → r = n₀ + 2 ∨ n₀ ≤ r ∧ ∃ o : Obj, W.heap[r]? = some o ∧ o.isCells = false) : AppJ E ts e w0 n₀ g l W' := by
  obtain ⟨v, hg1, hv, hb0⟩ := h
  have hC : Chg (fun b => some b = row) W W' := Chg.of_grown hg (fun j e => e.symm)
  have hrow : ∀ r, some r = row → n₀ ≤ r := fun r e => by rcases hr r e.symm with h | h <;> omega
  refine ⟨v, hC.blk hg1 (fun e => by have := hrow _ e; omega), hC.own hv (fun j e h => ?_), hC.below hb0 hb0.size (fun b e => by have := hrow _ e; omega)⟩
  rcases hr j h.symm with h' | ⟨_, o, ho, hc⟩
  · have := own_base hv e; omega
  · rw [own_cells hv e ho] at hc; cases hc
/-- What has been put behind, and into the box. -/
theorem app_fin {α : Type} {E : Enc α} {ts e : TypeId} {w0 w w4 w5 : World} {n₀ g : Nat} {l : List α} {x : α} {v v' : Value} (h0 : w0.heap.size ≤ g) (h1 : g < n₀) (hb0 : Below w0.heap.size w0 w) (hv : w.ownsRow (n₀ + 3) e E.sz v l.length (E.fl l)) (hg : Blk w g ts #[v])
    (hB : Below w.heap.size w w4) (hG : w4.grownBy w5 v.ownBlock) (hO : w5.ownsRow (n₀ + 3) e E.sz v' (l.length + 1) (E.fl l ++ E.fl [x])) :
    AppJ E ts e w0 n₀ g (l ++ [x]) (w5.setCell ⟨g, 0, none⟩ v') ∧ ∀ S : Nat → Prop, (∀ b, S b → b < n₀ ∧ b ≠ g) → Left n₀ S w (w5.setCell ⟨g, 0, none⟩ v') := by
  have ol : ∀ j, v.ownBlock = some j → n₀ + 3 ≤ j ∧ j < w.heap.size := fun j e => ⟨own_base hv e, own_lt hv e⟩
  have hC6 : Chg (fun b => b = g) w5 (w5.setCell ⟨g, 0, none⟩ v') := Chg.of_grown (chg_set w5 g 0 v') (fun j e => (Option.some.inj e).symm)
  have hC5 : Chg (fun b => b = g ∨ some b = v.ownBlock) w w5 := (Chg.of_below hB).trans (Chg.of_grown (F := fun b => b = g ∨ some b = v.ownBlock) hG (fun j e => .inr e.symm)) (fun _ _ h => h)
  have hC : Chg (fun b => b = g ∨ some b = v.ownBlock) w (w5.setCell ⟨g, 0, none⟩ v') := hC5.trans hC6 (fun _ _ h => .inl h)
  have hg5 : Blk w5 g ts #[v] := (hg.below hB hg.lt).grown hG (fun e => by have := ol _ e.symm; omega)
  refine ⟨⟨v', by simpa using hg5.set_ 0 v', ?_, hC.below hb0 hb0.size ?_⟩, fun S hS => hC.left (fun b hb => ?_) ?_ ?_⟩
  · rw [List.length_append, E.fl_app]
    exact hC6.own hO (fun j e h => by have := own_base hO e; omega)
  · rintro b (h | h)
    · omega
    · have := ol b h.symm; omega
  · rintro (h | h)
    · exact (hS b hb).2 h
    · have := ol b h.symm; have := (hS b hb).1; omega
  · rintro b o (h | h) ho hc
    · omega
    · rw [own_cells hv h.symm ho] at hc; cases hc
  · rintro b (h | h)
    · omega
    · have := ol b h.symm; omega
theorem reads_one_S (w : World) (s : St) : Reads (w.alloc (.cells #[.int .i64 s.K, .int .i64 s.I, .string ⟨s.T.toArray⟩] 48)) (fun j => j = w.heap.size) 3 (some ⟨w.heap.size, 0, none⟩) 1 (eSt.fl [s]) := reads_one_St w s.K s.I s.T
set_option maxRecDepth 100000 in
set_option maxHeartbeats 2000000 in
theorem steps1_any (w0 : World) (n₀ g : Nat) (s : St) (x : V) (l : List St) (w : World) (hJ : AppJ eSt 46 48 w0 n₀ g l w) (h0 : w0.heap.size ≤ g) (h1 : g < n₀) (h3 : n₀ + 3 ≤ w.heap.size) (hn : l.length ≤ 16384) :
    Calls Tryz.prog 132 #[s.a, x.a, .pointer (some ⟨g, 0, none⟩)] w fun e W' => (∃ u, e = .returned u) ∧ AppJ eSt 46 48 w0 n₀ g (l ++ [s]) W' ∧ ∀ S : Nat → Prop, (∀ b, S b → b < n₀ ∧ b ≠ g) → Left n₀ S w W' := by
  obtain ⟨v, hg, hv, hb0⟩ := hJ
  obtain ⟨A1, c1, rfl, hc1⟩ := own_shape hv
  have HG := Lib.hid hg
  have HV := Lib.hid hv
  have HB0 := Lib.hid hb0
  have gl := hg.lt
  have H0 := Lib.hid h0
  have H1 := Lib.hid h1
  have H3 := Lib.hid h3
  clear hg hv hb0 hc1 h0 h1 h3
  simp only [V.a, St.a]
  go_enter Tryz.func132, Tryz.ntmps132
  go_upto_region 1 with fail
  refine wp_at fun W hW => ?_
  obtain ⟨hB, hz, hS, -⟩ := boxes2 hW
  have HB := Lib.hid hB
  have g0 : W.cell? ⟨g, 0, none⟩ = some (.slice A1 l.length c1) := (HG.out.below hB gl).cell 0
  have f0 := (HG.out.below hB gl).frozen 0
  have s0 := hS.cell 0
  have s1 := hS.cell 1
  have s2 := hS.cell 2
  have HZ := Lib.hid hz
  simp only [List.getElem?_toArray, List.getElem?_cons_succ, List.getElem?_cons_zero] at s0 s1 s2
  have hgw : g < W.heap.size := Nat.lt_of_lt_of_le gl hB.size
  clear hW hB hz hS
  go_wp2_with (first
    | (at_builtin; refine wpList_app3 elSt (o := ⟨some 8, _, _, _, _, _⟩) rfl rfl (n := l.length) (own_below (own_below HV.out HB.out) ((Below.refl _ _).alloc (Nat.le_refl _) _)) rfl (reads_one_S W s) rfl (eSt.fl_one _) (by omega) (by decide) (by have := H3.out; have := HB.out.size; simp; omega) ?_; intro v5 w5 HO5 HG5 HK5; obtain ⟨A5, c5, rfl, -⟩ := own_shape HO5.out; have HG5' := Lib.hid (show World.grownBy _ w5 (Value.slice A1 l.length c1).ownBlock from HG5.out); have G5 := Lib.hid ((HG.out.below (HB.out.alloc HB.out.size (.cells #[.int .i64 s.K, .int .i64 s.I, .string ⟨s.T.toArray⟩] 48)) gl).grown HG5'.out (fun e => by have := own_base HV.out e.symm; have := H1.out; omega)); have q0 : w5.cell? ⟨g, 0, none⟩ = some (.slice A1 l.length c1) := G5.out.cell 0; have q1 := G5.out.frozen 0; clear HG5 HK5 g0 f0 s0 s1 s2)
    | fail)
  have HFIN := Lib.hid (app_fin (E := eSt) (ts := 46) (x := s) H0.out H1.out HB0.out HV.out HG.out (HB.out.alloc HB.out.size _) HG5'.out HO5.out)
  clear HO5 HG5' G5
  go_end0
  exact ⟨⟨_, rfl⟩, HFIN.out⟩
/-- The steps to a tree's parts. -/
def stepAt (x : T) (i : Nat) : St := if x.k = 4 then ⟨0, i, []⟩ else if x.k = 5 then ⟨1, 0, x.ks.getD i []⟩ else ⟨2, 0, (x.xs.getD i T.z).key⟩
def stepsT (x : T) : List St := (List.range x.xs.length).map (stepAt x)
theorem stepsT_len (x : T) : (stepsT x).length = x.xs.length := by simp [stepsT]
theorem parts_steps {w : World} {S : Nat → Prop} {x : T} {n : Nat} {st : Fin n → St} {vv : Fin n → V} (h : PartsOk w S x n st vv) (hk : x.k = 4 ∨ x.k = 5 ∨ x.k = 6 ∨ x.xs = []) : (List.finRange n).map st = stepsT x := by
  apply List.ext_getElem
  · simp [stepsT_len, h.1]
  · intro i h1 h2
    have hi : i < n := by simpa using h1
    simp only [List.getElem_map, List.getElem_finRange, stepsT, List.getElem_range]
    obtain ⟨-, a4, a5, a6⟩ := h.2 ⟨i, hi⟩
    rcases hk with hk | hk | hk | hk
    · simpa [stepAt, hk] using a4 hk
    · simpa [stepAt, hk] using a5 hk
    · simpa [stepAt, hk] using a6 hk
    · have := h.1; rw [hk] at this; simp at this; omega
/-- Steps in new memory. -/
def StsOut (w : World) (l : List St) (e : Ending) (w' : World) : Prop := ∃ v, e = .returned v ∧ w'.ownsRow w.heap.size 48 3 v l.length (eSt.fl l) ∧ Below w.heap.size w w'
set_option maxRecDepth 100000 in
set_option maxHeartbeats 4000000 in
theorem steps_any (x : T) (v : V) (S : Nat → Prop) (w : World) (hn : x.nodes ≤ 16384) (hk : x.k = 4 ∨ x.k = 5 ∨ x.k = 6 ∨ x.xs = []) (he : ∀ W, Below w.heap.size w W → EachAt W (fun k => S k ∧ k < w.heap.size) x v) :
    Calls Tryz.prog 85 #[v.a] w (StsOut w (stepsT x)) := by
  have HE := Lib.hid he
  have HN : Hid (x.xs.length ≤ 16384) := Lib.hid (by have := x.nodes_eq; have := len_nodesL x.xs; omega)
  have HK := Lib.hid hk
  clear he hn hk
  have hva : v.a = .agg v.l.toArray := rfl
  obtain ⟨sk, si, st, kd, vec, seed, bits, n, dic, bel, mor⟩ := v
  clear hva
  simp only [V.a]
  go_enter Tryz.func85, Tryz.ntmps85
  go_wp2_with fail
  refine calls_at fun W hW => ?_
  obtain ⟨hB, hz, -, HO⟩ := boxes2 hW
  have HZ := Lib.hid hz
  clear hW
  obtain ⟨m, stp, vv, hp, heach⟩ := HE.out W hB
  have hm' : m ≤ 16384 := by have := HN.out; have := hp.1; omega
  have HP := Lib.hid (parts_steps hp HK.out)
  have HM := Lib.hid hp.1
  refine (heach 132 #[.pointer (some ⟨w.heap.size + 1, 0, none⟩)] (fun pre W1 => AppJ eSt 46 48 w W.heap.size (w.heap.size + 1) (pre.map stp) W1)
    (enters_of Tryz.func132 (by kernel_rfl) rfl) (fun pre A B row hs hg hr => app_stay hs (by omega) (by omega) hg hr) ⟨_, HO, World.ownsRow_nil _ _ _ _, hB⟩ (fun pre y W1 hJ hlt h3 => ?_)).mono ?_
  · refine (steps1_any w W.heap.size (w.heap.size + 1) (stp y) (vv y) _ W1 hJ (by omega) (by omega) h3 (by simp; omega)).mono ?_
    rintro e W3 ⟨⟨u, rfl⟩, hJ3, hL⟩
    exact ⟨⟨_, rfl⟩, by simpa using hJ3, hL _ (fun b hb => by have := hb.2; omega)⟩
  · rintro e W3 ⟨⟨u, rfl⟩, v3, hg3, ho3, hb3⟩
    rw [HP.out] at ho3
    have HG3 := Lib.hid hg3
    have HO3 := Lib.hid ho3
    have HB3 := Lib.hid hb3
    have c0 := hg3.cell 0
    simp only [List.getElem?_toArray, List.getElem?_cons_zero] at c0
    clear hg3 ho3 hb3 hp heach hB HO HE
    go_wp2_with fail
    go_ret
    exact ⟨_, rfl, ⟨HO3.out.1, HO3.out.2.imp id fun ⟨g, cap, cur, e1, e2, r⟩ => ⟨g, cap, cur, e1, by have := HZ.out; omega, r⟩⟩, HB3.out⟩
theorem own_emptyS (w : World) : (w.alloc (.cells #[] 48)).ownsRow w.heap.size 48 3 (.slice (some ⟨w.heap.size, 0, none⟩) 0 0) 0 [] :=
  ⟨rfl, .inr ⟨w.heap.size, 0, #[], rfl, Nat.le_refl _, Blk.new _ _ _, Nat.le_refl _, Nat.zero_le _, rfl, rfl⟩⟩
set_option maxRecDepth 100000 in
set_option maxHeartbeats 2000000 in
theorem clones_some (l : List St) (ad : Addr) (c : Nat) (w : World) (S : Nat → Prop) (hr : Reads w S 3 (some ad) l.length (eSt.fl l)) (hn : l.length ≤ 65536) :
    Calls Tryz.prog 84 #[.slice (some ad) l.length c] w (StsOut w l) := by
  have HR := Lib.hid hr
  have hnil : ∀ W : World, (binOp .eql 46 (.slice (some ad) l.length c) (.slice none 0 0)).run Tryz.prog W = .ok (.bool false) W := fun _ => rfl
  clear hr
  go_enter Tryz.func84, Tryz.ntmps84
  go_wp2_with (at_builtin; refine wpList_app elSt rfl rfl (base := w.heap.size) (n := 0) (xs := []) (v := .slice (some ⟨w.heap.size, 0, none⟩) 0 0) (own_emptyS w) rfl (w0 := w) ((Below.refl _ _).alloc (Nat.le_refl _) _) (HR.out.keeps (.of_below ((Below.refl _ _).alloc (Nat.le_refl _) _))) rfl (eSt.fl_one l) (by omega) (by decide) (by simp) ?_; intro v w1 HO HB HG)
  go_ret
  exact ⟨_, rfl, by simpa using HO.out, HB.out⟩
set_option maxRecDepth 100000 in
set_option maxHeartbeats 2000000 in
theorem clones_nil (w : World) : Calls Tryz.prog 84 #[.slice none 0 0] w (StsOut w []) := by
  have hnil : ∀ W : World, (binOp .eql 46 (.slice none 0 0) (.slice none 0 0)).run Tryz.prog W = .ok (.bool true) W := fun _ => rfl
  go_enter Tryz.func84, Tryz.ntmps84
  go_wp2
  go_ret
  exact ⟨_, rfl, World.ownsRow_nil _ _ _ _, Below.refl _ _⟩
/-- A slice of steps, nil or not. -/
def StsIn (w : World) (S : Nat → Prop) (l : List St) (A : Option Addr) (c : Nat) : Prop := (A = none → c = 0) ∧ l.length ≤ c ∧ Reads w S 3 A l.length (eSt.fl l)
theorem clones_any (l : List St) (A : Option Addr) (c : Nat) (w : World) (S : Nat → Prop) (h : StsIn w S l A c) (hn : l.length ≤ 65536) :
    Calls Tryz.prog 84 #[.slice A l.length c] w (StsOut w l) := by
  obtain ⟨h1, h2, h3⟩ := h
  cases A with
  | some ad => exact clones_some l ad c w S h3 hn
  | none =>
    obtain rfl := h1 rfl
    have hl : l = [] := List.length_eq_zero_iff.1 (Nat.le_zero.1 h2)
    subst hl
    exact clones_nil w
end Go.Proofs.YtfcegalckjeafaaGreatDoor
namespace Go.Proofs.YtfcegalckjeafaaGreatDoor
open Go.RowKit Go.BigFrame Go.Shelf
/-- A slice's header. -/
structure Hd where
  A : Option Addr
  n : Nat
  c : Nat
def Hd.v (h : Hd) : Value := .slice h.A h.n h.c
def eH : Enc Hd := ⟨fun h => [h.v], 1, fun _ => rfl, fun s u hu => by
  simp only [List.mem_cons, List.not_mem_nil, or_false] at hu
  subst hu; rfl⟩
theorem elH : El 31 46 1 24 := El.mk' (z := .slice none 0 0) Tryz.underlying31 (by kernel_rfl) rfl (by decide)
/-- Addresses under way, each in memory of its own; P: what is not theirs. -/
def AllJ (w0 : World) (B g : Nat) (P : Nat → Prop) (l : List (List St)) (W : World) : Prop := ∃ (v : Value) (hs : List Hd),
  hs.length = l.length ∧ Blk W g 31 #[v] ∧ W.ownsRow B 46 1 v l.length (eH.fl hs) ∧
  (∀ (i : Nat) (h : Hd) (a : List St), hs[i]? = some h → l[i]? = some a → W.ownsRow B 48 3 h.v a.length (eSt.fl a)) ∧
  (∀ (i j : Nat) (h h' : Hd) (b : Nat), hs[i]? = some h → hs[j]? = some h' → h.v.ownBlock = some b → h'.v.ownBlock = some b → i = j) ∧
  (∀ (i : Nat) (h : Hd) (b : Nat), hs[i]? = some h → h.v.ownBlock = some b → b ≠ g ∧ v.ownBlock ≠ some b ∧ ¬ P b) ∧ (∀ b, v.ownBlock = some b → b ≠ g ∧ ¬ P b) ∧ ¬ P g ∧ (∀ b, P b → b < W.heap.size) ∧ Below w0.heap.size w0 W
section
variable {w0 W W' : World} {B g : Nat} {P Q : Nat → Prop} {l : List (List St)}
theorem AllJ.less (h : AllJ w0 B g P l W) (hQ : ∀ b, Q b → P b) : AllJ w0 B g Q l W := by
  obtain ⟨v, hs, h1, h2, h3, h4, h5, h6, h7, h8, h9, h10⟩ := h
  exact ⟨v, hs, h1, h2, h3, h4, h5, fun i h b hi hb => ⟨(h6 i h b hi hb).1, (h6 i h b hi hb).2.1, fun hq => (h6 i h b hi hb).2.2 (hQ b hq)⟩, fun b hb => ⟨(h7 b hb).1, fun hq => (h7 b hb).2 (hQ b hq)⟩, fun hq => h8 (hQ g hq), fun b hb => h9 b (hQ b hb), h10⟩
theorem AllJ.own_at (h : AllJ w0 B g P l W) : ∀ b, P b → b < W.heap.size := h.choose_spec.choose_spec.2.2.2.2.2.2.2.2.1
theorem AllJ.below (h : AllJ w0 B g P l W) : Below w0.heap.size w0 W := h.choose_spec.choose_spec.2.2.2.2.2.2.2.2.2
theorem AllJ.more (h : AllJ w0 B g P l W) (hb : Below W.heap.size W W') : AllJ w0 B g (fun b => P b ∨ W.heap.size ≤ b ∧ b < W'.heap.size) l W' := by
  obtain ⟨v, hs, h1, h2, h3, h4, h5, h6, h7, h8, h9, h10⟩ := h
  refine ⟨v, hs, h1, h2.below hb h2.lt, own_below h3 hb, fun i h a hi ha => own_below (h4 i h a hi ha) hb, h5, fun i h b hi hb' => ⟨(h6 i h b hi hb').1, (h6 i h b hi hb').2.1, ?_⟩, fun b hb' => ⟨(h7 b hb').1, ?_⟩, ?_, ?_, h10.trans (hb.mono h10.size)⟩
  · rintro (hp | hp)
    · exact (h6 i h b hi hb').2.2 hp
    · have hil : i < l.length := by rw [← h1]; exact (List.getElem?_eq_some_iff.1 hi).1
      have := own_lt (h4 i h _ hi (List.getElem?_eq_getElem hil)) hb'; omega
  · rintro (hp | hp)
    · exact (h7 b hb').2 hp
    · have := own_lt h3 hb'; omega
  · rintro (hp | hp)
    · exact h8 hp
    · have := h2.lt; omega
  · rintro b (hp | hp)
    · have := h9 b hp; have := hb.size; omega
    · exact hp.2
end
theorem fl_single (h : Hd) : eH.fl [h] = [h.v] := by simp [Enc.fl, eH]
set_option maxRecDepth 100000 in
set_option maxHeartbeats 2000000 in
theorem all1_any (w0 : World) (B g : Nat) (P : Nat → Prop) (l : List (List St)) (a : List St) (v : Value) (w : World) (hJ : AllJ w0 B g P l w) (h0 : w0.heap.size ≤ g) (hB0 : w0.heap.size ≤ B) (hBw : B ≤ w.heap.size) (hn : l.length ≤ 100000)
    (ho : w.ownsRow B 48 3 v a.length (eSt.fl a)) (hp : ∀ b, v.ownBlock = some b → P b) :
    Calls Tryz.prog 45 #[v, .pointer (some ⟨g, 0, none⟩)] w fun e W' => (∃ u, e = .returned u) ∧ AllJ w0 B g (fun b => P b ∧ some b ≠ v.ownBlock) (l ++ [a]) W' ∧ Kp P w W' := by
  obtain ⟨hv, hs, q1, q2, q3, q4, q5, q6, q7, q8, q9, q10⟩ := hJ
  obtain ⟨A1, c1, rfl, -⟩ := own_shape q3
  obtain ⟨A2, c2, rfl, -⟩ := own_shape ho
  have HG := Lib.hid q2
  have HV := Lib.hid q3
  have gl := q2.lt
  have g0 : w.cell? ⟨g, 0, none⟩ = some (.slice A1 l.length c1) := q2.cell 0
  have f0 := q2.frozen 0
  have HOV := Lib.hid ho
  have HPV := Lib.hid hp
  have H1 := Lib.hid q1
  have H4 := Lib.hid q4
  have H5 := Lib.hid q5
  have H6 := Lib.hid q6
  have H7 := Lib.hid q7
  have H8 := Lib.hid q8
  have H9 := Lib.hid q9
  have H10 := Lib.hid q10
  have HBW := Lib.hid hBw
  have HHH := Lib.hid (show w0.heap.size ≤ g ∧ w0.heap.size ≤ B from ⟨h0, hB0⟩)
  clear q1 q2 q3 q4 q5 q6 q7 q8 q9 q10 ho hp hBw h0 hB0
  go_enter Tryz.func45, Tryz.ntmps45
  go_wp2_with (first
    | (at_builtin; refine wpList_app3 elH (o := ⟨some 6, _, _, _, _, _⟩) rfl rfl (n := l.length) (own_below HV.out ((Below.refl _ _).alloc (Nat.le_refl _) _)) rfl (reads_one w 46 (.slice A2 a.length c2)) rfl (by simp [Value.oneCell']) (by omega) (by decide) (by have := HBW.out; simp; omega) ?_; intro v5 w5 HO5 HG5 HK5; obtain ⟨A5, c5, rfl, -⟩ := own_shape HO5.out; have HG5' := Lib.hid (show World.grownBy _ w5 (Value.slice A1 l.length c1).ownBlock from HG5.out); have HK5' := Lib.hid (show (Value.slice A5 (l.length + 1) c5).ownBlock = (Value.slice A1 l.length c1).ownBlock ∨ (Value.slice A5 (l.length + 1) c5).ownBlock = some (w.alloc (.cells #[.slice A2 a.length c2] 46)).heap.size from HK5.out); have G5 := Lib.hid ((HG.out.below ((Below.refl w.heap.size w).alloc (Nat.le_refl _) (.cells #[.slice A2 a.length c2] 46)) gl).grown HG5'.out (fun e => (H7.out g e.symm).1 rfl)); have q0 : w5.cell? ⟨g, 0, none⟩ = some (.slice A1 l.length c1) := G5.out.cell 0; have q1 := G5.out.frozen 0; clear HG5 HK5 g0 f0)
    | fail)
  have HFIN : Hid (AllJ w0 B g (fun b => P b ∧ some b ≠ (Value.slice A2 a.length c2).ownBlock) (l ++ [a]) (w5.setCell ⟨g, 0, none⟩ (.slice A5 (l.length + 1) c5)) ∧ Kp P w (w5.setCell ⟨g, 0, none⟩ (.slice A5 (l.length + 1) c5))) := by
    have hB4 : Below w.heap.size w (w.alloc (.cells #[.slice A2 a.length c2] 46)) := (Below.refl w.heap.size w).alloc (Nat.le_refl _) _
    have hz4 : (w.alloc (.cells #[.slice A2 a.length c2] 46)).heap.size = w.heap.size + 1 := by simp
    have hv1 : ∀ b, (Value.slice A1 l.length c1).ownBlock = some b → B ≤ b ∧ b < w.heap.size ∧ b ≠ g ∧ ¬ P b := fun b e => ⟨own_base HV.out e, own_lt HV.out e, (H7.out b e).1, (H7.out b e).2⟩
    have hv2 : ∀ b, (Value.slice A2 a.length c2).ownBlock = some b → b < w.heap.size ∧ P b := fun b e => ⟨own_lt HOV.out e, HPV.out b e⟩
    have hC : Chg (fun b => b = g ∨ some b = (Value.slice A1 l.length c1).ownBlock) w (w5.setCell ⟨g, 0, none⟩ (.slice A5 (l.length + 1) c5)) := (Chg.of_below hB4).trans ((Chg.of_grown (F := fun b => b = g ∨ some b = (Value.slice A1 l.length c1).ownBlock) HG5'.out (fun j e => .inr e.symm)).trans (Chg.of_grown (F := fun b => b = g) (chg_set w5 g 0 _) (fun j e => (Option.some.inj e).symm)) (fun _ _ h => .inl h)) (fun _ _ h => h)
    have h8 := H8.out
    have hk5 : ∀ b, (Value.slice A5 (l.length + 1) c5).ownBlock = some b → (Value.slice A1 l.length c1).ownBlock = some b ∨ b = w.heap.size + 1 := fun b e => by
      rcases HK5'.out with h | h
      · exact .inl (h ▸ e)
      · rw [h, hz4] at e; exact .inr (Option.some.inj e).symm
    have hP : ∀ b, P b → b < w.heap.size ∧ b ≠ g ∧ (Value.slice A1 l.length c1).ownBlock ≠ some b := fun b hb => ⟨H9.out b hb, fun e => h8 (e ▸ hb), fun e => (hv1 b e).2.2.2 hb⟩
    have hold : ∀ b, b < w.heap.size → b ≠ g → (Value.slice A1 l.length c1).ownBlock ≠ some b → ¬ (b = g ∨ some b = (Value.slice A1 l.length c1).ownBlock) := fun b _ h1 h2 h => by
      rcases h with h | h
      · exact h1 h
      · exact h2 h.symm
    refine ⟨⟨.slice A5 (l.length + 1) c5, hs ++ [(⟨A2, a.length, c2⟩ : Hd)], by simp [H1.out], by simpa using G5.out.set_ 0 (.slice A5 (l.length + 1) c5), ?_, ?_, ?_, ?_, ?_, fun h => h8 h.1, fun b hb => Nat.lt_of_lt_of_le (hP b hb.1).1 hC.size, hC.below H10.out H10.out.size ?_⟩, hC.size, hC.keeps fun b hb hp => hold b hb (hP b hp).2.1 (hP b hp).2.2⟩
    · rw [List.length_append, eH.fl_app, fl_single]
      exact (Chg.of_grown (F := fun b => b = g) (chg_set w5 g 0 _) (fun j e => (Option.some.inj e).symm)).own HO5.out (fun j e h => by
        rcases hk5 j e with h' | h'
        · exact (hv1 j h').2.2.1 h
        · omega)
    · intro i h x hi hx
      rw [List.getElem?_append] at hi hx
      rw [H1.out] at hi
      by_cases hil : i < l.length
      · rw [if_pos hil] at hi hx
        exact hC.own (H4.out i h x hi hx) (fun j e => hold j (own_lt (H4.out i h x hi hx) e) (H6.out i h j hi e).1 (H6.out i h j hi e).2.1)
      · rw [if_neg hil] at hi hx
        have hi0 : i - l.length = 0 := by have := (List.getElem?_eq_some_iff.1 hx).1; simp at this; omega
        rw [hi0] at hi hx
        simp at hi hx
        subst hi hx
        exact hC.own HOV.out (fun j e => hold j (hv2 j e).1 (hP j (hv2 j e).2).2.1 (hP j (hv2 j e).2).2.2)
    · intro i j h h' b hi hj e e'
      rw [List.getElem?_append, H1.out] at hi hj
      by_cases hil : i < l.length
      · rw [if_pos hil] at hi
        by_cases hjl : j < l.length
        · rw [if_pos hjl] at hj
          exact H5.out i j h h' b hi hj e e'
        · rw [if_neg hjl] at hj
          have hj0 : j - l.length = 0 := by have := (List.getElem?_eq_some_iff.1 hj).1; simp at this; omega
          rw [hj0] at hj
          simp at hj
          subst hj
          exact absurd (hv2 b e').2 (H6.out i h b hi e).2.2
      · rw [if_neg hil] at hi
        have hi0 : i - l.length = 0 := by have := (List.getElem?_eq_some_iff.1 hi).1; simp at this; omega
        by_cases hjl : j < l.length
        · rw [if_pos hjl] at hj
          rw [hi0] at hi
          simp at hi
          subst hi
          exact absurd (hv2 b e).2 (H6.out j h' b hj e').2.2
        · rw [if_neg hjl] at hj
          have hj0 : j - l.length = 0 := by have := (List.getElem?_eq_some_iff.1 hj).1; simp at this; omega
          omega
    · intro i h b hi e
      rw [List.getElem?_append, H1.out] at hi
      by_cases hil : i < l.length
      · rw [if_pos hil] at hi
        obtain ⟨r1, r2, r3⟩ := H6.out i h b hi e
        have hbl := own_lt (H4.out i h _ hi (List.getElem?_eq_getElem hil)) e
        exact ⟨r1, fun e' => by rcases hk5 b e' with h' | h'; exact r2 h'; omega, fun h' => r3 h'.1⟩
      · rw [if_neg hil] at hi
        have hi0 : i - l.length = 0 := by have := (List.getElem?_eq_some_iff.1 hi).1; simp at this; omega
        rw [hi0] at hi
        simp at hi
        subst hi
        obtain ⟨r1, r2, r3⟩ := hP b (hv2 b e).2
        exact ⟨r2, fun e' => by rcases hk5 b e' with h' | h'; exact r3 h'; omega, fun h' => h'.2 e.symm⟩
    · intro b e
      rcases hk5 b e with h' | h'
      · exact ⟨(hv1 b h').2.2.1, fun h => (hv1 b h').2.2.2 h.1⟩
      · exact ⟨by omega, fun h => by have := (hP b h.1).1; omega⟩
    · have := HHH.out
      rintro b (h | h)
      · omega
      · have := (hv1 b h.symm).1; omega
  clear HO5 HG5' HK5' G5
  go_end0
  exact ⟨⟨_, rfl⟩, HFIN.out⟩
end Go.Proofs.YtfcegalckjeafaaGreatDoor
namespace Go.Proofs.YtfcegalckjeafaaGreatDoor
open Go.RowKit Go.BigFrame Go.Shelf
mutual
/-- The addresses of a tree that lies at an address, and of what lies in it. -/
def addrsT : T → List St → List (List St)
  | .mk k i t ks xs, a => a :: addrsL (.mk k i t ks xs) xs 0 a
/-- Those of its parts, from the j-th on. -/
def addrsL (x0 : T) : List T → Nat → List St → List (List St)
  | [], _, _ => []
  | x :: xs, j, a => addrsT x (a ++ [stepAt x0 j]) ++ addrsL x0 xs (j + 1) a
end
mutual
theorem addrsT_len : ∀ (x : T) (a : List St), (addrsT x a).length = x.nodes
  | .mk k i t ks xs, a => by rw [addrsT, T.nodes, List.length_cons, addrsL_len]
theorem addrsL_len (x0 : T) : ∀ (xs : List T) (j : Nat) (a : List St), (addrsL x0 xs j a).length = nodesL xs
  | [], j, a => by rw [addrsL, nodesL]; rfl
  | x :: xs, j, a => by rw [addrsL, nodesL, List.length_append, addrsT_len, addrsL_len]
end
theorem addrsT_eq (x : T) (a : List St) : addrsT x a = a :: addrsL x x.xs 0 a := by cases x; rw [addrsT]; rfl
theorem addrsL_snoc (x0 : T) : ∀ (xs : List T) (j : Nat) (a : List St) (x : T), addrsL x0 (xs ++ [x]) j a = addrsL x0 xs j a ++ addrsT x (a ++ [stepAt x0 (j + xs.length)])
  | [], j, a, x => by simp [addrsL]
  | y :: xs, j, a, x => by
    rw [List.cons_append, addrsL, addrsL, addrsL_snoc x0 xs (j + 1) a x, List.append_assoc]
    simp only [List.length_cons]
    rw [show j + 1 + xs.length = j + (xs.length + 1) by omega]
/-- under goes through all of a tree. -/
def UnderOk (x : T) : Prop := ∀ (v : V) (S : Nat → Prop) (a : List St) (A : Option Addr) (c g B : Nat) (w0 : World) (P : Nat → Prop) (l : List (List St)) (w : World), IsV w S x v → StsIn w S a A c → (∀ b, S b → P b) → AllJ w0 B g P l w → w0.heap.size ≤ g → w0.heap.size ≤ B → B ≤ w.heap.size → l.length + x.nodes ≤ 50000 → a.length + x.depth ≤ 10000 →
  Calls Tryz.prog 44 #[v.a, .slice A a.length c, .func (.func 45) #[] #[.pointer (some ⟨g, 0, none⟩)]] w fun e W' => (∃ u, e = .returned u) ∧ AllJ w0 B g P (l ++ addrsT x a) W' ∧ Kp P w W'
theorem own_sl {w : World} {B e sz n : Nat} {v : Value} {xs : List Value} (h : w.ownsRow B e sz v n xs) : ∃ A c, v = .slice A n c ∧ n ≤ c ∧ Reads w (fun b => B ≤ b ∧ b < w.heap.size) sz A n xs := by
  obtain ⟨A, c, rfl, hc⟩ := own_shape h
  exact ⟨A, c, rfl, hc, Reads.of_own h⟩
section
variable {ts e : TypeId} {size bytes : Nat} (E : El ts e size bytes) {ops : Array Oper} {o : Oper} {a : Act} {w : World} {Q : Exit → Act → World → Prop}
include E
/-- A full slice grows. -/
theorem step_grow {s x : Operand} {K : Act → World → Prop} {F : Prop} (hgd : o.guard = none) (ho : o.op = .call { callee := .builtin .append, args := #[s, x], argTypes := #[ts, ts] })
    {B : Nat → Prop} {ao : Option Addr} {n : Nat} {olds : List Value} (hs : a.eval s = .slice ao n n) (hro : Reads w B size ao n olds) (hnone : ao = none → n = 0) {C : Nat → Prop} {ad : Addr} {m c : Nat} {news : List Value} (hr : Reads w C size (some ad) m news) (hm : 0 < m) (hx : a.eval x = .slice (some ad) m c) (h1 : ∀ u ∈ news, u.oneCell' = true)
    (h63 : n + m ≤ 16777216) (hsz : bytes ≤ 1024)
    (h : ∀ v' w', Hid (w'.ownsRow w.heap.size e size v' (n + m) (olds ++ news)) → Hid (w.grownBy w' none) → K (a.put o.dst v') w') : if Region.wanted o (yielded ops a.tmps) = true then Oper.wp Tryz.prog o a w K Q else F := by
  obtain ⟨i, z, e1, e2, e3, e4, e5, e6, e7⟩ := E.ex
  refine step_append_grows hgd s x ts ho e i z size bytes e1 e2 e3 e4 e5 e6 e7 ao n n olds hs (fun h => ⟨hnone h, hnone h⟩) hro.1 (fun b hb j u hu => ?_) ad m c news hx hr.1 (fun j u hu => ?_) h1 (by omega) (by simp only [maxLen]; omega) ?_ (fun v' w' h2 h3 => h v' w' h2 h3)
  · have hn0 : 0 < n := by
      rcases Nat.eq_zero_or_pos n with h0 | h0
      · have := hro.1; rw [h0] at this; simp at this; subst this; simp at hu
      · exact h0
    obtain ⟨ad', e', -, hc⟩ := hro.2 hn0
    rw [hb] at e'; cases e'
    exact hc j u hu
  · obtain ⟨ad', e', -, hc⟩ := hr.2 hm
    cases e'
    exact hc j u hu
  · have := Nat.mul_le_mul h63 hsz
    omega
end
set_option maxRecDepth 100000 in
set_option maxHeartbeats 8000000 in
theorem under_at (x : T) (hk : x.k = 4 ∨ x.k = 5 ∨ x.k = 6 ∨ x.xs = [])
    (hg : ∀ (v : V) (S : Nat → Prop) (w : World) (j : Nat) (y : T), IsV w S x v → x.xs[j]? = some y → Calls Tryz.prog 56 #[v.a, (stepAt x j).a] w (GetOut w S (y, 0)))
    (he : ∀ (v : V) (S : Nat → Prop) (w : World), IsV w S x v → (∀ k, S k → k < w.heap.size) → EachAt w S x v) (hn : x.nodes ≤ 16384)
    (ih : ∀ (i : Nat) (y : T), x.xs[i]? = some y → UnderOk y) : UnderOk x := by
  intro v S a A c g B w0 P l w hv ha hSP hJ h0 hB0 hBw hl hd
  have HV0 := Lib.hid hv
  have HSL : Hid (∀ k, S k → k < w.heap.size) := Lib.hid fun k h => hJ.own_at k (hSP k h)
  have HCL := Lib.hid (fun W hW => clones_any a A c W S ⟨ha.1, ha.2.1, ha.2.2.keeps (.of_below (w' := W) hW)⟩ (by have := x.depth_pos; omega))
  have HST := Lib.hid (fun W (hV : IsV W S x v) (hS : ∀ k, S k → k < W.heap.size) => steps_any x v S W hn hk (fun W2 hW2 => by
    have := he v (fun k => S k ∧ k < W.heap.size) W2 (hV.bound.keeps (.of_below hW2)) (fun k h => Nat.lt_of_lt_of_le h.2 hW2.size)
    exact this))
  have HGT := Lib.hid (fun W j y => hg v S W j y)
  have HIH := Lib.hid ih
  have HSP := Lib.hid hSP
  have HJ := Lib.hid hJ
  have HH := Lib.hid (show w0.heap.size ≤ g ∧ w0.heap.size ≤ B ∧ B ≤ w.heap.size ∧ l.length + x.nodes ≤ 50000 ∧ a.length + x.depth ≤ 10000 from ⟨h0, hB0, hBw, hl, hd⟩)
  have hxl : x.xs.length ≤ 16384 := by have := x.nodes_eq; have := len_nodesL x.xs; omega
  have HA := Lib.hid ha
  have HAE := Lib.hid (addrsT_eq x a)
  have hal : (a.length : Int) ≤ 10000 := by omega
  clear hv hSP hJ h0 hB0 hBw hl hd hg he hn ih ha hk
  simp only [V.a, St.a] at HGT HST ⊢
  go_enter Tryz.func44, Tryz.ntmps44
  go_wp2_with fail
  refine calls_at fun W hW => ?_
  obtain ⟨hB, hz, hVB⟩ := boxes1 hW
  have HVB := Lib.hid (show VB W w.heap.size v from hVB)
  have HB := Lib.hid hB
  have HZ := Lib.hid hz
  have hJ1 := HJ.out.more hB
  clear hW hB hz hVB
  refine (HCL.out W HB.out).mono ?_
  rintro e w2 ⟨vc, rfl, hoc, hb2⟩
  have hJ2 := hJ1.more hb2
  have HB2 := Lib.hid (HB.out.trans (hb2.mono HB.out.size))
  have HVB2 := Lib.hid (show VB w2 w.heap.size v from Blk.below HVB.out hb2 (Blk.lt HVB.out))
  have hpc : ∀ b, vc.ownBlock = some b → W.heap.size ≤ b ∧ b < w2.heap.size := fun b e => ⟨own_base hoc e, own_lt hoc e⟩
  have HOC := Lib.hid hoc
  have HJ2 := Lib.hid hJ2
  have HPC := Lib.hid hpc
  clear hJ1 hJ2 hoc hb2 hpc HVB
  go_wp2_with fail
  have hh := HH.out
  have hzz := HZ.out
  have hb2s := HB2.out.size
  refine (all1_any w0 B g _ l a vc w2 HJ2.out hh.1 hh.2.1 (by omega) (by omega) ⟨HOC.out.1, HOC.out.2.imp id fun ⟨g, cap, cur, e1, e2, r⟩ => ⟨g, cap, cur, e1, by omega, r⟩⟩ (fun b e => .inr (HPC.out b e))).mono ?_
  rintro e w3 ⟨⟨u3, rfl⟩, hJ3, hk3⟩
  have hVB3 : VB w3 w.heap.size v := (hk3.2 _ (Blk.lt HVB2.out) (.inl (.inr ⟨Nat.le_refl _, by omega⟩))).trans HVB2.out
  have hV3 : IsV w3 S x v := (HV0.out.keeps (.of_below HB2.out)).keeps (fun k hk hs => hk3.2 k hk (.inl (.inl (HSP.out k hs))))
  have HVB3 := Lib.hid hVB3
  have HV3 := Lib.hid hV3
  have HK3 : Hid (Kp P w w3) := Lib.hid (Kp.trans (Kp.of_below HB2.out) ⟨hk3.1, fun k hk hs => hk3.2 k hk (.inl (.inl hs))⟩)
  have HJ3 := Lib.hid hJ3
  have HS3 : Hid (w2.heap.size ≤ w3.heap.size) := Lib.hid hk3.1
  clear hVB3 hV3 hJ3 hk3 hh hb2s HOC HJ2 HVB2
  go_wp2_with (first
    | (refine wpList_ldl rfl (o := ⟨some 14, _, _, _, _, _⟩) rfl rfl v.l isV (fun j u hu => by have := Blk.cell HVB3.out j; rw [at_zero, this]; simpa using hu) ?_)
    | fail)
  refine (HST.out w3 HV3.out (fun k h => by have := HSL.out k h; have := HB2.out.size; have := HS3.out; omega)).mono ?_
  rintro e w4 ⟨vs, rfl, hos, hb4⟩
  obtain ⟨A4, c4, rfl, hc4, hr4⟩ := own_sl hos
  obtain ⟨N, hN⟩ : ∃ N, N = (stepsT x).length := ⟨_, rfl⟩
  have hNx : N = x.xs.length := by rw [hN, stepsT_len]
  rw [← hN] at hc4 hr4
  rw [← hN]
  have hj4 : AllJ w0 B g (fun b => P b ∨ b = w.heap.size ∨ w3.heap.size ≤ b ∧ b < w4.heap.size) (l ++ [a]) w4 := (HJ3.out.more hb4).less (fun b h => by
    have i1 := HB2.out.size
    have i2 := HS3.out
    have i3 := HZ.out
    rcases h with h | h | h
    · exact .inl ⟨.inl (.inl h), fun e => by have := HPC.out b e.symm; have := HJ.out.own_at b h; omega⟩
    · exact .inl ⟨.inl (.inr ⟨by omega, by omega⟩), fun e => by have := HPC.out b e.symm; omega⟩
    · exact .inr h)
  have HJ4 := Lib.hid hj4
  have HB4 := Lib.hid hb4
  have HR4 := Lib.hid hr4
  have HNX := Lib.hid hNx
  have hN16 : N ≤ 16384 := by omega
  have HC4 := Lib.hid hc4
  have HK4 : Hid (Kp P w w4) := Lib.hid (Kp.trans HK3.out (Kp.of_below hb4))
  have HVB4 : Hid (VB w4 w.heap.size v) := Lib.hid (Blk.below HVB3.out hb4 (Blk.lt HVB3.out))
  have HV4 : Hid (IsV w4 S x v) := Lib.hid (HV3.out.keeps (.of_below hb4))
  have HN := Lib.hid hN
  have HSZ4 : Hid (w.heap.size + 1 ≤ w3.heap.size ∧ w3.heap.size ≤ w4.heap.size) := Lib.hid (by have := HB2.out.size; have := HS3.out; have := HZ.out; have := hb4.size; have := Blk.lt HVB3.out; omega)
  clear hj4 hb4 hr4 hNx hc4 hos hN HJ3 HVB3 HV3 HK3 HST HCL hzz HB HB2 HPC HS3
  go_wp2_with fail
  go_loopw [17] (fun i wr => ∃ k : Nat, k ≤ N ∧ i = .int .i64 k ∧ Hid (AllJ w0 B g (fun b => P b ∨ b = w.heap.size ∨ w3.heap.size ≤ b ∧ b < w4.heap.size) (l ++ [a] ++ addrsL x (x.xs.take k) 0 a) wr) ∧ Hid (Kp (fun b => P b ∨ b = w.heap.size ∨ w3.heap.size ≤ b ∧ b < w4.heap.size) w4 wr)) (fun i _ => (N - intOf i).toNat)
  case atStart => exact ⟨0, Nat.zero_le _, rfl, by rw [List.take_zero, addrsL, List.append_nil]; exact HJ4, Kp.refl⟩
  case round =>
    obtain ⟨k, hk, rfl, hJr, hKr⟩ := hrel
    clear HJ4
    by_cases hlt : k < N
    · have hkx : k < x.xs.length := by have := HNX.out; omega
      obtain ⟨y, hy⟩ : ∃ y, x.xs[k]? = some y := ⟨_, List.getElem?_eq_getElem hkx⟩
      have hst : (stepsT x)[k]? = some (stepAt x k) := by rw [stepsT, List.getElem?_map, List.getElem?_range hkx]; rfl
      obtain ⟨s, hs⟩ : ∃ s, s = stepAt x k := ⟨_, rfl⟩
      rw [← hs] at hst
      have hrr : Reads wr (fun b => w3.heap.size ≤ b ∧ b < w4.heap.size) eSt.sz A4 N (eSt.fl (stepsT x)) := HR4.out.keeps (fun b hb hs => hKr.out.2 b hb (.inr (.inr hs)))
      obtain ⟨ad, rfl, -, hcc⟩ := eSt.cells hrr hst hlt
      have HCC := Lib.hid hcc
      have hVr : VB wr w.heap.size v := (hKr.out.2 _ (Blk.lt HVB4.out) (.inr (.inl rfl))).trans HVB4.out
      have HVr := Lib.hid hVr
      have HIVr : Hid (IsV wr S x v) := Lib.hid (HV4.out.keeps (fun b hb h => hKr.out.2 b hb (.inl (HSP.out b h))))
      have HY := Lib.hid hy
      have HGE := Lib.hid (fun W hW => HGT.out W k y hW hy)
      rw [← hs] at HGE
      have HSS := Lib.hid hs
      have hki : (0 : Int) ≤ (k : Int) := by omega
      have hki2 : (k : Int) < (N : Int) := by omega
      clear hst hrr hcc hVr hy hs
      go_wp2_with (first
        | (refine wpList_ldl rfl (o := ⟨some 20, _, _, _, _, _⟩) rfl rfl (eSt.l s) isSt HCC.out ?_)
        | (refine wpList_stE (E := eSt) (o := ⟨none, .store 48 _ _, _, _, _, _⟩) rfl rfl infoSt rfl s (Blk.new wr _ #[.int .i64 0, .int .i64 0, .string ⟨#[]⟩]) rfl rfl ?_; intro w5 HR5 ho5 hB5; have HB5 := Lib.hid (hB5 _ _ ((Below.refl wr.heap.size wr).alloc (Nat.le_refl _) (.cells #[.int .i64 0, .int .i64 0, .string ⟨#[]⟩] 48)) (Nat.le_refl _)); have HV5 := Lib.hid (show VB w5 w.heap.size v from Blk.below HVr.out HB5.out (Blk.lt HVr.out)); clear ho5 hB5)
        | (refine wpList_ldl rfl (o := ⟨some 22, _, _, _, _, _⟩) rfl rfl v.l isV (fun j u hu => by have := Blk.cell HV5.out j; rw [at_zero, this]; simpa using hu) ?_)
        | (refine wpList_ldl rfl (o := ⟨some 23, _, _, _, _, _⟩) rfl rfl (eSt.l s) isSt (fun j u hu => by have := Blk.cell HR5.out j; rw [at_zero, this]; simpa using hu) ?_)
        | fail)
      refine (HGE.out w5 (HIVr.out.keeps (.of_below HB5.out))).mono ?_
      rintro e w6 ⟨u, rfl, hu, hb6⟩
      have HU6 := Lib.hid hu
      have HB6 := Lib.hid (HB5.out.trans (hb6.mono HB5.out.size))
      have HS6 := Lib.hid (show EB eSt 48 w6 wr.heap.size s from HR5.out.below hb6 HR5.out.lt)
      have hsl := HS6.out.lt
      clear hu hb6 HR5 HB5 HV5 HGE HCC
      simp only [V.a]
      go_wp2_with (first
        | (refine wpList_stE (E := eV) (o := ⟨none, .store 42 _ _, _, _, _, _⟩) rfl rfl infoV11 rfl u (Blk.new w6 _ V.z.l.toArray) rfl rfl ?_; intro w7 HR7 ho7 hB7; have HB7 := Lib.hid (hB7 _ _ ((Below.refl w6.heap.size w6).alloc (Nat.le_refl _) (.cells V.z.l.toArray 42)) (Nat.le_refl _)); clear ho7 hB7)
        | fail)
      have HB67 := Lib.hid (HB6.out.trans (HB7.out.mono HB6.out.size))
      have HS7 := Lib.hid (show EB eSt 48 w7 wr.heap.size s from HS6.out.below HB7.out hsl)
      have hs7 := HB7.out.size
      have hAr : StsIn w7 S a A c := ⟨HA.out.1, HA.out.2.1, ((HA.out.2.2.keeps (fun b hb h => HK4.out.2 b hb (HSP.out b h))).keeps (fun b hb h => hKr.out.2 b hb (.inl (HSP.out b h)))).keeps (.of_below HB67.out)⟩
      obtain ⟨hA1, hA2, hA3⟩ := hAr
      have hc1 : (a.length : Int) ≤ (c : Int) := by omega
      have hc0 : (0 : Int) ≤ (a.length : Int) := by omega
      have HA3 := Lib.hid hA3
      have HA1 : Hid (A = none → a.length = 0) := Lib.hid fun h => by have := hA1 h; omega
      clear hA1 hA3 hA2
      have hS7 := HS7.out
      refine wp_region_sq 11 [(0, true), (1, true), (2, true), (3, true), (4, true), (5, true), (6, true), (7, true), (10, true), (8, false), (9, false)] (fun w' => VB w' w6.heap.size u ∧ EB eSt 48 w' wr.heap.size s) (by kernel_rfl) (by kernel_rfl) ⟨HR7.out.drew, HS7.out.drew⟩ (fun hS => ?_)
      refine sq_t (o := ⟨_, _, _, _, _, _⟩) (v := V.a u) rfl (by rfl) (fun w' hw' => exec_load_V rfl (by simp [Act.eval]) hw'.1) ?_
      try simp only [Act.put, List.setIfInBounds_toArray, List.set_cons_zero, List.set_cons_succ]
      iterate 5 (refine sq_t (o := ⟨_, _, _, _, _, _⟩) (v := ?_) rfl (by rfl) ?_ ?_; rotate_left; (· (intro w hSw; go_simp; try with_reducible rfl)); try simp only [Act.put, List.setIfInBounds_toArray, List.set_cons_zero, List.set_cons_succ])
      refine sq_t (o := ⟨_, _, _, _, _, _⟩) (v := .slice A a.length a.length) rfl (by rfl) (fun w' hw' => ?_) ?_
      · go_simp
        try with_reducible rfl
      try simp only [Act.put, List.setIfInBounds_toArray, List.set_cons_zero, List.set_cons_succ]
      refine sq_t (o := ⟨_, _, _, _, _, _⟩) (v := .agg (eSt.l s).toArray) rfl (by rfl) (fun w' hw' => exec_load_list (cs := eSt.l s) (ad := ⟨wr.heap.size, 0, none⟩) isSt rfl (by simp [Act.eval]) (fun j u hu => by have := Blk.cell hw'.2 j; rw [addr_plain, this]; simpa using hu)) ?_
      try simp only [Act.put, List.setIfInBounds_toArray, List.set_cons_zero, List.set_cons_succ]
      iterate 1 (refine sq_t (o := ⟨_, _, _, _, _, _⟩) (v := ?_) rfl (by rfl) ?_ ?_; rotate_left; (· (intro w hSw; go_simp; try with_reducible rfl)); try simp only [Act.put, List.setIfInBounds_toArray, List.set_cons_zero, List.set_cons_succ])
      refine sq_c rfl (fun K hK => ?_)
      go_simp
      have hb8 : Below w7.heap.size w7 (w7.drew.alloc (.cells (eSt.l s).toArray 48)) := (Below.refl w7.heap.size w7).drew.alloc (Nat.le_refl _) _
      have hz8 : (w7.drew.alloc (.cells (eSt.l s).toArray 48)).heap.size = w7.heap.size + 1 := by simp
      refine hK.out _ _ ⟨Blk.below HR7.out hb8 (Blk.lt HR7.out), HS7.out.below hb8 HS7.out.lt⟩ (fun hS => ?_)
      clear hK K
      try simp only [Act.put, List.setIfInBounds_toArray, List.set_cons_zero, List.set_cons_succ]
      refine sq_c rfl (fun K hK => ?_)
      refine step_grow elSt rfl rfl rfl (HA3.out.keeps (.of_below hb8)) HA1.out (reads_one_E eSt w7.drew 48 s) (by omega) rfl (eSt.fl_one _) (by omega) (by decide) (fun v9 w9 HO9 HG9 => ?_)
      have hb9 : Below w7.heap.size w7 w9 := hb8.grown HG9.out (by have := hb8.size; omega) (fun k e => by cases e)
      refine hK.out _ _ ⟨Blk.below HR7.out hb9 (Blk.lt HR7.out), HS7.out.below hb9 HS7.out.lt⟩ (fun hS => ?_)
      clear hK K
      try simp only [Act.put, List.setIfInBounds_toArray, List.set_cons_zero, List.set_cons_succ]
      obtain ⟨A9, c9, rfl, hc9, hr9⟩ := own_sl HO9.out
      have HO9' : Hid (w9.ownsRow (w7.heap.size + 1) 48 3 (.slice A9 (a.length + 1) c9) (a.length + 1) (eSt.fl a ++ eSt.fl [s])) := by rw [← hz8]; exact HO9
      have HB9 := Lib.hid (HB67.out.trans (hb9.mono HB67.out.size))
      have HU9 : Hid (IsV w9 S y u) := Lib.hid ((HU6.out.keeps (.of_below HB7.out)).keeps (.of_below hb9))
      have HR9 := Lib.hid hr9
      have hz9 := hb9.size
      have HC9 := Lib.hid hc9
      have HZ9 : Hid (w7.heap.size + 1 ≤ w9.heap.size) := Lib.hid (by have := HG9.out.size; simp at this; omega)
      simp only [wpSq, List.drop_succ_cons, List.drop_zero]
      clear hS hS7 hb8 hz8 hb9 hr9 hc9 HO9 HG9 HR7 HS7 HA3 HA1 HU6 HS6 hsl hs7
      go_wp2_with fail
      have hh := HH.out
      have i1 := HSZ4.out
      have i2 := hKr.out.1
      have i3 := HB9.out.size
      have i4 := HZ9.out
      obtain ⟨t1, t2⟩ := nodesL_take HY.out
      have hnx := x.nodes_eq
      have hdx := x.depth_eq
      have hdy := depthL_mem (List.mem_of_getElem? HY.out)
      have hlL : (l ++ [a] ++ addrsL x (x.xs.take k) 0 a).length = l.length + 1 + nodesL (x.xs.take k) := by simp [addrsL_len]; omega
      have hsts : StsIn w9 (fun b => S b ∨ wr.heap.size ≤ b ∧ b < w9.heap.size) (a ++ [s]) A9 c9 := by
        have hl1 : (a ++ [s]).length = a.length + 1 := by simp
        have hr9' : Reads w9 (fun b => S b ∨ wr.heap.size ≤ b ∧ b < w9.heap.size) 3 A9 (a.length + 1) (eSt.fl a ++ eSt.fl [s]) := HR9.out.more fun b hb => .inr ⟨by have := HB67.out.size; have := hb.1; simp at this; omega, hb.2⟩
        refine ⟨fun h => ?_, by rw [hl1]; exact HC9.out, by rw [hl1, eSt.fl_app]; exact hr9'⟩
        obtain ⟨g', e, -⟩ := own_some HO9'.out (by omega)
        rw [h] at e; cases e
      have hcl := HIH.out k y HY.out u (fun b => S b ∨ wr.heap.size ≤ b ∧ b < w9.heap.size) (a ++ [s]) A9 c9 g B w0 _ (l ++ [a] ++ addrsL x (x.xs.take k) 0 a) w9 (HU9.out.more fun b h => .inl h) hsts (fun b h => h.imp (fun h => .inl (HSP.out b h)) id) (hJr.out.more HB9.out) hh.1 hh.2.1 (by omega) (by rw [hlL]; omega) (by simp; omega)
      rw [show (a ++ [s]).length = a.length + 1 by simp] at hcl
      simp only [V.a] at hcl
      refine hcl.mono ?_
      rintro e w10 ⟨⟨u10, rfl⟩, hJ10, hK10⟩
      have hfin : Hid (AllJ w0 B g (fun b => P b ∨ b = w.heap.size ∨ w3.heap.size ≤ b ∧ b < w4.heap.size) (l ++ [a] ++ addrsL x (x.xs.take (k + 1)) 0 a) w10) := by
        have e1 : x.xs.take (k + 1) = x.xs.take k ++ [y] := by rw [List.take_add_one, HY.out]; rfl
        have e2 : (x.xs.take k).length = k := by rw [List.length_take]; omega
        rw [e1, addrsL_snoc, Nat.zero_add, e2, ← HSS.out, ← List.append_assoc]
        exact hJ10.less fun b h => .inl h
      have hfk : Hid (Kp (fun b => P b ∨ b = w.heap.size ∨ w3.heap.size ≤ b ∧ b < w4.heap.size) w4 w10) := Kp.trans hKr.out (Kp.trans (Kp.of_below HB9.out) ⟨hK10.1, fun b hb h => hK10.2 b hb (.inl h)⟩)
      clear hcl hsts hJ10 hK10 hh t1 t2 i1 i2 i3 i4 hnx hdx hdy hlL
      go_wp2_with fail
      refine NoPanic.normal ?_
      go_wp2_with fail
      exact ⟨⟨k + 1, by omega, by go_num, hfin, hfk⟩, by simp [intOf]; omega⟩
    · have hfin : Hid (AllJ w0 B g P (l ++ addrsT x a) wr) := by
        have e1 : x.xs.take k = x.xs := List.take_of_length_le (by have := HNX.out; omega)
        have := hJr.out
        rw [e1] at this
        rw [HAE.out]
        rw [List.append_assoc] at this
        exact this.less fun b h => .inl h
      have hfk : Hid (Kp P w wr) := Kp.trans HK4.out ⟨hKr.out.1, fun b hb h => hKr.out.2 b hb (.inl h)⟩
      go_wp2
      go_end0
      exact ⟨⟨_, rfl⟩, hfin.out, hfk.out⟩
end Go.Proofs.YtfcegalckjeafaaGreatDoor
