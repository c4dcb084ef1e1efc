/-
  Parts of the proof that AddrTold,AddrBegins calls on: Vp, Vm.
-/
import Derived.Test.YtfcegalckjeafaaGreatDoorM116
namespace Go.Proofs.YtfcegalckjeafaaGreatDoor
open Go.RowKit Go.BigFrame Go.Shelf
set_option maxRecDepth 100000 in
set_option maxHeartbeats 2000000 in
theorem check_ok (k i : Int) (t : List UInt8) (w : World) (h : Sc k i t) : Calls Tryz.prog 169 #[.agg #[.int .i64 k, .int .i64 i, .string ⟨t.toArray⟩]] w fun e w' => e = .returned (.int .i64 0) ∧ Below w.heap.size w w' := by
  rcases h with ⟨rfl, rfl, rfl⟩ | ⟨rfl, rfl | rfl, rfl⟩ | ⟨rfl, rfl, h1, h2⟩ | ⟨rfl, rfl⟩
  · go_enter Tryz.func169, Tryz.ntmps169
    go_wp2
    go_ret
    exact ⟨rfl, ((Below.refl _ _).alloc (Nat.le_refl _) _).alloc (by simp) _⟩
  · go_enter Tryz.func169, Tryz.ntmps169
    go_wp2
    go_ret
    exact ⟨rfl, ((Below.refl _ _).alloc (Nat.le_refl _) _).alloc (by simp) _⟩
  · go_enter Tryz.func169, Tryz.ntmps169
    go_wp2
    go_ret
    exact ⟨rfl, ((Below.refl _ _).alloc (Nat.le_refl _) _).alloc (by simp) _⟩
  · go_enter Tryz.func169, Tryz.ntmps169
    go_wp2
    go_ret
    exact ⟨rfl, ((Below.refl _ _).alloc (Nat.le_refl _) _).alloc (by simp) _⟩
  · go_enter Tryz.func169, Tryz.ntmps169
    go_wp2
    go_ret
    exact ⟨rfl, ((Below.refl _ _).alloc (Nat.le_refl _) _).alloc (by simp) _⟩
/-- A tree's own five cells. -/
theorem own_leaf (k i : Int) (t : List UInt8) (kA xA : Option Addr) (kc xc : Nat) (w : World) (h : Sc k i t) : Calls Tryz.prog 133 #[.agg #[.int .i64 k, .int .i64 i, .string ⟨t.toArray⟩, .slice kA 0 kc, .slice xA 0 xc]] w fun e w' => e = .returned (.int .i64 0) ∧ Below w.heap.size w w' := by
  have HC := Lib.hid (fun W => check_ok k i t W h)
  have hk : k = 0 ∨ k = 1 ∨ k = 2 ∨ k = 3 := by rcases h with ⟨h, _⟩ | ⟨h, _⟩ | ⟨h, _⟩ | ⟨h, _⟩ <;> omega
  clear h
  rcases hk with rfl | rfl | rfl | rfl
  all_goals
    go_enter Tryz.func133, Tryz.ntmps133
    go_wp2_with fail
    refine (HC.out _).mono ?_
    rintro e w1 ⟨rfl, hb⟩
    have HB := Lib.hid (((Below.refl w.heap.size w).alloc (Nat.le_refl _) (.cells _ _)).trans (hb.mono (by simp)))
    clear hb
    go_wp2
    go_ret
    exact ⟨rfl, HB.out⟩
set_option maxHeartbeats 2000000 in
theorem own_vec (kA xA : Option Addr) (xn kc xc : Nat) (w : World) : Calls Tryz.prog 133 #[.agg #[.int .i64 4, .int .i64 0, .string ⟨#[]⟩, .slice kA 0 kc, .slice xA xn xc]] w fun e w' => e = .returned (.int .i64 0) ∧ Below w.heap.size w w' := by
  go_enter Tryz.func133, Tryz.ntmps133
  go_wp2
  go_ret
  exact ⟨rfl, (Below.refl _ _).alloc (Nat.le_refl _) _⟩
end Go.Proofs.YtfcegalckjeafaaGreatDoor
namespace Go.Proofs.YtfcegalckjeafaaGreatDoor
open Go.RowKit Go.BigFrame Go.Shelf
section
variable {ts e : TypeId} {size bytes : Nat} (E : El ts e size bytes) {ops : Array Oper} {rest : List Oper} {o : Oper} {a : Act} {w : World} {Q : Exit → Act → World → Prop}
include E
theorem wpList_app3 {s x : Operand} (hgd : o.guard = none) (ho : o.op = .call { callee := .builtin .append, args := #[s, x], argTypes := #[ts, ts] })
    {base : Nat} {v : Value} {n : Nat} {xs : List Value} (hown : w.ownsRow base e size v n xs) (hs : a.eval s = v)
    {B : Nat → Prop} {A : Option Addr} {m c : Nat} {news : List Value} (hr : Reads w B size A m news) (hx : a.eval x = .slice A m c) (h1 : ∀ u ∈ news, u.oneCell' = true)
    (h63 : n + m ≤ 16777216) (hsz : bytes ≤ 1024) (hbase : base ≤ w.heap.size)
    (h : ∀ v' w', Hid (w'.ownsRow base e size v' (n + m) (xs ++ news)) → Hid (w.grownBy w' v.ownBlock) → Hid (v'.ownBlock = v.ownBlock ∨ v'.ownBlock = some w.heap.size) → wpList Tryz.prog ops Q rest (a.put o.dst v') w') : wpList Tryz.prog ops Q (o :: rest) a w := by
  obtain ⟨i, z, e1, e2, e3, e4, e5, e6, e7⟩ := E.ex
  refine wpList_append_any w hgd s x ts ho base e i z size bytes e1 e2 e3 e4 e5 e6 e7 v n xs hs hown B A m c news hx hr h1 (by simp only [maxLen]; omega) ?_ hbase (fun v' w' h2 h3 h4 => h v' w' h2 h3 h4)
  have := Nat.mul_le_mul h63 hsz
  omega
end
theorem own_lt {W : World} {base e size k : Nat} {v : Value} {xs : List Value} (h : W.ownsRow base e size v k xs) {j : Nat} (hj : v.ownBlock = some j) : j < W.heap.size := by
  rcases h.2 with ⟨rfl, _⟩ | ⟨g, cap, cur, rfl, _, hgb, _⟩
  · simp [Value.ownBlock] at hj
  · obtain rfl : g = j := by simpa [Value.ownBlock] using hj
    exact (Array.getElem?_eq_some_iff.1 hgb).1
theorem own_grown {W W' : World} {base e size k : Nat} {v : Value} {xs : List Value} {r : Option Nat} (h : W.ownsRow base e size v k xs) (hg : W.grownBy W' r) (hr : ∀ j, r = some j → j < base) : W'.ownsRow base e size v k xs :=
  ⟨h.1, h.2.imp id fun ⟨g, cap, cur, e1, e2, e3, r'⟩ => ⟨g, cap, cur, e1, e2, (hg.block g (Array.getElem?_eq_some_iff.1 e3).1 (fun e => by have := hr g e.symm; omega)).trans e3, r'⟩⟩
mutual
/-- A tree of scalars and vectors that may be. -/
def Pl : T → Prop | .mk k i t ks xs => (Sc k i t ∧ ks = [] ∧ xs = []) ∨ (k = 4 ∧ i = 0 ∧ t = [] ∧ ks = [] ∧ Pls xs)
def Pls : List T → Prop | [] => True | x :: xs => Pl x ∧ Pls xs
end
theorem Pls.at_ : ∀ {xs : List T}, Pls xs → ∀ {i : Nat} {x : T}, xs[i]? = some x → Pl x
  | [], _, i, x, h => by simp at h
  | y :: xs, hp, i, x, h => by
    rw [Pls] at hp
    cases i with
    | zero => simp at h; subst h; exact hp.1
    | succ i => exact Pls.at_ hp.2 (by simpa using h)
def MakeOk (t : T) : Prop := ∀ (r : TR) (S : Nat → Prop) (g n d : Nat) (cs cb : Int) (w : World), IsTr w S t r → ¬ S g → Blk w g 133 #[.int .i64 (n : Int)] → n + t.nodes ≤ 16384 → d + t.depth ≤ 65 →
  Calls Tryz.prog 86 #[.pointer (some ⟨g, 0, none⟩), .agg #[.int .u64 cs, .int .i64 cb], r.a, .int .i64 (d : Int)] w fun e w' => ∃ v, e = .returned (.tuple #[V.a v, .int .i64 0]) ∧ IsV w' (fun k => w.heap.size ≤ k) t v ∧ Blk w' g 133 #[.int .i64 ((n + t.nodes : Nat) : Int)] ∧ w.grownBy w' (some g)
set_option maxRecDepth 100000 in
set_option maxHeartbeats 4000000 in
theorem make_leaf (k i : Int) (t : List UInt8) (h : Sc k i t) : MakeOk (.mk k i t [] []) := by
  intro r S g n d cs cb w ht hSg hg hn hd
  rw [IsTr] at ht
  obtain ⟨rk, ri, rt, kA, kn, kc, xA, xn, xc⟩ := r
  obtain ⟨e1, e2, e3, e4, -, -, e5, -, -⟩ := ht
  simp only [List.length_nil] at e1 e2 e3 e4 e5
  subst e1 e2 e3 e4 e5
  have hn1 : (n : Int) + 1 ≤ 16384 := by simp [T.nodes, nodesL] at hn; omega
  have hd1 : (d : Int) ≤ 64 := by simp [T.depth, depthL] at hd; omega
  have hk4 : rk < 4 := by rcases h with ⟨h, _⟩ | ⟨h, _⟩ | ⟨h, _⟩ | ⟨h, _⟩ <;> omega
  have HO := Lib.hid (fun W => own_leaf rk ri rt kA xA kc xc W h)
  have HL := Lib.hid (fun W => leaf_any rk ri rt W)
  have HV : Hid (∀ W S, IsV W S (.mk rk ri rt [] []) ⟨rk, ri, rt, rk, none, 0, 0, 0, none, 0, 0⟩) := Lib.hid (fun W S => by rw [IsV]; exact .inl ⟨hk4, h, rfl, rfl, rfl⟩)
  have hgl := hg.lt
  have hgl1 : g < w.heap.size + 1 := by omega
  have hgl2 : g < w.heap.size + 1 + 1 := by omega
  have g0 := hg.cell 0
  have gf := hg.frozen 0
  have HG := Lib.hid hg
  simp only [List.getElem?_toArray, List.getElem?_cons_zero] at g0
  clear h hn hd hSg hg
  simp only [TR.a]
  go_enter Tryz.func86, Tryz.ntmps86
  go_wp2_with fail
  refine calls_at fun W hW => ?_
  obtain ⟨hB, hz, HCf, HT, HO8⟩ := boxes3 hW
  have hsz : (w.setCell ⟨g, 0, none⟩ (.int .i64 ((n : Int) + 1))).heap.size = w.heap.size := by simp
  have hG1 : Blk (w.setCell ⟨g, 0, none⟩ (.int .i64 ((n : Int) + 1))) g 133 #[.int .i64 ((n : Int) + 1)] := by simpa using HG.out.set_ 0 (.int .i64 ((n : Int) + 1))
  have hch := chg_trans (chg_set w g 0 (.int .i64 ((n : Int) + 1))) (chg_below hB)
  have hG2 := hG1.below hB hG1.lt
  rw [hsz] at hz HCf HT HO8
  have KEEP : Hid (∀ W', Below W.heap.size W W' → w.grownBy W' (some g) ∧ Blk W' g 133 #[.int .i64 ((n : Int) + 1)] ∧ Blk W' (w.heap.size + 1) 28 #[.int .i64 rk, .int .i64 ri, .string ⟨rt.toArray⟩, .slice kA 0 kc, .slice xA 0 xc] ∧ Blk W' (w.heap.size + 1 + 1) 42 V.z.l.toArray) := Lib.hid fun W' h => ⟨chg_trans hch (chg_below h), hG2.below h hG2.lt, HT.below h HT.lt, HO8.below h HO8.lt⟩
  have HZ := Lib.hid hz
  clear hW hB hz HCf HT HO8 hsz hG1 hch hG2 g0 gf HG hgl1 hgl2
  refine (HO.out _).mono ?_
  rintro e w1 ⟨rfl, hb1⟩
  obtain ⟨-, -, kt, -⟩ := KEEP.out _ hb1
  have c0 := kt.cell 0
  have c1 := kt.cell 1
  have c2 := kt.cell 2
  simp only [List.getElem?_toArray, List.getElem?_cons_succ, List.getElem?_cons_zero] at c0 c1 c2
  clear kt
  go_wp2_with fail
  refine (HL.out _).mono ?_
  rintro e w2 ⟨rfl, hb2⟩
  have hb12 := hb1.trans (hb2.mono hb1.size)
  obtain ⟨kc1, kg, -, ko⟩ := KEEP.out _ hb12
  have KO := Lib.hid ko
  have KG := Lib.hid kg
  have KC := Lib.hid kc1
  clear ko kg kc1 hb12 hb1 hb2 c0 c1 c2 KEEP HL HO
  go_wp2_with (refine wpList_stE (E := eV) rfl rfl infoV11 rfl ⟨rk, ri, rt, rk, none, 0, 0, 0, none, 0, 0⟩ KO.out rfl rfl ?_; intro w8 HR8 ho8 hB8)
  have hgf : Blk w8 g 133 #[.int .i64 ((n + (T.mk rk ri rt [] []).nodes : Nat) : Int)] := by
    rw [show ((n + (T.mk rk ri rt [] []).nodes : Nat) : Int) = (n : Int) + 1 by simp [T.nodes, nodesL]]
    exact (ho8 g (by omega)).trans KG.out
  exact ret_ct (p := 8) (u := 9) rfl rfl rfl HR8.out (by kernel_rfl) rfl ⟨_, rfl, HV.out _ _, hgf, chg_tail KC.out (hB8 _ _ (Below.refl _ _) (by omega))⟩
end Go.Proofs.YtfcegalckjeafaaGreatDoor
