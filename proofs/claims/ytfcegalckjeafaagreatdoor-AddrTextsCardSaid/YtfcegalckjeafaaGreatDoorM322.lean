/-
  Parts of the proof that AddrBegins,AddrTexts calls on: Ty, Tz.
-/
import Derived.Deep.CutRange
import Derived.Test.YtfcegalckjeafaaGreatDoorM318
namespace Go.Proofs.YtfcegalckjeafaaGreatDoor
open Go.RowKit Go.BigFrame Go.Shelf
theorem elTx : El 25 9 1 16 := El.mk' (z := .string ⟨#[]⟩) Tryz.underlying25 (by kernel_rfl) rfl (by decide)
/-- A tree made. -/
def TrOut (w : World) (x : T) (e : Ending) (w' : World) : Prop := ∃ r, e = .returned (TR.a r) ∧ IsTr w' (fun b => w.heap.size ≤ b) x r ∧ Below w.heap.size w w'
/-- A tree under way: so many items, their keys. -/
def TreeJ (w0 : World) (n₀ g1 g2 : Nat) (k i : Int) (t : List UInt8) (v : V) (ys : List T) (ls : List (List UInt8)) (W : World) : Prop := ∃ (rs : List TR) (kv iv : Value), rs.length = ys.length ∧ Blk W g1 28 #[.int .i64 k, .int .i64 i, sv t, kv, iv] ∧ VB W g2 v ∧
  W.ownsRow (n₀ + 3) 28 5 iv ys.length (eT.fl rs) ∧ W.ownsRow (n₀ + 3) 9 1 kv ls.length (ls.map sv) ∧ (∀ j, iv.ownBlock = some j → kv.ownBlock ≠ some j) ∧ IsTrs W (fun b => n₀ + 3 ≤ b ∧ some b ≠ iv.ownBlock ∧ some b ≠ kv.ownBlock) ys rs ∧ Below w0.heap.size w0 W
theorem tree1_mid (w w6 w7 w9 : World) (n₀ g1 g7 : Nat) (k i : Int) (t : List UInt8) (kv : Value) (A1 : Option Addr) (c1 c7 : Nat) (y : T) (r : TR) (ys : List T) (rs : List TR) (hrl : rs.length = ys.length) (_h1 : g1 < n₀) (g1l : g1 < w.heap.size)
    (hb6 : Below w.heap.size w w6) (hs6 : w.heap.size + 2 ≤ w6.heap.size) (hiv : w.ownsRow (n₀ + 3) 28 5 (.slice A1 ys.length c1) ys.length (eT.fl rs)) (hr : IsTr w6 (fun b => w.heap.size + 2 ≤ b ∧ b < w6.heap.size) y r)
    (hg7 : w6.grownBy w7 (Value.slice A1 ys.length c1).ownBlock) (hk7 : (Value.slice (some ⟨g7, 0, none⟩) (ys.length + 1) c7).ownBlock = (Value.slice A1 ys.length c1).ownBlock ∨ (Value.slice (some ⟨g7, 0, none⟩) (ys.length + 1) c7).ownBlock = some w6.heap.size)
    (hch : Chg (fun b => b = g1 ∨ b = g7) w7 w9) (ho9 : w9.ownsRow (n₀ + 3) 28 5 (.slice (some ⟨g7, 0, none⟩) (ys.length + 1) c7) (ys.length + 1) (splice (eT.fl rs ++ eT.fl [TR.z]) (ys.length * 5) (eT.l r)))
    (_hg9 : Blk w9 g1 28 #[.int .i64 k, .int .i64 i, sv t, kv, .slice (some ⟨g7, 0, none⟩) (ys.length + 1) c7]) (hb9 : Below 0 w7 w9) :
    Hid (w9.ownsRow (n₀ + 3) 28 5 (.slice (some ⟨g7, 0, none⟩) (ys.length + 1) c7) (ys.length + 1) (eT.fl (rs ++ [r]))) ∧ Hid ((Value.slice (some ⟨g7, 0, none⟩) (ys.length + 1) c7).ownBlock = (Value.slice A1 ys.length c1).ownBlock ∨ ∃ j, (Value.slice (some ⟨g7, 0, none⟩) (ys.length + 1) c7).ownBlock = some j ∧ w.heap.size + 2 ≤ j) ∧
    Hid (IsTr w9 (fun b => w.heap.size + 2 ≤ b ∧ b < w9.heap.size ∧ some b ≠ (Value.slice (some ⟨g7, 0, none⟩) (ys.length + 1) c7).ownBlock) y r) ∧ Hid (Chg (fun b => b = g1 ∨ some b = (Value.slice A1 ys.length c1).ownBlock) w w9) := by
  have hjl : ∀ j, (Value.slice A1 ys.length c1).ownBlock = some j → j < w.heap.size := fun j e => own_lt hiv e
  have e7 : (Value.slice (some ⟨g7, 0, none⟩) (ys.length + 1) c7).ownBlock = some g7 := rfl
  rw [e7] at hk7 ⊢
  have hz7 := hg7.size
  have hz9 := hb9.size
  have hg7' : some g7 = (Value.slice A1 ys.length c1).ownBlock ∨ g7 = w6.heap.size := hk7.imp id Option.some.inj
  refine ⟨?_, ?_, ?_, ?_⟩
  · have e : splice (eT.fl rs ++ eT.fl [TR.z]) (ys.length * 5) (eT.l r) = eT.fl (rs ++ [r]) := by
      rw [← eT.fl_app, ← hrl]
      have := eT.splice_fl (xs := rs ++ [TR.z]) (k := rs.length) (v := r) (by simp)
      rw [show rs.length * 5 = rs.length * eT.sz from rfl, this]
      simp
    rw [← e]; exact ho9
  · exact hg7'.imp id (fun h => ⟨g7, rfl, by omega⟩)
  · refine ((hr.keeps (w' := w9) (fun b hb hs => ?_)).more (fun b hb => ⟨hb.1, by omega, fun e => ?_⟩))
    · refine (hch.same b (by omega) (fun h => ?_)).trans (hg7.block b hb (fun e => by have := hjl b e.symm; omega))
      rcases h with h | h
      · omega
      · rcases hg7' with h' | h'
        · have := hjl g7 h'.symm; omega
        · omega
    · have := Option.some.inj e
      rcases hg7' with h' | h'
      · have := hjl g7 h'.symm; omega
      · omega
  · refine (Chg.of_below hb6).trans ((Chg.of_grown (F := fun b => b = g1 ∨ some b = (Value.slice A1 ys.length c1).ownBlock) hg7 (fun j e => .inr e.symm)).trans hch (fun b hb h => ?_)) (fun _ _ h => h)
    rcases h with h | h
    · exact .inl h
    · rcases hg7' with h' | h'
      · exact .inr (h ▸ h')
      · omega
theorem tree1_fin (w0 w w9 : World) (n₀ g1 g2 : Nat) (k i : Int) (t : List UInt8) (v : V) (y : T) (r : TR) (ys : List T) (ls ls' : List (List UInt8)) (rs : List TR) (kv iv kv' iv' : Value) (hrl : rs.length = ys.length) (h0 : w0.heap.size ≤ g1) (h1 : g1 ≠ g2 ∧ g1 < n₀) (h2 : g2 < n₀) (hn0 : n₀ + 3 ≤ w.heap.size)
    (hg2 : VB w g2 v) (hiv : w.ownsRow (n₀ + 3) 28 5 iv ys.length (eT.fl rs)) (hkv : w.ownsRow (n₀ + 3) 9 1 kv ls.length (ls.map sv)) (hrs : IsTrs w (fun b => n₀ + 3 ≤ b ∧ some b ≠ iv.ownBlock ∧ some b ≠ kv.ownBlock) ys rs) (hb0 : Below w0.heap.size w0 w)
    (hC : Chg (fun b => b = g1 ∨ some b = iv.ownBlock ∨ some b = kv.ownBlock) w w9) (hG : Blk w9 g1 28 #[.int .i64 k, .int .i64 i, sv t, kv', iv']) (hO : w9.ownsRow (n₀ + 3) 28 5 iv' (ys.length + 1) (eT.fl (rs ++ [r]))) (hKV : w9.ownsRow (n₀ + 3) 9 1 kv' ls'.length (ls'.map sv))
    (hk1 : iv'.ownBlock = iv.ownBlock ∨ ∃ j, iv'.ownBlock = some j ∧ w.heap.size + 2 ≤ j) (hk2 : kv'.ownBlock = kv.ownBlock ∨ ∃ j, kv'.ownBlock = some j ∧ w.heap.size + 2 ≤ j) (hd : ∀ j, iv'.ownBlock = some j → kv'.ownBlock ≠ some j)
    (hR : IsTr w9 (fun b => w.heap.size + 2 ≤ b ∧ some b ≠ iv'.ownBlock ∧ some b ≠ kv'.ownBlock) y r) :
    TreeJ w0 n₀ g1 g2 k i t v (ys ++ [y]) ls' w9 ∧ ∀ S : Nat → Prop, (∀ b, S b → b < n₀ ∧ b ≠ g1) → Left n₀ S w w9 := by
  have ol : ∀ j, iv.ownBlock = some j → n₀ + 3 ≤ j ∧ j < w.heap.size := fun j e => ⟨own_base hiv e, own_lt hiv e⟩
  have kl : ∀ j, kv.ownBlock = some j → n₀ + 3 ≤ j ∧ j < w.heap.size := fun j e => ⟨own_base hkv e, own_lt hkv e⟩
  have hF : ∀ b, b ≠ g1 → b < n₀ + 3 → ¬ (b = g1 ∨ some b = iv.ownBlock ∨ some b = kv.ownBlock) := fun b h h' => by
    rintro (h'' | h'' | h'')
    · exact h h''
    · have := ol b h''.symm; omega
    · have := kl b h''.symm; omega
  refine ⟨⟨rs ++ [r], kv', iv', by simp [hrl], hG, hC.blk hg2 (hF g2 (by omega) (by omega)), ?_, hKV, hd, ?_, hC.below hb0 hb0.size ?_⟩, fun S hS => hC.left (fun b hb => hF b (hS b hb).2 (by have := (hS b hb).1; omega)) ?_ ?_⟩
  · rw [show (ys ++ [y]).length = ys.length + 1 by simp]; exact hO
  · refine IsTrs.app ((hrs.bound.keeps (w' := w9) (hC.keeps fun b hb hs => ?_)).more (fun b hb => ⟨hb.1.1, fun e => ?_, fun e => ?_⟩)) (IsTrs.one (hR.more fun b hb => ⟨by omega, hb.2.1, hb.2.2⟩))
    · rintro (h | h | h)
      · have := hs.1.1; omega
      · exact hs.1.2.1 h
      · exact hs.1.2.2 h
    · rcases hk1 with h | ⟨j, h, hj⟩
      · exact hb.1.2.1 (e.trans h)
      · have := Option.some.inj (e.trans h); have := hb.2; omega
    · rcases hk2 with h | ⟨j, h, hj⟩
      · exact hb.1.2.2 (e.trans h)
      · have := Option.some.inj (e.trans h); have := hb.2; omega
  · rintro b (h | h | h)
    · omega
    · have := ol b h.symm; omega
    · have := kl b h.symm; omega
  · rintro b o (h | h | h) ho hc
    · omega
    · rw [own_cells hiv h.symm ho] at hc; cases hc
    · rw [own_cells hkv h.symm ho] at hc; cases hc
  · rintro b (h | h | h)
    · omega
    · have := ol b h.symm; omega
    · have := kl b h.symm; omega
set_option maxRecDepth 100000 in
set_option maxHeartbeats 4000000 in
theorem tree1_any (w0 : World) (n₀ g1 g2 : Nat) (k i : Int) (t : List UInt8) (v x : V) (s : St) (y : T) (ys : List T) (ls : List (List UInt8)) (w : World) (hJ : TreeJ w0 n₀ g1 g2 k i t v ys ls w) (h0 : w0.heap.size ≤ g1) (h1 : g1 ≠ g2 ∧ g1 < n₀) (h2 : g2 < n₀) (hn0 : n₀ + 3 ≤ w.heap.size) (hn : ys.length ≤ 16384) (hl : ls.length ≤ 16384)
    (hT : ∀ W, Below w.heap.size w W → Calls Tryz.prog 37 #[x.a] W (TrOut W y)) :
    Calls Tryz.prog 75 #[s.a, x.a, .pointer (some ⟨g1, 0, none⟩), .pointer (some ⟨g2, 0, none⟩)] w fun e W' => (∃ u, e = .returned u) ∧ TreeJ w0 n₀ g1 g2 k i t v (ys ++ [y]) (if v.kd = 5 then ls ++ [s.T] else ls) W' ∧ ∀ S : Nat → Prop, (∀ b, S b → b < n₀ ∧ b ≠ g1) → Left n₀ S w W' := by
  obtain ⟨rs, kv, iv, hrl, hg1, hg2, hiv, hkv, hne, hrs, hb0⟩ := hJ
  obtain ⟨A1, c1, rfl, hc1⟩ := own_shape hiv
  have HG1 := Lib.hid hg1
  have HG2 := Lib.hid hg2
  have HIV := Lib.hid hiv
  have HKV := Lib.hid hkv
  have HNE := Lib.hid hne
  have HRS := Lib.hid hrs
  have HB0 := Lib.hid hb0
  have HT := Lib.hid hT
  have HRL := Lib.hid hrl
  have HN0 := Lib.hid hn0
  have g1l := hg1.lt
  have g2l := Blk.lt hg2
  have hjl : ∀ j, (Value.slice A1 ys.length c1).ownBlock = some j → j < w.heap.size := fun j e => own_lt hiv e
  have HJL := Lib.hid hjl
  clear hg1 hg2 hiv hkv hne hrs hb0 hT hrl hc1 hjl hn0
  have HI := Lib.hid h0
  have H1 := Lib.hid h1
  have H2 := Lib.hid h2
  clear h0 h1 h2
  simp only [V.a, St.a] at HT ⊢
  generalize hLS : (if v.kd = 5 then ls ++ [s.T] else ls) = LS
  have HLS := Lib.hid hLS
  clear hLS
  go_enter Tryz.func75, Tryz.ntmps75
  go_upto_region 1 with fail
  refine wp_at fun W hW => ?_
  obtain ⟨hB, hz, hS, hX⟩ := boxes2 hW
  have HZ := Lib.hid hz
  have KEEP : Hid (∀ W', Below W.heap.size W W' → Below w.heap.size w W' ∧ Blk W' g1 28 #[.int .i64 k, .int .i64 i, sv t, kv, .slice A1 ys.length c1] ∧ VB W' (w.heap.size + 1) x ∧ Blk W' w.heap.size 48 #[.int .i64 s.K, .int .i64 s.I, .string ⟨s.T.toArray⟩]) := Lib.hid fun W' h => ⟨hB.trans (h.mono hB.size), (HG1.out.below hB g1l).below h (Nat.lt_of_lt_of_le g1l hB.size), Blk.below (show VB W (w.heap.size + 1) x from hX) h hX.lt, hS.below h hS.lt⟩
  clear hW hB hz hS hX
  go_cut [12] from 6 to 14 (fun s12 wx => ∃ r A c, s12 = .slice A (ys.length + 1) c ∧ Hid (w.heap.size + 2 ≤ wx.heap.size) ∧ Hid (Blk wx g1 28 #[.int .i64 k, .int .i64 i, sv t, kv, .slice A (ys.length + 1) c]) ∧ Hid (wx.ownsRow (n₀ + 3) 28 5 (.slice A (ys.length + 1) c) (ys.length + 1) (eT.fl (rs ++ [r]))) ∧ Hid ((Value.slice A (ys.length + 1) c).ownBlock = (Value.slice A1 ys.length c1).ownBlock ∨ ∃ j, (Value.slice A (ys.length + 1) c).ownBlock = some j ∧ w.heap.size + 2 ≤ j) ∧ Hid (IsTr wx (fun b => w.heap.size + 2 ≤ b ∧ b < wx.heap.size ∧ some b ≠ (Value.slice A (ys.length + 1) c).ownBlock) y r) ∧ Hid (Chg (fun b => b = g1 ∨ some b = (Value.slice A1 ys.length c1).ownBlock) w wx) ∧ Hid (Blk wx w.heap.size 48 #[.int .i64 s.K, .int .i64 s.I, .string ⟨s.T.toArray⟩]))
  case first =>
    have K0 := KEEP.out W.drew (Below.refl _ _).drew
    have HBX := Lib.hid (show Below W.heap.size W W.drew from (Below.refl _ _).drew)
    refine wp_region_tw2 6 [0, 1, 2, 4] 3 5 [(5, false)] [(3, false)] (fun w' => w'.cell? ⟨g1, 4, none⟩ = some (.slice A1 ys.length c1) ∧ VB w' (w.heap.size + 1) x) (by kernel_rfl) (by kernel_rfl) (by kernel_rfl) ⟨K0.2.1.cell 4, K0.2.2.1⟩ (fun hS => ?_)
    iterate 2 (refine sq_t (o := ⟨_, _, _, _, _, _⟩) (v := ?_) rfl (by rfl) ?_ ?_; rotate_left; (· (intro w hSw; (try dsimp only at hSw); obtain ⟨hS1, -⟩ := hSw; go_simp; try with_reducible rfl)); try simp only [Act.put, List.setIfInBounds_toArray, List.set_cons_zero, List.set_cons_succ])
    refine sq_t (o := ⟨_, _, _, _, _, _⟩) (v := V.a x) rfl (by rfl) (fun w' hw' => exec_load_V rfl (by simp [Act.eval]) hw'.2) ?_
    try simp only [Act.put, List.setIfInBounds_toArray, List.set_cons_zero, List.set_cons_succ]
    iterate 1 (refine sq_t (o := ⟨_, _, _, _, _, _⟩) (v := ?_) rfl (by rfl) ?_ ?_; rotate_left; (· (intro w hSw; (try dsimp only at hSw); obtain ⟨hS1, -⟩ := hSw; go_simp; try with_reducible rfl)); try simp only [Act.put, List.setIfInBounds_toArray, List.set_cons_zero, List.set_cons_succ])
    simp only [V.a]
    refine ⟨hS, ?_, ?_⟩
    · clear hS K0
      refine sq_c rfl (fun K hK => ?_)
      go_simp
      refine (HT.out _ (KEEP.out W.drew HBX.out).1).mono ?_
      rintro e w4 ⟨r, rfl, hr, hb4⟩
      have HBX4 := Lib.hid (HBX.out.trans (hb4.mono HBX.out.size))
      have HR := Lib.hid hr.bound
      have hz4 := hb4.size
      have K4 := KEEP.out w4 HBX4.out
      refine hK.out _ _ ⟨K4.2.1.cell 4, K4.2.2.1⟩ (fun hS => ?_)
      clear hK K hr hb4 HBX K4 hS
      have HBX := HBX4
      clear HBX4
      try simp only [Act.put, List.setIfInBounds_toArray, List.set_cons_zero, List.set_cons_succ]
      refine sq_c rfl (fun K hK => ?_)
      go_simp
      have HBX5 := Lib.hid (HBX.out.alloc HBX.out.size (.cells TR.z.l.toArray 28))
      have K5 := KEEP.out _ HBX5.out
      refine hK.out _ _ ⟨K5.2.1.cell 4, K5.2.2.1⟩ (fun hS => ?_)
      clear hK K K5 hS HBX
      have HBX := HBX5
      clear HBX5
      try simp only [Act.put, List.setIfInBounds_toArray, List.set_cons_zero, List.set_cons_succ]
      simp only [wpSq]
      have HR6 : Hid (IsTr (w4.alloc (.cells TR.z.l.toArray 28)) (fun b => w.heap.size + 2 ≤ b ∧ b < (w4.alloc (.cells TR.z.l.toArray 28)).heap.size) y r) := Lib.hid ((HR.out.keeps (.of_below ((Below.refl _ _).alloc (Nat.le_refl _) _))).more fun b h => ⟨by have := HZ.out; have := h.1; simp at this; omega, by have := h.2; simp; omega⟩)
      have HB6 := Lib.hid (KEEP.out _ HBX.out).1
      have HS6 : Hid (w.heap.size + 2 ≤ (w4.alloc (.cells TR.z.l.toArray 28)).heap.size) := Lib.hid (by have := HZ.out; have := HBX.out.size; omega)
      have hO6 := own_below HIV.out HB6.out
      have HG6 := Lib.hid (KEEP.out _ HBX.out).2.1
      have HRD : Hid (∃ B, Reads (w4.alloc (.cells TR.z.l.toArray 28)) B 5 (some ⟨w4.heap.size, 0, none⟩) 1 (eT.fl [TR.z])) := Lib.hid ?rd
      case rd => exact ⟨_, reads_one_E eT w4 _ TR.z⟩
      obtain ⟨B6, HRDD⟩ := HRD.out
      refine tw_one (i := 6) (o := ⟨_, _, _, _, _, _⟩) (by kernel_rfl) rfl (fun K hK => ?_)
      refine step_app3 elT rfl rfl (n := ys.length) hO6 rfl HRDD rfl (eT.fl_one _) (by omega) (by decide) (by have := HS6.out; have := HN0.out; show _ ≤ (w4.alloc (.cells TR.z.l.toArray 28)).heap.size; omega) (fun v7 w7 HO7 HG7 HK7 => ?_)
      refine hK.out _ _ ?_
      clear hK K HRDD hO6
      try simp only [Act.put, List.setIfInBounds_toArray, List.set_cons_zero, List.set_cons_succ]
      obtain ⟨A7, c7, rfl, hc7⟩ := own_shape HO7.out
      obtain ⟨g7, rfl, hg7⟩ := own_some HO7.out (by omega)
      replace HG7 := Lib.hid (show World.grownBy _ w7 (Value.slice A1 ys.length c1).ownBlock from HG7.out)
      replace HK7 := Lib.hid (show (Value.slice (some ⟨g7, 0, none⟩) (ys.length + 1) c7).ownBlock = (Value.slice A1 ys.length c1).ownBlock ∨ (Value.slice (some ⟨g7, 0, none⟩) (ys.length + 1) c7).ownBlock = some (w4.alloc (.cells TR.z.l.toArray 28)).heap.size from HK7.out)
      have G7 : Hid (Blk w7 g1 28 #[.int .i64 k, .int .i64 i, sv t, kv, .slice A1 ys.length c1]) := Lib.hid (HG6.out.grown HG7.out (fun e => by have := own_base HIV.out e.symm; have := H1.out; have := H2.out; omega))
      have hne7 : g1 ≠ g7 := by have := H1.out; have := H2.out; omega
      refine tw_take (i := 7) (o := ⟨_, _, _, _, _, _⟩) (v := .pointer (some ⟨g7, ys.length * 5, none⟩)) rfl (by kernel_rfl) (by rfl) (fun w => ?_) ?_
      · have hb1 : (0 : Int) ≤ (ys.length : Int) := by omega
        go_simp
        first | with_reducible rfl | (intro h; exact absurd h (by omega))
      try simp only [Act.put, List.setIfInBounds_toArray, List.set_cons_zero, List.set_cons_succ]
      refine tw_take (i := 9) (o := ⟨_, _, _, _, _, _⟩) (v := .pointer (some ⟨g1, 4, none⟩)) rfl (by kernel_rfl) (by rfl) (fun w => ?_) ?_
      · go_simp
        try with_reducible rfl
      try simp only [Act.put, List.setIfInBounds_toArray, List.set_cons_zero, List.set_cons_succ]
      refine tw_two (i := 8) (j := 10) (o := ⟨_, _, _, _, _, _⟩) (o' := ⟨_, _, _, _, _, _⟩) (by kernel_rfl) rfl rfl (fun K hK => ?_) (fun K hK => ?_)
      · refine step_stOwn rfl rfl (n := ys.length + 1) (sz := 5) HO7.out ys.length (by omega) rfl rfl rfl (eT.l r) rfl rfl infoT (eT.one r) (fun w8 HO8 ho8 hB8 => ?_)
        refine hK.out _ _ ?_
        clear hK K
        try simp only [Act.put]
        refine tw_one (i := 10) (o := ⟨_, _, _, _, _, _⟩) (by kernel_rfl) rfl (fun K hK => ?_)
        refine step_st1 rfl rfl (g := g1) (k := 4) (cs := [.int .i64 k, .int .i64 i, sv t, kv, .slice A1 ys.length c1]) ((ho8 g1 hne7).trans G7.out) (by simp) rfl rfl rfl (by kernel_rfl) rfl (fun w9 HG9 ho9 hB9 => ?_)
        refine hK.out _ _ ?_
        clear hK K
        try simp only [Act.put]
        refine tw_end (by kernel_rfl) ?_
        refine NoPanic.normal ?_
        have hch : Chg (fun b => b = g1 ∨ b = g7) w7 w9 := (Chg.one ho8 hB8 (.inr rfl)).trans (Chg.one (F := fun b => b = g1 ∨ b = g7) ho9 hB9 (.inl rfl)) (fun _ _ h => h)
        have HREL := Lib.hid (tree1_mid w _ w7 w9 n₀ g1 g7 k i t kv A1 c1 c7 y r ys rs HRL.out (by have := H1.out; have := H2.out; omega) g1l HB6.out HS6.out HIV.out HR6.out HG7.out HK7.out hch (Chg.own (Chg.one (F := fun b => b = g1) ho9 hB9 rfl) HO8.out (fun j e => by have e' : g7 = j := Option.some.inj e; have := H1.out; have := H2.out; show j ≠ g1; omega)) HG9.out (hB9 _ _ (hB8 _ _ (Below.refl 0 _) (Nat.zero_le _)) (Nat.zero_le _)))
        have HSB := Lib.hid (hch.blk (((KEEP.out _ HBX.out).2.2.2).grown HG7.out (fun e => by have := HJL.out _ e.symm; omega)) (fun h => by have := hne7; rcases h with h | h; omega; exact absurd HK7.out (by simp only [Value.ownBlock]; rintro (h' | h'); have := HJL.out _ h'.symm; omega; have := Option.some.inj h'; have := HS6.out; omega)))
        go_wp2_with fail
        go_meet
        exact ⟨r, _, c7, rfl, Lib.hid (Nat.le_trans HS6.out (Nat.le_trans HG7.out.size hch.size)), HG9, HREL.out.1, HREL.out.2.1, HREL.out.2.2.1, HREL.out.2.2.2, HSB⟩
      · refine step_st1 rfl rfl (g := g1) (k := 4) (cs := [.int .i64 k, .int .i64 i, sv t, kv, .slice A1 ys.length c1]) G7.out (by simp) rfl rfl rfl (by kernel_rfl) rfl (fun w8 HG8 ho8 hB8 => ?_)
        refine hK.out _ _ ?_
        clear hK K
        try simp only [Act.put]
        refine tw_one (i := 8) (o := ⟨_, _, _, _, _, _⟩) (by kernel_rfl) rfl (fun K hK => ?_)
        refine step_stOwn rfl rfl (n := ys.length + 1) (sz := 5) (Chg.own (Chg.one (F := fun b => b = g1) ho8 hB8 rfl) HO7.out (fun j e => by have e' : g7 = j := Option.some.inj e; have := H1.out; have := H2.out; show j ≠ g1; omega)) ys.length (by omega) rfl rfl rfl (eT.l r) rfl rfl infoT (eT.one r) (fun w9 HO9 ho9 hB9 => ?_)
        refine hK.out _ _ ?_
        clear hK K
        try simp only [Act.put]
        refine tw_end (by kernel_rfl) ?_
        refine NoPanic.normal ?_
        have hch : Chg (fun b => b = g1 ∨ b = g7) w7 w9 := (Chg.one ho8 hB8 (.inl rfl)).trans (Chg.one (F := fun b => b = g1 ∨ b = g7) ho9 hB9 (.inr rfl)) (fun _ _ h => h)
        have HG9 := Lib.hid ((ho9 g1 hne7).trans HG8.out)
        have HREL := Lib.hid (tree1_mid w _ w7 w9 n₀ g1 g7 k i t kv A1 c1 c7 y r ys rs HRL.out (by have := H1.out; have := H2.out; omega) g1l HB6.out HS6.out HIV.out HR6.out HG7.out HK7.out hch HO9.out HG9.out (hB9 _ _ (hB8 _ _ (Below.refl 0 _) (Nat.zero_le _)) (Nat.zero_le _)))
        have HSB := Lib.hid (hch.blk (((KEEP.out _ HBX.out).2.2.2).grown HG7.out (fun e => by have := HJL.out _ e.symm; omega)) (fun h => by have := hne7; rcases h with h | h; omega; exact absurd HK7.out (by simp only [Value.ownBlock]; rintro (h' | h'); have := HJL.out _ h'.symm; omega; have := Option.some.inj h'; have := HS6.out; omega)))
        go_wp2_with fail
        go_meet
        exact ⟨r, _, c7, rfl, Lib.hid (Nat.le_trans HS6.out (Nat.le_trans HG7.out.size hch.size)), Lib.hid HG9.out, HREL.out.1, HREL.out.2.1, HREL.out.2.2.1, HREL.out.2.2.2, HSB⟩
    · clear hS K0
      have HRD0 := Lib.hid (reads_one_E eT W.drew 28 TR.z)
      refine sq_c rfl (fun K hK => ?_)
      go_simp
      have HBX5 := Lib.hid (HBX.out.alloc HBX.out.size (.cells TR.z.l.toArray 28))
      have K5 := KEEP.out _ HBX5.out
      refine hK.out _ _ ⟨K5.2.1.cell 4, K5.2.2.1⟩ (fun hS => ?_)
      clear hK K K5 hS HBX
      have HBX := HBX5
      clear HBX5
      try simp only [Act.put, List.setIfInBounds_toArray, List.set_cons_zero, List.set_cons_succ]
      refine sq_c rfl (fun K hK => ?_)
      go_simp
      refine (HT.out _ (KEEP.out (W.drew.alloc (.cells TR.z.l.toArray 28)) HBX.out).1).mono ?_
      rintro e w4 ⟨r, rfl, hr, hb4⟩
      have HBX4 := Lib.hid (HBX.out.trans (hb4.mono HBX.out.size))
      have HR := Lib.hid hr.bound
      have hz4 := hb4.size
      have K4 := KEEP.out w4 HBX4.out
      refine hK.out _ _ ⟨K4.2.1.cell 4, K4.2.2.1⟩ (fun hS => ?_)
      have hb44 := hb4
      clear hK K hr hb4 HBX K4 hS
      have HBX := HBX4
      clear HBX4
      try simp only [Act.put, List.setIfInBounds_toArray, List.set_cons_zero, List.set_cons_succ]
      simp only [wpSq]
      have HR6 : Hid (IsTr (w4) (fun b => w.heap.size + 2 ≤ b ∧ b < (w4).heap.size) y r) := Lib.hid (HR.out.more fun b h => ⟨by have := HZ.out; have := h.1; simp at this; omega, h.2⟩)
      have HB6 := Lib.hid (KEEP.out _ HBX.out).1
      have HS6 : Hid (w.heap.size + 2 ≤ (w4).heap.size) := Lib.hid (by have := HZ.out; have := HBX.out.size; omega)
      have hO6 := own_below HIV.out HB6.out
      have HG6 := Lib.hid (KEEP.out _ HBX.out).2.1
      have HRD : Hid (∃ B, Reads (w4) B 5 (some ⟨W.drew.heap.size, 0, none⟩) 1 (eT.fl [TR.z])) := Lib.hid ?rd
      case rd => exact ⟨_, HRD0.out.keeps (.of_below hb44)⟩
      obtain ⟨B6, HRDD⟩ := HRD.out
      refine tw_one (i := 6) (o := ⟨_, _, _, _, _, _⟩) (by kernel_rfl) rfl (fun K hK => ?_)
      refine step_app3 elT rfl rfl (n := ys.length) hO6 rfl HRDD rfl (eT.fl_one _) (by omega) (by decide) (by have := HS6.out; have := HN0.out; show _ ≤ (w4).heap.size; omega) (fun v7 w7 HO7 HG7 HK7 => ?_)
      refine hK.out _ _ ?_
      clear hK K HRDD hO6
      try simp only [Act.put, List.setIfInBounds_toArray, List.set_cons_zero, List.set_cons_succ]
      obtain ⟨A7, c7, rfl, hc7⟩ := own_shape HO7.out
      obtain ⟨g7, rfl, hg7⟩ := own_some HO7.out (by omega)
      replace HG7 := Lib.hid (show World.grownBy _ w7 (Value.slice A1 ys.length c1).ownBlock from HG7.out)
      replace HK7 := Lib.hid (show (Value.slice (some ⟨g7, 0, none⟩) (ys.length + 1) c7).ownBlock = (Value.slice A1 ys.length c1).ownBlock ∨ (Value.slice (some ⟨g7, 0, none⟩) (ys.length + 1) c7).ownBlock = some (w4).heap.size from HK7.out)
      have G7 : Hid (Blk w7 g1 28 #[.int .i64 k, .int .i64 i, sv t, kv, .slice A1 ys.length c1]) := Lib.hid (HG6.out.grown HG7.out (fun e => by have := own_base HIV.out e.symm; have := H1.out; have := H2.out; omega))
      have hne7 : g1 ≠ g7 := by have := H1.out; have := H2.out; omega
      refine tw_take (i := 7) (o := ⟨_, _, _, _, _, _⟩) (v := .pointer (some ⟨g7, ys.length * 5, none⟩)) rfl (by kernel_rfl) (by rfl) (fun w => ?_) ?_
      · have hb1 : (0 : Int) ≤ (ys.length : Int) := by omega
        go_simp
        first | with_reducible rfl | (intro h; exact absurd h (by omega))
      try simp only [Act.put, List.setIfInBounds_toArray, List.set_cons_zero, List.set_cons_succ]
      refine tw_take (i := 9) (o := ⟨_, _, _, _, _, _⟩) (v := .pointer (some ⟨g1, 4, none⟩)) rfl (by kernel_rfl) (by rfl) (fun w => ?_) ?_
      · go_simp
        try with_reducible rfl
      try simp only [Act.put, List.setIfInBounds_toArray, List.set_cons_zero, List.set_cons_succ]
      refine tw_two (i := 8) (j := 10) (o := ⟨_, _, _, _, _, _⟩) (o' := ⟨_, _, _, _, _, _⟩) (by kernel_rfl) rfl rfl (fun K hK => ?_) (fun K hK => ?_)
      · refine step_stOwn rfl rfl (n := ys.length + 1) (sz := 5) HO7.out ys.length (by omega) rfl rfl rfl (eT.l r) rfl rfl infoT (eT.one r) (fun w8 HO8 ho8 hB8 => ?_)
        refine hK.out _ _ ?_
        clear hK K
        try simp only [Act.put]
        refine tw_one (i := 10) (o := ⟨_, _, _, _, _, _⟩) (by kernel_rfl) rfl (fun K hK => ?_)
        refine step_st1 rfl rfl (g := g1) (k := 4) (cs := [.int .i64 k, .int .i64 i, sv t, kv, .slice A1 ys.length c1]) ((ho8 g1 hne7).trans G7.out) (by simp) rfl rfl rfl (by kernel_rfl) rfl (fun w9 HG9 ho9 hB9 => ?_)
        refine hK.out _ _ ?_
        clear hK K
        try simp only [Act.put]
        refine tw_end (by kernel_rfl) ?_
        refine NoPanic.normal ?_
        have hch : Chg (fun b => b = g1 ∨ b = g7) w7 w9 := (Chg.one ho8 hB8 (.inr rfl)).trans (Chg.one (F := fun b => b = g1 ∨ b = g7) ho9 hB9 (.inl rfl)) (fun _ _ h => h)
        have HREL := Lib.hid (tree1_mid w _ w7 w9 n₀ g1 g7 k i t kv A1 c1 c7 y r ys rs HRL.out (by have := H1.out; have := H2.out; omega) g1l HB6.out HS6.out HIV.out HR6.out HG7.out HK7.out hch (Chg.own (Chg.one (F := fun b => b = g1) ho9 hB9 rfl) HO8.out (fun j e => by have e' : g7 = j := Option.some.inj e; have := H1.out; have := H2.out; show j ≠ g1; omega)) HG9.out (hB9 _ _ (hB8 _ _ (Below.refl 0 _) (Nat.zero_le _)) (Nat.zero_le _)))
        have HSB := Lib.hid (hch.blk (((KEEP.out _ HBX.out).2.2.2).grown HG7.out (fun e => by have := HJL.out _ e.symm; omega)) (fun h => by have := hne7; rcases h with h | h; omega; exact absurd HK7.out (by simp only [Value.ownBlock]; rintro (h' | h'); have := HJL.out _ h'.symm; omega; have := Option.some.inj h'; have := HS6.out; omega)))
        go_wp2_with fail
        go_meet
        exact ⟨r, _, c7, rfl, Lib.hid (Nat.le_trans HS6.out (Nat.le_trans HG7.out.size hch.size)), HG9, HREL.out.1, HREL.out.2.1, HREL.out.2.2.1, HREL.out.2.2.2, HSB⟩
      · refine step_st1 rfl rfl (g := g1) (k := 4) (cs := [.int .i64 k, .int .i64 i, sv t, kv, .slice A1 ys.length c1]) G7.out (by simp) rfl rfl rfl (by kernel_rfl) rfl (fun w8 HG8 ho8 hB8 => ?_)
        refine hK.out _ _ ?_
        clear hK K
        try simp only [Act.put]
        refine tw_one (i := 8) (o := ⟨_, _, _, _, _, _⟩) (by kernel_rfl) rfl (fun K hK => ?_)
        refine step_stOwn rfl rfl (n := ys.length + 1) (sz := 5) (Chg.own (Chg.one (F := fun b => b = g1) ho8 hB8 rfl) HO7.out (fun j e => by have e' : g7 = j := Option.some.inj e; have := H1.out; have := H2.out; show j ≠ g1; omega)) ys.length (by omega) rfl rfl rfl (eT.l r) rfl rfl infoT (eT.one r) (fun w9 HO9 ho9 hB9 => ?_)
        refine hK.out _ _ ?_
        clear hK K
        try simp only [Act.put]
        refine tw_end (by kernel_rfl) ?_
        refine NoPanic.normal ?_
        have hch : Chg (fun b => b = g1 ∨ b = g7) w7 w9 := (Chg.one ho8 hB8 (.inl rfl)).trans (Chg.one (F := fun b => b = g1 ∨ b = g7) ho9 hB9 (.inr rfl)) (fun _ _ h => h)
        have HG9 := Lib.hid ((ho9 g1 hne7).trans HG8.out)
        have HREL := Lib.hid (tree1_mid w _ w7 w9 n₀ g1 g7 k i t kv A1 c1 c7 y r ys rs HRL.out (by have := H1.out; have := H2.out; omega) g1l HB6.out HS6.out HIV.out HR6.out HG7.out HK7.out hch HO9.out HG9.out (hB9 _ _ (hB8 _ _ (Below.refl 0 _) (Nat.zero_le _)) (Nat.zero_le _)))
        have HSB := Lib.hid (hch.blk (((KEEP.out _ HBX.out).2.2.2).grown HG7.out (fun e => by have := HJL.out _ e.symm; omega)) (fun h => by have := hne7; rcases h with h | h; omega; exact absurd HK7.out (by simp only [Value.ownBlock]; rintro (h' | h'); have := HJL.out _ h'.symm; omega; have := Option.some.inj h'; have := HS6.out; omega)))
        go_wp2_with fail
        go_meet
        exact ⟨r, _, c7, rfl, Lib.hid (Nat.le_trans HS6.out (Nat.le_trans HG7.out.size hch.size)), Lib.hid HG9.out, HREL.out.1, HREL.out.2.1, HREL.out.2.2.1, HREL.out.2.2.2, HSB⟩
  case rest =>
    obtain ⟨r, A2, c2, rfl, hWC2, hG, hO, hK2, hR, hC, hSB⟩ := hcut
    have hol : ∀ j, (Value.slice A1 ys.length c1).ownBlock = some j → n₀ + 3 ≤ j := fun j e => own_base HIV.out e
    have hkl : ∀ j, kv.ownBlock = some j → n₀ + 3 ≤ j ∧ j < w.heap.size := fun j e => ⟨own_base HKV.out e, own_lt HKV.out e⟩
    have i1 := H1.out
    have i2 := H2.out
    have i3 := HN0.out
    have hv2 := hC.out.blk HG2.out (fun h => by rcases h with h | h; omega; have := hol _ h.symm; omega)
    have hkv2 := hC.out.own HKV.out (fun j e h => by rcases h with h | h; have := (hkl _ e).1; omega; exact HNE.out j h.symm e)
    have hd2 : ∀ j, (Value.slice A2 (ys.length + 1) c2).ownBlock = some j → kv.ownBlock ≠ some j := fun j e e' => by
      rcases hK2.out with h | ⟨j', h, hj'⟩
      · exact HNE.out j (h ▸ e) e'
      · have := (hkl _ e').2; have := Option.some.inj (e.symm.trans h); omega
    have v3 := (show VB wc g2 v from hv2).cells.2.2.2.1
    have HKV2 := Lib.hid hkv2
    have HD2 := Lib.hid hd2
    have HKL := Lib.hid hkl
    have HOL := Lib.hid hol
    clear hv2 hkv2 hd2 hkl hol KEEP HT HJL i1 i2 i3
    by_cases hkd : v.kd = 5
    · have hkb : (v.kd == 5) = true := by simpa using hkd
      have HLE : Hid (LS = ls ++ [s.T]) := Lib.hid (by rw [← HLS.out, if_pos hkd])
      clear hkd
      have s2 := hSB.out.cell 2
      have q3 := hG.out.cell 3
      have f3 := hG.out.frozen 3
      simp only [List.getElem?_toArray, List.getElem?_cons_succ, List.getElem?_cons_zero] at s2 q3
      have hgl : g1 < wc.heap.size := hG.out.lt
      go_wp2_with (first
        | (at_builtin; refine wpList_app3 elTx (o := ⟨some 23, _, _, _, _, _⟩) rfl rfl (n := ls.length) (own_below HKV2.out ((Below.refl _ _).alloc (Nat.le_refl _) _)) rfl (reads_one wc 9 (sv s.T)) rfl (by simp [sv, Value.oneCell']) (by omega) (by decide) (by have := HN0.out; have := hC.out.size; simp; omega) ?_; intro v5 w5 HO5 HG5 HK5; obtain ⟨A5, c5, rfl, -⟩ := own_shape HO5.out; have G5 := Lib.hid (Blk.grown (hG.out.below ((Below.refl wc.heap.size wc).alloc (Nat.le_refl _) (.cells #[sv s.T] 9)) hgl) HG5.out (fun e => by have := (HKL.out _ e.symm).1; have := H1.out; have := H2.out; omega)); have q3' : w5.cell? ⟨g1, 3, none⟩ = some kv := G5.out.cell 3; have f3' := G5.out.frozen 3)
        | fail)
      replace HG5 := Lib.hid (show World.grownBy _ w5 kv.ownBlock from HG5.out)
      have HB5 : Hid (Below wc.heap.size wc (wc.alloc (.cells #[sv s.T] 9))) := Lib.hid ((Below.refl wc.heap.size wc).alloc (Nat.le_refl _) (.cells #[sv s.T] 9))
      have HC5 : Hid (Chg (fun b => some b = kv.ownBlock) wc w5) := Lib.hid ((Chg.of_below HB5.out).trans (Chg.of_grown HG5.out (fun j e => e.symm)) (fun _ _ h => h))
      have HC6 : Hid (Chg (fun b => b = g1) w5 (w5.setCell ⟨g1, 3, none⟩ (.slice A5 (ls.length + 1) c5))) := Lib.hid (Chg.of_grown (chg_set w5 g1 3 (.slice A5 (ls.length + 1) c5)) (fun j e => (Option.some.inj e).symm))
      have HG6 : Hid (Blk (w5.setCell ⟨g1, 3, none⟩ (.slice A5 (ls.length + 1) c5)) g1 28 #[.int .i64 k, .int .i64 i, sv t, (.slice A5 (ls.length + 1) c5), .slice A2 (ys.length + 1) c2]) := Lib.hid (by simpa using G5.out.set_ 3 (.slice A5 (ls.length + 1) c5))
      have HK5' : Hid ((Value.slice A5 (ls.length + 1) c5).ownBlock = kv.ownBlock ∨ (Value.slice A5 (ls.length + 1) c5).ownBlock = some (wc.alloc (.cells #[sv s.T] 9)).heap.size) := Lib.hid HK5.out
      have HA2 : Hid (∀ j, (Value.slice A2 (ys.length + 1) c2).ownBlock = some j → n₀ + 3 ≤ j ∧ j < wc.heap.size) := Lib.hid fun j e => ⟨own_base hO.out e, own_lt hO.out e⟩
      have HWC2 : Hid (w.heap.size + 2 ≤ wc.heap.size) := hWC2
      have HWC : Hid (w.heap.size ≤ wc.heap.size) := Lib.hid hC.out.size
      have HFIN : Hid (TreeJ w0 n₀ g1 g2 k i t v (ys ++ [y]) LS (w5.setCell ⟨g1, 3, none⟩ (.slice A5 (ls.length + 1) c5)) ∧ ∀ S : Nat → Prop, (∀ b, S b → b < n₀ ∧ b ≠ g1) → Left n₀ S w (w5.setCell ⟨g1, 3, none⟩ (.slice A5 (ls.length + 1) c5))) := by
        have i1 := H1.out
        have i2 := H2.out
        have i3 := HN0.out
        have i4 := HWC.out
        rw [HLE.out]
        refine tree1_fin w0 w _ n₀ g1 g2 k i t v y r ys ls (ls ++ [s.T]) rs kv _ (.slice A5 (ls.length + 1) c5) _ HRL.out HI.out H1.out H2.out HN0.out HG2.out HIV.out HKV.out HRS.out HB0.out (((hC.out.mono (G := fun b => b = g1 ∨ some b = (Value.slice A1 ys.length c1).ownBlock ∨ some b = kv.ownBlock) fun b _ h => h.imp id .inl).trans HC5.out (fun b _ h => .inr (.inr h))).trans HC6.out (fun b _ h => .inl h)) HG6.out
          (HC6.out.own (HC5.out.own hO.out (fun j e h => HD2.out j e h.symm)) (fun j e h => by have := HA2.out j e; omega)) (HC6.out.own (by rw [List.length_append, List.map_append]; exact HO5.out) (fun j e h => by have := own_base HO5.out e; omega)) hK2.out
          (HK5'.out.imp id fun h => ⟨_, h, by have := HWC2.out; have := HB5.out.size; omega⟩) (fun j e e' => ?_) (((hR.out.keeps (w' := w5.setCell ⟨g1, 3, none⟩ (.slice A5 (ls.length + 1) c5)) (fun b hb hs => ?_)).more fun b hb => ⟨hb.1, hb.2.2, fun e => ?_⟩))
        · rcases HK5'.out with h | h
          · exact HD2.out j e (h ▸ e')
          · have := HA2.out j e; have := Option.some.inj (e'.symm.trans h); have := HB5.out.size; omega
        · refine (HC6.out.same b (Nat.lt_of_lt_of_le hb HC5.out.size) (fun h => by omega)).trans (HC5.out.same b hb fun h => ?_)
          have := (HKL.out _ h.symm).2; omega
        · rcases HK5'.out with h | h
          · have := (HKL.out _ (e.trans h).symm).2; omega
          · have := Option.some.inj (e.trans h); have := hb.2.1; have := HB5.out.size; omega
      clear hG hO hR hC hSB HKV2 HD2 hK2 HC5 HC6 HG6 HK5' HK5 HO5 HG5 HB5 G5
      go_wp2
      go_end0
      exact ⟨⟨_, rfl⟩, HFIN.out⟩
    · have hkb : (v.kd == 5) = false := by simpa using hkd
      have HLE : Hid (LS = ls) := Lib.hid (by rw [← HLS.out, if_neg hkd])
      clear hkd
      have HFIN := Lib.hid (tree1_fin w0 w wc n₀ g1 g2 k i t v y r ys ls ls rs kv _ kv _ HRL.out HI.out H1.out H2.out HN0.out HG2.out HIV.out HKV.out HRS.out HB0.out (hC.out.mono fun b _ h => h.imp id .inl) hG.out hO.out HKV2.out hK2.out (.inl rfl) HD2.out (hR.out.more fun b h => ⟨h.1, h.2.2, fun e => by have := (HKL.out _ e.symm).2; omega⟩))
      clear hG hO hR hC hSB HKV2 HD2 hK2
      go_wp2
      go_end0
      exact ⟨⟨_, rfl⟩, by rw [HLE.out]; exact HFIN.out⟩
end Go.Proofs.YtfcegalckjeafaaGreatDoor
namespace Go.Proofs.YtfcegalckjeafaaGreatDoor
open Go.RowKit Go.BigFrame Go.Shelf
/-- What is read lies in cells. -/
theorem Reads.solid {w : World} {S : Nat → Prop} {s n : Nat} {A : Option Addr} {xs : List Value} (h : Reads w S s A n xs) (h0 : 0 < s) : Reads w (fun k => S k ∧ ∀ o, w.heap[k]? = some o → o.isCells = true) s A n xs := ⟨h.1, fun hn => by
  obtain ⟨ad, e, hs, hc⟩ := h.2 hn
  have hl : 0 < xs.length := by rw [h.1]; exact Nat.mul_pos hn h0
  have h1 := hc 0 _ (List.getElem?_eq_getElem hl)
  refine ⟨ad, e, ⟨hs, fun o ho => ?_⟩, hc⟩
  unfold World.cell? at h1
  rw [block_of_add, ho] at h1
  cases o <;> first | rfl | (simp at h1)⟩
theorem trs_solid {w : World} {S : Nat → Prop} {x : List T} {r : List TR} (h : IsTrs w S x r) : IsTrs w (fun k => S k ∧ ∀ o : Obj, w.heap[k]? = Option.some o → o.isCells = true) x r := IsTrs.imp (fun _ _ _ _ h0 hr => hr.solid h0) x r h
theorem tree_stay {w0 : World} {n₀ g1 g2 : Nat} {k i : Int} {t : List UInt8} {v : V} {ys : List T} {ls : List (List UInt8)} {W W' : World} {row : Option Nat} (h : TreeJ w0 n₀ g1 g2 k i t v ys ls W) (h0 : w0.heap.size ≤ g1) (h1 : g1 < n₀) (h2 : g2 < n₀) (hg : W.grownBy W' row) (hr : ∀ r, row = some r → r = n₀ + 2 ∨ n₀ ≤ r ∧ ∃ o : Obj, W.heap[r]? = some o ∧ o.isCells = false) : TreeJ w0 n₀ g1 g2 k i t v ys ls W' := by
  obtain ⟨rs, kv, iv, hrl, hg1, hg2, hiv, hkv, hne, hrs, hb0⟩ := h
  have hC : Chg (fun b => some b = row) W W' := Chg.of_grown hg (fun j e => e.symm)
  have hrow : ∀ r, some r = row → n₀ ≤ r := fun r e => by rcases hr r e.symm with h | h <;> omega
  refine ⟨rs, kv, iv, hrl, hC.blk hg1 (fun e => by have := hrow _ e; omega), hC.blk hg2 (fun e => by have := hrow _ e; omega), hC.own hiv (fun j e h => ?_), hC.own hkv (fun j e h => ?_), hne, ((trs_solid hrs).keeps (w' := W') (hC.keeps fun b hb hs e => ?_)).more (fun b h => h.1), hC.below hb0 hb0.size (fun b e => by have := hrow _ e; omega)⟩
  · rcases hr j h.symm with h' | ⟨_, o, ho, hc⟩
    · have := own_base hiv e; omega
    · rw [own_cells hiv e ho] at hc; cases hc
  · rcases hr j h.symm with h' | ⟨_, o, ho, hc⟩
    · have := own_base hkv e; omega
    · rw [own_cells hkv e ho] at hc; cases hc
  · rcases hr b e.symm with h' | ⟨_, o, ho, hc⟩
    · have := hs.1.1; omega
    · rw [hs.2 o ho] at hc; cases hc
/-- Tree gives the tree. -/
def TreeOk (x : T) : Prop := ∀ (v : V) (S : Nat → Prop) (w : World), IsV w S x v → Calls Tryz.prog 37 #[v.a] w (TrOut w x)
theorem map_fin {α : Type} (l : List α) (d : α) (n : Nat) (h : n = l.length) : (List.finRange n).map (fun i => l.getD i.val d) = l := by
  subst h
  apply List.ext_getElem
  · simp
  · intro i h1 h2; simp
theorem own_slice {w : World} {B e sz n : Nat} {v : Value} {xs : List Value} (h : w.ownsRow B e sz v n xs) : ∃ A c, v = .slice A n c ∧ n ≤ c ∧ Reads w (fun b => B ≤ b ∧ b < w.heap.size) sz A n xs := by
  obtain ⟨A, c, rfl, hc⟩ := own_shape h
  exact ⟨A, c, rfl, hc, Reads.of_own h⟩
set_option maxRecDepth 100000 in
set_option maxHeartbeats 4000000 in
theorem tree_at (x : T) (v : V) (S : Nat → Prop) (w : World) (hn : x.nodes ≤ 16384) (hks : (x.k = 5 → x.ks.length = x.xs.length) ∧ (x.k ≠ 5 → x.ks = [])) (h : IsV w S x v) (he : ∀ W, Below w.heap.size w W → EachAt W (fun k => S k ∧ k < w.heap.size) x v) (ih : ∀ (i : Nat) (y : T), x.xs[i]? = some y → TreeOk y) :
    Calls Tryz.prog 37 #[v.a] w (TrOut w x) := by
  obtain ⟨s1, s2, s3, s4, s5⟩ := h.sums
  have HE := Lib.hid he
  have HIH := Lib.hid ih
  have HN : Hid (x.xs.length ≤ 16384) := Lib.hid (by have := x.nodes_eq; have := len_nodesL x.xs; omega)
  have HKS := Lib.hid hks
  clear h he ih s1 s2 hn hks
  obtain ⟨k, i, t, ks, xs⟩ := x
  obtain ⟨sk, si, st, kd, vec, seed, bits, n, dic, bel, mor⟩ := v
  simp only [T.k, T.i, T.t] at s3 s4 s5
  subst s3 s4 s5
  simp only [V.a]
  go_enter Tryz.func37, Tryz.ntmps37
  go_wp2_with fail
  refine calls_at fun W hW => ?_
  obtain ⟨hB, hz, HV, HO, HT⟩ := boxes3 hW
  have HZ := Lib.hid hz
  clear hW
  obtain ⟨m, stp, vv, ⟨hm, hparts⟩, heach⟩ := HE.out W hB
  simp only [T.xs] at hm
  have hm' : m ≤ 16384 := by have := HN.out; simp only [T.xs] at this; omega
  refine (heach 75 #[.pointer (some ⟨w.heap.size + 1 + 1, 0, none⟩), .pointer (some ⟨w.heap.size, 0, none⟩)]
    (fun pre W1 => TreeJ w W.heap.size (w.heap.size + 1 + 1) w.heap.size kd si st ⟨sk, si, st, kd, vec, seed, bits, n, dic, bel, mor⟩ (pre.map fun i => xs.getD i.val T.z) (if kd = 5 then pre.map (fun i => ks.getD i.val []) else []) W1 ∧ Blk W1 (w.heap.size + 1) 28 TR.z.l.toArray)
    (enters_of Tryz.func75 (by kernel_rfl) rfl) ?stay ?start ?round).mono ?_
  case stay =>
    intro pre A B row hs hg hr
    refine ⟨tree_stay hs.1 (by omega) (by omega) (by omega) hg hr, hs.2.grown hg (fun e => by rcases hr _ e.symm with h | h <;> omega)⟩
  case start =>
    have hnil : (if kd = 5 then ([] : List (List UInt8)) else []) = [] := by split <;> rfl
    refine ⟨⟨[], .slice none 0 0, .slice none 0 0, rfl, HT, HV, World.ownsRow_nil _ _ _ _, ?_, nofun, by rw [List.map_nil, IsTrs], hB⟩, HO⟩
    rw [List.map_nil, hnil]
    exact World.ownsRow_nil _ _ _ _
  case round =>
    intro pre x W1 hJ hlt h3
    have hx := hparts x
    have hxl : x.val < xs.length := by have := x.isLt; omega
    have e1 : xs.getD x.val T.z = xs[x.val] := by rw [List.getD_eq_getElem?_getD, List.getElem?_eq_getElem hxl]; rfl
    have hB1 : Below w.heap.size w W1 := hJ.1.choose_spec.choose_spec.choose_spec.2.2.2.2.2.2.2
    have hlen : (if kd = 5 then pre.map (fun i => ks.getD i.val []) else []).length ≤ 16384 := by split <;> simp <;> omega
    refine (tree1_any w W.heap.size (w.heap.size + 1 + 1) w.heap.size kd si st ⟨sk, si, st, kd, vec, seed, bits, n, dic, bel, mor⟩ (vv x) (stp x) xs[x.val] _ _ W1 hJ.1 (by omega) ⟨by omega, by omega⟩ (by omega) h3 (by simp; omega) hlen (fun W2 hW2 => ?_)).mono ?_
    · have hy := hx.1
      simp only [T.xs] at hy
      rw [e1] at hy
      exact HIH.out x.val _ (by simp only [T.xs]; exact List.getElem?_eq_getElem hxl) (vv x) _ W2 (hy.keeps (w' := W2) fun k hk hs => (hW2.block k (by have := hB1.size; have := hs.2; omega)).trans ((hB1.block k hs.2).trans (hB.block k hs.2).symm))
    · rintro e W3 ⟨⟨u, rfl⟩, hJ3, hL⟩
      have hL3 := hL (fun b => b < W.heap.size ∧ b ≠ w.heap.size + 1 + 1) (fun b h => h)
      refine ⟨⟨_, rfl⟩, ⟨?_, (hL3.1.2 _ (by have := hJ.2.lt; omega) ⟨by omega, by omega⟩).trans hJ.2⟩, hL _ (fun b hb => by have := hb.2; omega)⟩
      rw [List.map_append, List.map_cons, List.map_nil, e1]
      by_cases h5 : kd = 5
      · have := (hx.2.2.1 h5)
        rw [if_pos h5] at hJ3 ⊢
        rw [if_pos h5, this] at hJ3
        rw [List.map_append, List.map_cons, List.map_nil]
        exact hJ3
      · rw [if_neg h5] at hJ3 ⊢
        rw [if_neg h5] at hJ3
        exact hJ3
  rintro e W3 ⟨⟨u, rfl⟩, ⟨rs, kv, iv, hrl, hg1, hg2, hiv, hkv, hne, hrs, hb0⟩, hO3⟩
  rw [map_fin xs T.z m hm] at hiv hrs hrl
  have hks2 : (if kd = 5 then (List.finRange m).map (fun i => ks.getD i.val []) else []) = ks := by
    have hk := HKS.out
    simp only [T.k, T.ks, T.xs] at hk
    by_cases h5 : kd = 5
    · rw [if_pos h5, map_fin ks [] m (by rw [hk.1 h5]; exact hm)]
    · rw [if_neg h5, hk.2 h5]
  rw [hks2] at hkv
  obtain ⟨A1, c1, rfl, hc1, hr1⟩ := own_slice hiv
  obtain ⟨A2, c2, rfl, hc2, hr2⟩ := own_slice hkv
  have HIT : Hid (IsTr W3 (fun b => w.heap.size + 3 ≤ b) (.mk kd si st ks xs) ⟨kd, si, st, A2, ks.length, c2, A1, xs.length, c1⟩) := by
    rw [Hid, IsTr]
    exact ⟨rfl, rfl, rfl, rfl, hc2, hr2.more fun b h => by omega, rfl, hc1, rs, hr1.more fun b h => by omega, hrs.more fun b h => by omega⟩
  have HG1 := Lib.hid (show Blk W3 (w.heap.size + 1 + 1) 28 (TR.l ⟨kd, si, st, A2, ks.length, c2, A1, xs.length, c1⟩).toArray from hg1)
  have HO3 := Lib.hid hO3
  have HB3 := Lib.hid hb0
  clear hg1 hg2 hiv hkv hne hrs hb0 hO3 hr1 hr2 hparts heach hB HV HO HT HIH HE hrl
  go_wp2_with (first
    | (refine wpList_ldl rfl (o := ⟨some 16, _, _, _, _, _⟩) rfl rfl (TR.l ⟨kd, si, st, A2, ks.length, c2, A1, xs.length, c1⟩) isT (fun j u hu => by have := Blk.cell HG1.out j; rw [at_zero, this]; simpa using (show (TR.l ⟨kd, si, st, A2, ks.length, c2, A1, xs.length, c1⟩)[j]? = some u from hu)) ?_)
    | (refine wpList_stE (E := eT) rfl rfl infoT rfl ⟨kd, si, st, A2, ks.length, c2, A1, xs.length, c1⟩ HO3.out rfl rfl ?_; intro w8 HR8 ho8 hB8)
    | fail)
  exact ret_c (p := 2) rfl rfl rfl HR8.out (by kernel_rfl) ⟨_, rfl, (HIT.out.keeps (w' := w8) (fun k hk hs => ho8 k (by omega))).more (fun b h => by omega), hB8 _ _ HB3.out (by omega)⟩
mutual
/-- Tree, of scalars and vectors. -/
theorem treeOk : ∀ (x : T), Pl x → x.nodes ≤ 16384 → TreeOk x
  | .mk k i t ks xs, h, hn => fun v S w hv => by
    have hk : k ≤ 4 ∧ ks = [] ∧ Pls xs := by
      rw [Pl] at h
      rcases h with ⟨h, rfl, rfl⟩ | ⟨rfl, rfl, rfl, rfl, h⟩
      · exact ⟨by rcases h with h | h | h | h <;> omega, rfl, by rw [Pls]; trivial⟩
      · exact ⟨by decide, rfl, h⟩
    have hnn : nodesL xs + 1 ≤ 16384 := by simpa [T.nodes] using hn
    exact tree_at (.mk k i t ks xs) v S w hn ⟨fun h => by simp only [T.k] at h; omega, fun _ => hk.2.1⟩ hv (fun W hW => each_pl (hv.bound.keeps (.of_below hW)) (fun b hb => Nat.lt_of_lt_of_le hb.2 hW.size) hk.1 hn) (treesOk xs hk.2.2 (by omega))
theorem treesOk : ∀ (xs : List T), Pls xs → nodesL xs ≤ 16384 → ∀ (i : Nat) (y : T), xs[i]? = some y → TreeOk y
  | [], _, _, i, y, h => by simp at h
  | x :: xs, hp, hn, i, y, h => by
    rw [Pls] at hp
    have hnn : x.nodes + nodesL xs ≤ 16384 := hn
    cases i with
    | zero => simp at h; subst h; exact treeOk x hp.1 (by omega)
    | succ i => exact treesOk xs hp.2 (by omega) i y (by simpa using h)
end
end Go.Proofs.YtfcegalckjeafaaGreatDoor
