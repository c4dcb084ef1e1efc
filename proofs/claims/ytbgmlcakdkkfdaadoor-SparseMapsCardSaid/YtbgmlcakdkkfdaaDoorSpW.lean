/-
  THE CONTRACTS of Map and of the rule that SparseMaps hands it.
-/
import Derived.Test.YtbgmlcakdkkfdaaDoorSpV
import Derived.Deep.DeepCutAuto
import Derived.Deep.CutRange
namespace Go.Proofs.YtbgmlcakdkkfdaaDoor
open Go.RowKit Go.BigFrame Go.Shelf
attribute [local go_sem] Oper.semAt_some

/-- x ^ i ^ k. -/
def fx (k : Int) (i : Nat) (x : Int) : Int := bits .xor .i64 (bits .xor .i64 x i) k

set_option maxHeartbeats 1000000 in
theorem clo_any (k i x : Int) (kb : Nat) (w : World) (hk : w.cell? ⟨kb, 0, none⟩ = some (.int .i64 k)) :
    Calls Tryd.prog 22 #[.int .i64 i, .int .i64 x, .pointer (some ⟨kb, 0, none⟩)] w fun e w' => e = .returned (.int .i64 (bits .xor .i64 (bits .xor .i64 x i) k)) ∧ w' = w := by
  go_enter Tryd.func22, Tryd.ntmps22
  go_wp2
  go_ret
  exact ⟨rfl, rfl⟩

theorem info_int : (Tryd.prog.info? 3).map (fun i => (i.zero, i.size, i.bytes)) = some (some (.int .i64 0), 1, 8) := by kernel_rfl

theorem blk_not_row {W : World} {B : Nat} {t e : TypeId} {cs : Array Value} (h : Blk W B t cs) (hte : t ≠ e) {base size k : Nat} {v : Value} {xs : List Value} (hr : W.ownsRow base e size v k xs) : some B ≠ v.ownBlock := by
  rcases hr.2 with ⟨rfl, _⟩ | ⟨g, cap, cur, rfl, _, hgb, _⟩
  · simp [Value.ownBlock]
  · intro e'
    obtain rfl : B = g := by simpa [Value.ownBlock] using e'
    have := (show W.heap[B]? = _ from h).symm.trans hgb
    simp at this
    exact hte this.2
theorem own_shape {W : World} {base e size k : Nat} {v : Value} {xs : List Value} (hr : W.ownsRow base e size v k xs) : ∃ A c, v = .slice A k c ∧ k ≤ c := by
  rcases hr.2 with ⟨rfl, h⟩ | ⟨g, cap, cur, rfl, _, hgb, h⟩
  · exact ⟨none, 0, by rw [h], by omega⟩
  · exact ⟨_, cap, rfl, h.1⟩
theorem ownsRow_heap {W W' : World} {base e size k : Nat} {v : Value} {xs : List Value} (h : W.ownsRow base e size v k xs) (hk : ∀ g, v.ownBlock = some g → (∃ cur fr, W.heap[g]? = some (.cells cur e fr)) → W'.heap[g]? = W.heap[g]?) : W'.ownsRow base e size v k xs :=
  ⟨h.1, h.2.imp id fun ⟨g, cap, cur, e1, e2, e3, r⟩ => ⟨g, cap, cur, e1, e2, (hk g (by rw [e1]; rfl) ⟨_, _, e3⟩).trans e3, r⟩⟩
/-- The things that have come. -/
def fxs (k : Int) (pre : List (Nat × Int)) : List Value := pre.map fun p => Value.int .i64 (fx k p.1 p.2)
/-- What Map's loop carries: the list so far, its other boxes. -/
def MI (n₀ : Nat) (k : Int) (row : Array Value) (fv : Value) (pre : List (Nat × Int)) (W : World) : Prop :=
  (∃ u, Boxed W (n₀ + 1 + 1 + 1) 23 u ∧ W.ownsRow n₀ 3 1 u pre.length (fxs k pre) ∧ True) ∧ Blk W n₀ 26 row ∧ Blk W (n₀ + 1) 57 #[fv] ∧ Blk W (n₀ + 1 + 1) 26 #[.int .u32 0, .slice none 0 0]
theorem MI.own (n₀ : Nat) (k : Int) (row : Array Value) (fv : Value) : Own (MI n₀ k row fv) := by
  rintro s X Y r ⟨h1, h2, h3, h4⟩ hg hr
  refine ⟨?_, ?_, ?_, ?_⟩
  · generalize n₀ + 1 + 1 + 1 = B at *
    have h := holdsRow_own (β := List (Nat × Int)) n₀ B 23 3 1 List.length (fxs k) (fun _ _ => True)
    exact h s X Y r h1 hg hr
  · exact blk_own (β := Unit) n₀ 26 (fun _ => row) () X Y r h2 hg hr
  · exact blk_own (β := Unit) (n₀ + 1) 57 (fun _ => #[fv]) () X Y r h3 hg hr
  · exact blk_own (β := Unit) (n₀ + 1 + 1) 26 (fun _ => #[.int .u32 0, .slice none 0 0]) () X Y r h4 hg hr

set_option maxRecDepth 100000 in
set_option maxHeartbeats 2000000 in
theorem map_any (m : List (Option Int)) (v : Value) (w : World) (S : Nat → Prop) (kb : Nat) (k : Int) (hv : RowIn w S m v) (hk : Blk w kb 3 #[.int .i64 k]) (hT : TabAt w) (hg : 0 < w.heap.size) :
    Calls Tryd.prog 21 #[v, .func (.func 22) #[] #[.pointer (some ⟨kb, 0, none⟩)]] w fun e w' =>
      ∃ v', e = .returned v' ∧ RowIn w' (fun j => w.heap.size ≤ j ∧ j < w'.heap.size) (Sp.mapI (fx k) m) v' ∧ Below w.heap.size w w' := by
  obtain ⟨h1, h5, A, c, rfl, h3, h4⟩ := hv
  have HT := Lib.hid hT
  have HM := Lib.hid h1
  have HS := Lib.hid h5
  have HR := Lib.hid h4
  have hvl : (Sp.vals m).length ≤ 32 := by have := Sp.vals_len_le m; omega
  obtain ⟨i0, hi, hz0, hz1, hz2⟩ := info_parts info_int
  have HI := Lib.hid hi
  have HZ0 := Lib.hid hz0
  have HZ1 := Lib.hid hz1
  have HZ2 := Lib.hid hz2
  have HK := Lib.hid hk
  clear h1 h5 h3 h4 hT hi hz0 hz1 hz2 hk
  refine enter_marks Tryd.func21 rfl ?_
  simp only [Tryd.ntmps21, List.size_toArray, List.length_cons, List.length_nil, Nat.reduceAdd, Nat.reduceSub, Array.replicate_succ, Array.replicate_zero, List.push_toArray, List.append_toArray, List.nil_append, List.cons_append]
  go_wp2_with fail
  have b2 : Blk ((((w.alloc (.cells #[.int .u32 (Sp.bitsL m), .slice A (Sp.vals m).length c] 26)).alloc (.cells #[.func (.func 22) #[] #[.pointer (some ⟨kb, 0, none⟩)]] 57)).alloc (.cells #[.int .u32 0, .slice none 0 0] 26)).alloc (.cells #[.slice none 0 0] 23)) w.heap.size 26 #[.int .u32 (Sp.bitsL m), .slice A (Sp.vals m).length c] := (((Blk.new w 26 #[.int .u32 (Sp.bitsL m), .slice A (Sp.vals m).length c]).alloc _).alloc _).alloc _
  have b3 : Blk ((((w.alloc (.cells #[.int .u32 (Sp.bitsL m), .slice A (Sp.vals m).length c] 26)).alloc (.cells #[.func (.func 22) #[] #[.pointer (some ⟨kb, 0, none⟩)]] 57)).alloc (.cells #[.int .u32 0, .slice none 0 0] 26)).alloc (.cells #[.slice none 0 0] 23)) (w.heap.size + 1) 57 #[.func (.func 22) #[] #[.pointer (some ⟨kb, 0, none⟩)]] := by
    have := Blk.new (w.alloc (.cells #[.int .u32 (Sp.bitsL m), .slice A (Sp.vals m).length c] 26)) 57 #[.func (.func 22) #[] #[.pointer (some ⟨kb, 0, none⟩)]]
    rw [World.size_alloc] at this
    exact (this.alloc _).alloc _
  have b4 : Blk ((((w.alloc (.cells #[.int .u32 (Sp.bitsL m), .slice A (Sp.vals m).length c] 26)).alloc (.cells #[.func (.func 22) #[] #[.pointer (some ⟨kb, 0, none⟩)]] 57)).alloc (.cells #[.int .u32 0, .slice none 0 0] 26)).alloc (.cells #[.slice none 0 0] 23)) (w.heap.size + 1 + 1) 26 #[.int .u32 0, .slice none 0 0] := by
    have := Blk.new ((w.alloc (.cells #[.int .u32 (Sp.bitsL m), .slice A (Sp.vals m).length c] 26)).alloc (.cells #[.func (.func 22) #[] #[.pointer (some ⟨kb, 0, none⟩)]] 57)) 26 #[.int .u32 0, .slice none 0 0]
    simp only [World.size_alloc] at this
    exact this.alloc _
  have b5 : Boxed ((((w.alloc (.cells #[.int .u32 (Sp.bitsL m), .slice A (Sp.vals m).length c] 26)).alloc (.cells #[.func (.func 22) #[] #[.pointer (some ⟨kb, 0, none⟩)]] 57)).alloc (.cells #[.int .u32 0, .slice none 0 0] 26)).alloc (.cells #[.slice none 0 0] 23)) (w.heap.size + 1 + 1 + 1) 23 (.slice none 0 0) := by
    have := Boxed.new (((w.alloc (.cells #[.int .u32 (Sp.bitsL m), .slice A (Sp.vals m).length c] 26)).alloc (.cells #[.func (.func 22) #[] #[.pointer (some ⟨kb, 0, none⟩)]] 57)).alloc (.cells #[.int .u32 0, .slice none 0 0] 26)) 23 (.slice none 0 0)
    simp only [World.size_alloc] at this
    exact this
  have hBa : Below w.heap.size w ((((w.alloc (.cells #[.int .u32 (Sp.bitsL m), .slice A (Sp.vals m).length c] 26)).alloc (.cells #[.func (.func 22) #[] #[.pointer (some ⟨kb, 0, none⟩)]] 57)).alloc (.cells #[.int .u32 0, .slice none 0 0] 26)).alloc (.cells #[.slice none 0 0] 23)) := ((((Below.refl _ _).alloc (Nat.le_refl _) _).alloc (by simp) _).alloc (by simp; omega) _).alloc (by simp; omega) _
  have hza : Hid (((((w.alloc (.cells #[.int .u32 (Sp.bitsL m), .slice A (Sp.vals m).length c] 26)).alloc (.cells #[.func (.func 22) #[] #[.pointer (some ⟨kb, 0, none⟩)]] 57)).alloc (.cells #[.int .u32 0, .slice none 0 0] 26)).alloc (.cells #[.slice none 0 0] 23)).heap.size = w.heap.size + 4) := Lib.hid (by simp)
  generalize ((((w.alloc (.cells #[.int .u32 (Sp.bitsL m), .slice A (Sp.vals m).length c] 26)).alloc (.cells #[.func (.func 22) #[] #[.pointer (some ⟨kb, 0, none⟩)]] 57)).alloc (.cells #[.int .u32 0, .slice none 0 0] 26)).alloc (.cells #[.slice none 0 0] 23)) = wa at *
  refine (all_any _ _ _).mono ?_
  rintro e w9 ⟨rfl, rfl⟩
  have HBox := Lib.hid (Blk.new wa 26 #[.int .u32 (Sp.bitsL m), .slice A (Sp.vals m).length c])
  have hBb : Below wa.heap.size wa (wa.alloc (.cells #[.int .u32 (Sp.bitsL m), .slice A (Sp.vals m).length c] 26)) := (Below.refl _ _).alloc (Nat.le_refl _) _
  have hzb : (wa.alloc (.cells #[.int .u32 (Sp.bitsL m), .slice A (Sp.vals m).length c] 26)).heap.size = wa.heap.size + 1 := by simp
  generalize wa.alloc (.cells #[.int .u32 (Sp.bitsL m), .slice A (Sp.vals m).length c] 26) = wb at *
  have hza0 := hBa.size
  have hzb0 := hBb.size
  have hzl : w.heap.size < wa.heap.size := by rw [hza.out]; omega
  have HB2 := Lib.hid (hBa.trans (hBb.mono (by omega)))
  have HT3 := Lib.hid (HT.out.below HB2.out hg)
  have HR3 := Lib.hid ((HR.out.below HB2.out HS.out).more HS.out)
  replace b2 := Lib.hid (b2.below hBb b2.lt)
  replace b3 := Lib.hid (b3.below hBb b3.lt)
  replace b4 := Lib.hid (b4.below hBb b4.lt)
  replace b5 := Lib.hid (show Boxed wb (w.heap.size + 1 + 1 + 1) 23 (.slice none 0 0) from (hBb.block _ b5.lt).trans b5)
  clear hBa hBb HT HR
  go_wp2_with fail
  refine (wpIn_wide (n := 3)).1 ?_
  have h1n : 1 ≤ 3 := by omega
  refine wpIn_rangeFunc_ownG (F := Fence.wide) (n := 3) rfl h1n (gf := 35) (lb := #[.pointer (some ⟨wa.heap.size, 0, none⟩)]) rfl trivial (enters_of Tryd.func35 (by kernel_rfl) rfl)
    (all_stops 2 (by omega) wa.heap.size w.heap.size m A c wb HM.out hvl hg (by omega) (by omega) HBox.out HR3.out HT3.out) belowK_t (belowK_b (by omega)) (Below.refl _ _) (fun _ => rfl)
    (fun pre W => MI w.heap.size k #[.int .u32 (Sp.bitsL m), .slice A (Sp.vals m).length c] (.func (.func 22) #[] #[.pointer (some ⟨kb, 0, none⟩)]) pre W ∧ Below w.heap.size w W)
    (fun _ _ _ => False)
    (OwnFrom.and (Own.from (MI.own w.heap.size k #[.int .u32 (Sp.bitsL m), .slice A (Sp.vals m).length c] (.func (.func 22) #[] #[.pointer (some ⟨kb, 0, none⟩)])) wb.heap.size) (ownFrom_below (Nat.le_refl _) (by omega)))
    (fun _ _ _ _ _ hs _ _ => hs)
    ⟨⟨⟨_, b5.out, World.ownsRow_nil _ _ _ _, trivial⟩, b2.out, b3.out, b4.out⟩, HB2.out⟩
    (fun x => { tmps := #[.agg #[.int .u32 (Sp.bitsL m), .slice A (Sp.vals m).length c], .func (.func 22) #[] #[.pointer (some ⟨kb, 0, none⟩)], .pointer (some ⟨w.heap.size, 0, none⟩), .pointer (some ⟨w.heap.size + 1, 0, none⟩), .pointer (some ⟨w.heap.size + 1 + 1, 0, none⟩), .pointer (some ⟨w.heap.size + 1 + 1 + 1, 0, none⟩), .int .i64 (x.1 : Int), .int .i64 x.2, .agg #[.int .u32 (Sp.bitsL m), .slice A (Sp.vals m).length c], .func (.func 35) #[] #[.pointer (some ⟨wa.heap.size, 0, none⟩)], .int .i64 (x.1 : Int), .int .i64 x.2, undef, undef, undef, undef, undef, undef, undef, undef, undef, undef, undef], defers := [] }) ?assign ?body ?done ?stop
  case assign =>
    intro l x W K hK
    gi_wp2
    exact hK
  case body =>
    rintro l pre x W ⟨hMI, hB⟩ hlt
    obtain ⟨⟨u, hu, ho, -⟩, r2, r3, r4⟩ := hMI
    have hkc : W.cell? ⟨kb, 0, none⟩ = some (.int .i64 k) := (HK.out.below hB HK.out.lt).cell 0
    have hc5 := hu.cell
    have hf5 := hu.frozen
    have hc3 : W.cell? ⟨w.heap.size + 1, 0, none⟩ = some (.func (.func 22) #[] #[.pointer (some ⟨kb, 0, none⟩)]) := r3.cell 0
    have HU := Lib.hid hu
    have HO := Lib.hid ho
    have HR2 := Lib.hid r2
    have HR3' := Lib.hid r3
    have HR4 := Lib.hid r4
    have HBW := Lib.hid hB
    have hpl : pre.length < 32 := by omega
    have hW0 := hB.size
    clear hu ho r2 r3 r4 hB b2 b3 b4 b5
    refine wpIn_block ?_
    refine wpIn_region_ht 6 (fun w' => w'.cell? ⟨w.heap.size + 1 + 1 + 1, 0, none⟩ = some u ∧ w'.cell? ⟨w.heap.size + 1, 0, none⟩ = some (.func (.func 22) #[] #[.pointer (some ⟨kb, 0, none⟩)]) ∧ w'.cell? ⟨kb, 0, none⟩ = some (.int .i64 k)) (by kernel_rfl) (by kernel_rfl) (by kernel_rfl) ⟨hc5, hc3, hkc⟩ (fun hst hS => ?_)
    refine wpAnyT_take 0 (oi := ⟨_, _, _, _, _, _⟩) (v := ?_) hst rfl (by kernel_rfl) (fun _ _ _ h => h) (Or.inl ⟨by rfl, ?_⟩) hS ?_
    rotate_left
    · (intro w hSw; (try dsimp only at hSw); go_simp; try with_reducible rfl)
    try simp only [Act.put, List.setIfInBounds_toArray, List.set_cons_zero, List.set_cons_succ]
    refine wpAnyT_take 1 (oi := ⟨_, _, _, _, _, _⟩) (v := ?_) hst rfl (by kernel_rfl) (fun _ _ _ h => h) (Or.inl ⟨by rfl, ?_⟩) hS ?_
    rotate_left
    · (intro w hSw; (try dsimp only at hSw); go_simp; try with_reducible rfl)
    try simp only [Act.put, List.setIfInBounds_toArray, List.set_cons_zero, List.set_cons_succ]
    refine wpAnyT_take 2 (oi := ⟨_, _, _, _, _, _⟩) (v := ?_) hst rfl (by kernel_rfl) (fun _ _ _ h => h) (Or.inl ⟨by rfl, ?_⟩) hS ?_
    rotate_left
    · (intro w hSw; (try dsimp only at hSw); go_simp; try with_reducible rfl)
    try simp only [Act.put, List.setIfInBounds_toArray, List.set_cons_zero, List.set_cons_succ]
    refine wpAnyT_take 3 (oi := ⟨_, _, _, _, _, _⟩) (v := ?_) hst rfl (by kernel_rfl) (fun _ _ _ h => h) (Or.inl ⟨by rfl, ?_⟩) hS ?_
    rotate_left
    · (intro w hSw; (try dsimp only at hSw); go_simp; try with_reducible rfl)
    try simp only [Act.put, List.setIfInBounds_toArray, List.set_cons_zero, List.set_cons_succ]
    refine wpAnyT_one 4 (o := ⟨_, _, _, _, _, _⟩) (by kernel_rfl) (by decide) rfl (fun K hK => ?_)
    go_simp
    refine (clo_any k _ _ kb _ hS.2.2).mono ?_
    rintro e w9 ⟨rfl, rfl⟩
    refine hK.out _ _ hS (fun hS => ?_)
    clear hK K
    try simp only [Act.put, List.setIfInBounds_toArray, List.set_cons_zero, List.set_cons_succ]
    refine wpAnyT_one 5 (o := ⟨_, _, _, _, _, _⟩) (by kernel_rfl) (by decide) rfl (fun K hK => ?_)
    clear hst
    go_simp
    have hkl : kb < W.heap.size := Nat.lt_of_lt_of_le HK.out.lt hW0
    have hul := HU.out.lt
    have h3l := HR3'.out.lt
    obtain ⟨val, hval⟩ : ∃ val, val = Value.int .i64 (bits .xor .i64 (bits .xor .i64 x.2 x.1) k) := ⟨_, rfl⟩
    have hone : val.oneCell' = true := by rw [hval]; rfl
    rw [← hval]
    have hrd : Reads (W.alloc (.cells #[val] 3)).drew (fun j => j = W.heap.size) 1 (some ⟨W.heap.size, 0, none⟩) 1 [val] := ⟨by simp, fun _ => ⟨_, rfl, rfl, fun j u hj => by
      cases j with
      | zero => simp at hj; subst hj; exact (Blk.new W 3 #[val]).cell 0
      | succ j => simp at hj⟩⟩
    have k1 : ∀ j, j < W.heap.size → (W.alloc (.cells #[val] 3)).drew.heap[j]? = W.heap[j]? := fun j hj => Below.heap_alloc _ _ _ hj
    refine hK.out _ _ ⟨(World.cell?_of_block (w := W) (k1 _ hul)).trans hc5, (World.cell?_of_block (w := W) (k1 _ h3l)).trans hc3, (World.cell?_of_block (w := W) (k1 _ hkl)).trans hkc⟩ (fun hS => ?_)
    clear hK K
    try simp only [Act.put, List.setIfInBounds_toArray, List.set_cons_zero, List.set_cons_succ]
    refine wpAnyT_done (by kernel_rfl) ?_
    simp only [List.drop_succ_cons, List.drop_zero]
    clear hS
    refine wpList_append_any _ rfl (.tmp 12) (.tmp 17) 23 rfl w.heap.size 3 i0 (.int .i64 0) 1 8 Tryd.underlying23 HI.out HZ0.out HZ1.out HZ2.out rfl (by omega) u pre.length (fxs k pre) rfl (show (W.alloc (.cells #[val] 3)).drew.ownsRow _ _ _ _ _ _ from HO.out.alloc _) (fun j => j = W.heap.size) (some ⟨W.heap.size, 0, none⟩) 1 1 [val] rfl hrd (by simpa using hone) (by simp only [maxLen]; omega) (by omega) (by simp; omega) ?_
    intro v' w1 hown' hg' hat'
    obtain ⟨g', cap', rfl⟩ := ownsRow_succ hown'
    obtain ⟨hv1, hv2, hr2, hk2, hb2⟩ := (show Boxed W.drew _ _ _ from HU.out).appended (by decide) (show W.drew.ownsRow _ _ _ _ _ _ from HO.out) hW0 (by omega) hown' hg'
    have hc1 := hv1.cell
    have hf1 := hv1.frozen
    clear hc5 hf5 hc3 hkc hrd k1 hat'
    go_wp2_with fail
    have far : ∀ (B : Nat) (t : TypeId) (cs : Array Value), Blk W B t cs → t ≠ 3 → B ≠ w.heap.size + 1 + 1 + 1 → Blk (w1.setCell ⟨w.heap.size + 1 + 1 + 1, 0, none⟩ (.slice (some ⟨g', 0, none⟩) (pre.length + 1) cap')) B t cs := fun B t cs h ht hne =>
      ((h.alloc (.cells #[val] 3)).drew.grown hg' (blk_not_row h ht HO.out)).far (p := ⟨w.heap.size + 1 + 1 + 1, 0, none⟩) hne _
    have hpx : (pre ++ [x]).length = pre.length + 1 := by simp
    have hfx : fxs k (pre ++ [x]) = fxs k pre ++ [val] := by rw [hval]; simp [fxs, fx]
    refine ⟨((KeepsOthers.drew W).trans hk2).from _, (Below.refl _ W).drew.trans hb2, ⟨⟨_, hv2, ?_, trivial⟩, far _ _ _ HR2.out (by decide) (by omega), far _ _ _ HR3'.out (by decide) (by omega), far _ _ _ HR4.out (by decide) (by omega)⟩, HBW.out.trans ((Below.refl _ W).drew.trans hb2)⟩
    rw [hpx, hfx]
    exact hr2
  case done =>
    rintro D ys W hD rfl ⟨hMI, hB⟩ hK
    obtain ⟨⟨u, hu, ho, -⟩, r2, r3, r4⟩ := hMI
    have c5 := hu.cell
    have c20 : W.cell? ⟨w.heap.size, 0, none⟩ = some (.int .u32 (Sp.bitsL m)) := r2.cell 0
    have c40 : W.cell? ⟨w.heap.size + 1 + 1, 0, none⟩ = some (.int .u32 0) := r4.cell 0
    have c41 : W.cell? ⟨w.heap.size + 1 + 1, 1, none⟩ = some (.slice none 0 0) := r4.cell 1
    have f40 := r4.frozen 0
    have f41 := r4.frozen 1
    obtain ⟨A', c', rfl, hcap⟩ := own_shape ho
    have HO := Lib.hid ho
    have HR4 := Lib.hid r4
    have HBW := Lib.hid hB
    have HKD := Lib.hid hK
    clear hu ho r2 r3 r4 hB hK b2 b3 b4 b5 HR3 HT3 HBox HB2
    go_wp2_with fail
    have hK' := ((KeepsOthers.setCell W ⟨w.heap.size + 1 + 1, 0, none⟩ (.int .u32 (Sp.bitsL m))).trans (KeepsOthers.setCell _ ⟨w.heap.size + 1 + 1, 1, none⟩ (.slice A' (Sp.prs m).length c'))).same D _ HKD.out rfl
    have r4' : Blk ((W.setCell ⟨w.heap.size + 1 + 1, 0, none⟩ (.int .u32 (Sp.bitsL m))).setCell ⟨w.heap.size + 1 + 1, 1, none⟩ (.slice A' (Sp.prs m).length c')) (w.heap.size + 1 + 1) 26 #[.int .u32 (Sp.bitsL m), .slice A' (Sp.prs m).length c'] := by
      have := (HR4.out.set_ 0 (.int .u32 (Sp.bitsL m))).set_ 1 (.slice A' (Sp.prs m).length c')
      simpa using this
    have hB2 := (HBW.out.setCell (p := ⟨w.heap.size + 1 + 1, 0, none⟩) (by simp; omega) (.int .u32 (Sp.bitsL m))).setCell (p := ⟨w.heap.size + 1 + 1, 1, none⟩) (by simp; omega) (.slice A' (Sp.prs m).length c')
    have ho2 : (((W.setCell ⟨w.heap.size + 1 + 1, 0, none⟩ (.int .u32 (Sp.bitsL m))).setCell ⟨w.heap.size + 1 + 1, 1, none⟩ (.slice A' (Sp.prs m).length c')).putObj D (.deferred none)).ownsRow w.heap.size 3 1 (.slice A' (Sp.prs m).length c') (Sp.prs m).length (fxs k (Sp.prs m)) := by
      refine ownsRow_heap HO.out fun g hg0 ⟨cur, fr, hgc⟩ => ?_
      have e1 : g ≠ D := by rintro rfl; rw [HKD.out] at hgc; cases hgc
      have e2 : g ≠ w.heap.size + 1 + 1 := by
        rintro rfl
        exact blk_not_row HR4.out (by decide) HO.out hg0.symm
      rw [World.putObj_heap_other e1, Below.heap_setCell _ _ _ _ e2, Below.heap_setCell _ _ _ _ e2]
    generalize (W.setCell ⟨w.heap.size + 1 + 1, 0, none⟩ (.int .u32 (Sp.bitsL m))).setCell ⟨w.heap.size + 1 + 1, 1, none⟩ (.slice A' (Sp.prs m).length c') = W2 at *
    have hD0 : w.heap.size ≤ D := by omega
    have hB3 := hB2.trans (belowK_b (w := w) (Nat.le_refl _) W2 D _ (.deferred none) hD0 hK' rfl rfl)
    have q0 : (W2.putObj D (.deferred none)).cell? ⟨w.heap.size + 1 + 1, 0, none⟩ = some (.int .u32 (Sp.bitsL m)) := cell_kept (r4'.cell 0) (grownBy_putObj' _ D (.deferred none)) (fun r e => by cases e; exact ⟨_, hK', rfl⟩)
    have q1 : (W2.putObj D (.deferred none)).cell? ⟨w.heap.size + 1 + 1, 1, none⟩ = some (.slice A' (Sp.prs m).length c') := cell_kept (r4'.cell 1) (grownBy_putObj' _ D (.deferred none)) (fun r e => by cases e; exact ⟨_, hK', rfl⟩)
    refine ⟨by simp, .inl ⟨_, _, rfl, run_takeDeferred hK', ?_⟩⟩
    refine ⟨.agg #[.int .u32 (Sp.bitsL m), .slice A' (Sp.prs m).length c'], ?_, _, rfl, ?_, hB3⟩
    · simp [results, Tryd.f21, go_sem, q0, q1]
    · have hv := Sp.mapI_vals (fx k) m
      have hl : (Sp.vals (Sp.mapI (fx k) m)).length = (Sp.prs m).length := by rw [hv]; simp
      refine ⟨(Sp.mapI_len _ m).trans HM.out, fun j hj => hj.2, A', c', by rw [Sp.mapI_bits, hl], by rw [hl]; exact hcap, ?_⟩
      have := Reads.of_own ho2
      rw [hl, hv]
      simpa [fxs, Function.comp_def] using this
  case stop =>
    rintro D c pre W _ _ h _
    exact h.elim
end Go.Proofs.YtbgmlcakdkkfdaaDoor
