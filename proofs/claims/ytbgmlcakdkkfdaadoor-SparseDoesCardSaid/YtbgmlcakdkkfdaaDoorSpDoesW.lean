/-
  THE WALK of SparseDoes.
-/
import Derived.Test.YtbgmlcakdkkfdaaDoorSpR
import Derived.Deep.DeepCutAuto
import Derived.Deep.CutRange
namespace Go.Proofs.YtbgmlcakdkkfdaaDoor
open Go.RowKit Go.BigFrame
attribute [local go_sem ↓] exec_load_ref
attribute [local go_sem] isHead_ptr blockOf_ptr drew_heap drewN_heap

theorem info_rowz : (Tryd.prog.info? 26).map (fun i => (i.zero, i.size, i.bytes)) = some (some (.agg #[.int .u32 0, .slice none 0 0]), 2, 32) := by kernel_rfl
theorem info_refz : (Tryd.prog.info? 33).map (fun i => (i.zero, i.size, i.bytes)) = some (some (.agg (refL m0).toArray), 64, 288) := by kernel_rfl
theorem info_row : (Tryd.prog.info? 26).map (fun i => (i.zero.isSome, i.size, i.bytes)) = some (true, 2, 32) := by kernel_rfl
theorem info_ref : (Tryd.prog.info? 33).map (fun i => (i.zero.isSome, i.size, i.bytes)) = some (true, 64, 288) := by kernel_rfl

set_option maxHeartbeats 1000000 in
theorem sdoes_long (n c : Nat) (A : Option Addr) (ask : Int) (w : World) (hT : TabAt w) (hg : 0 < w.heap.size) (hn : 100 < n) :
    Calls Tryd.prog 4 #[.slice A n c, .int .i64 ask] w (TrueOut w) := by
  have HT := Lib.hid hT
  clear hT
  go_enter Tryd.func4, Tryd.ntmps4
  go_wp2_with fail
  refine (live_any _ HT.out hg).mono ?_
  rintro e w1 ⟨rfl, hb1⟩
  go_wp2_with fail
  refine (live_any _ (HT.out.below hb1 hg) (by have := hb1.size; omega)).mono ?_
  rintro e w2 ⟨rfl, hb2⟩
  go_wp2
  go_ret
  exact ⟨rfl, hb1.trans (hb2.mono hb1.size)⟩

set_option maxRecDepth 4000 in
set_option maxHeartbeats 2000000 in
theorem sdoes_core (l : List SOp) (A : Option Addr) (c : Nat) (ask : Int) (w : World) (hT : TabAt w) (hg : 0 < w.heap.size) (hn : ¬ 100 < l.length) (hl : OpsIn w.heap.size w A l) :
    Calls Tryd.prog 4 #[.slice A l.length c, .int .i64 ask] w (TrueOut w) := by
  have HT := Lib.hid hT
  have HL := Lib.hid hl
  have hlen1 : (l.length : Int) ≤ 100 := by omega
  clear hT hl
  go_enter Tryd.func4, Tryd.ntmps4
  go_wp2_with fail
  refine (live_any _ HT.out hg).mono ?_
  rintro e w1 ⟨rfl, hb1⟩
  have hz1 := hb1.size
  have HZ := Lib.hid (show Blk (w1.alloc (.cells #[.int .u32 0, .slice none 0 0] 26)) w1.heap.size 26 #[.int .u32 0, .slice none 0 0] from Blk.new w1 _ _)
  go_wp2_with (first | (refine wpList_alloc_blk rfl 33 rfl (.agg (refL m0).toArray) ref_zero ?_; intro w2 HZ2 hb2 HS2))
  have hs2 := HS2.out
  simp only [World.size_alloc] at hs2
  obtain ⟨g, hgd⟩ : ∃ g, g = w1.heap.size := ⟨_, rfl⟩
  obtain ⟨d, hdd⟩ : ∃ d, d = w1.heap.size + 1 := ⟨_, rfl⟩
  have hI : Hid (DoesInv w g d (.slice none 0 0) (.slice none 0 0) [] m0 w2) := Lib.hid (by
    have hB : Below w.heap.size w w2 := (hb1.alloc hz1 _).trans (hb2.mono (by simp; omega))
    refine ⟨⟨⟨m0_len, .inl rfl, .inr (.inl rfl), by omega, by have h := HZ2.out; simp only [World.size_alloc] at h; rw [hdd]; exact h, none, 0, ?_, ?_⟩, hB, ?_⟩, ⟨rfl, .inl ⟨rfl, rfl⟩⟩, ⟨rfl, .inl ⟨rfl, rfl⟩⟩, ⟨by simp [Value.ownBlock], by simp [Value.ownBlock], by simp [Value.ownBlock], by simp [Value.ownBlock]⟩, by simp [Value.ownBlock], fun h hh => by cases hh⟩
    · rw [show Sp.bitsL m0 = 0 by decide, show (Sp.vals m0).length = 0 by decide, hgd]
      exact HZ.out.below hb2 (by simp)
    · rw [show Sp.bitsL m0 = 0 by decide, show (Sp.vals m0).length = 0 by decide]
      exact (row_zero w2).more (fun _ h => h.elim) (fun _ h => h.1)
    · intro k hk
      rcases hk with rfl | rfl | h | h
      · omega
      · omega
      · simp [Value.ownBlock] at h
      · simp [Value.ownBlock] at h)
  simp only [World.size_alloc, Act.put, List.setIfInBounds_toArray, List.set_cons_zero, List.set_cons_succ]
  rw [← hdd, ← hgd]
  clear HZ HZ2 HS2 hb1 hb2 hs2 hz1 hgd hdd
  obtain ⟨A0, c0, HV, f0, f1, f2, f3, hgl, hdl⟩ := hI.out.1.1.facts
  go_upto_region 5 with fail
  go_cut [7, 8] (fun s7 s8 wx => ∃ hh : Hist, Hid (DoesInv w g d s7 s8 [hh] m0 wx))
  case first =>
    refine wp_region_ht 5 (fun w' => bcells w'.heap d = (refL m0).toArray ∧ Whole 64 w'.heap d ∧ w'.cell? ⟨g, 0, none⟩ = some (.int .u32 (Sp.bitsL m0)) ∧ w'.cell? ⟨g, 1, none⟩ = some (.slice A0 (Sp.vals m0).length c0)) (by kernel_rfl) (by kernel_rfl) ⟨f2, f3, f0, f1⟩ (fun hst hS => ?_)
    refine wpAnyT_take 0 (oi := ⟨_, _, _, _, _, _⟩) (v := ?_) hst rfl (by kernel_rfl) (fun _ _ _ h => h) (Or.inl ⟨by rfl, ?_⟩) hS ?_
    rotate_left
    · (intro w hSw; (try dsimp only at hSw); go_simp; try with_reducible rfl)
    try simp only [Act.put, List.setIfInBounds_toArray, List.set_cons_zero, List.set_cons_succ]
    refine wpAnyT_take 2 (oi := ⟨_, _, _, _, _, _⟩) (v := ?_) hst rfl (by kernel_rfl) (fun _ _ _ h => h) (Or.inl ⟨by rfl, ?_⟩) hS ?_
    rotate_left
    · (intro w hSw; (try dsimp only at hSw); go_simp; try with_reducible rfl)
    try simp only [Act.put, List.setIfInBounds_toArray, List.set_cons_zero, List.set_cons_succ]
    refine wpAnyT_two 1 3 (o := ⟨_, _, _, _, _, _⟩) (o' := ⟨_, _, _, _, _, _⟩) (by kernel_rfl) (by decide) rfl rfl (fun K hK => ?_) (fun K hK => ?_)
    · rw [if_pos (by rfl)]
      refine wp_build_one 39 26 (.tmp 24) rfl [.int .u32 (Sp.bitsL m0), .slice A0 (Sp.vals m0).length c0] rfl Tryd.underlying39 (by kernel_rfl) (by kernel_rfl) (by simp) (by simp) ?_
      have k1 : ∀ k, k < w2.heap.size → (w2.drew.alloc (.cells [.int .u32 (Sp.bitsL m0), .slice A0 (Sp.vals m0).length c0].toArray 26)).heap[k]? = w2.heap[k]? := fun k hk => Below.heap_alloc _ _ _ hk
      refine hK.out _ _ ⟨(bcells_eq (k1 d hdl)).trans f2, whole_eq (k1 d hdl) f3, (World.cell?_of_block (w := w2) (k1 g hgl)).trans f0, (World.cell?_of_block (w := w2) (k1 g hgl)).trans f1⟩ (fun hS => ?_)
      clear hK K
      try simp only [Act.put, List.setIfInBounds_toArray, List.set_cons_zero, List.set_cons_succ]
      refine wpAnyT_take 4 (oi := ⟨_, _, _, _, _, _⟩) (v := ?_) hst rfl (by kernel_rfl) (fun _ _ _ h => h) (Or.inl ⟨by rfl, ?_⟩) hS ?_
      rotate_left
      · (intro w hSw; (try dsimp only at hSw); go_simp; try with_reducible rfl)
      try simp only [Act.put, List.setIfInBounds_toArray, List.set_cons_zero, List.set_cons_succ]
      refine wpAnyT_one 3 (o := ⟨_, _, _, _, _, _⟩) (by kernel_rfl) (by decide) rfl (fun K hK => ?_)
      rw [if_pos (by rfl)]
      refine wp_build_one 40 33 (.tmp 26) rfl (refL m0) rfl Tryd.underlying40 (by kernel_rfl) (by kernel_rfl) (by simp [refL_len, m0_len]) (by simp [refL_len, m0_len]) ?_
      have k2 : ∀ k, k < w2.heap.size → ((w2.drew.alloc (.cells [.int .u32 (Sp.bitsL m0), .slice A0 (Sp.vals m0).length c0].toArray 26)).alloc (.cells (refL m0).toArray 33)).heap[k]? = w2.heap[k]? := fun k hk => (Below.heap_alloc _ _ _ (by simp; omega)).trans (k1 k hk)
      refine hK.out _ _ ⟨(bcells_eq (k2 d hdl)).trans f2, whole_eq (k2 d hdl) f3, (World.cell?_of_block (w := w2) (k2 g hgl)).trans f0, (World.cell?_of_block (w := w2) (k2 g hgl)).trans f1⟩ (fun hS => ?_)
      clear hK K
      try simp only [Act.put, List.setIfInBounds_toArray, List.set_cons_zero, List.set_cons_succ]
      refine wpAnyT_done (by kernel_rfl) ?_
      simp only [List.drop_succ_cons, List.drop_zero]
      clear hst
      have hw2 := hI.out.1.2.1.size
      have h7 : ((w2.drew.alloc (.cells [.int .u32 (Sp.bitsL m0), .slice A0 (Sp.vals m0).length c0].toArray 26)).alloc (.cells (refL m0).toArray 33)).ownsRow w.heap.size 26 2 (.slice (some ⟨w2.heap.size, 0, none⟩) 1 1) 1 (hBox (m0, A0, c0)) := (owns_built w2.drew w.heap.size 26 [.int .u32 (Sp.bitsL m0), .slice A0 (Sp.vals m0).length c0] hw2).alloc _
      have h8 : ((w2.drew.alloc (.cells [.int .u32 (Sp.bitsL m0), .slice A0 (Sp.vals m0).length c0].toArray 26)).alloc (.cells (refL m0).toArray 33)).ownsRow w.heap.size 33 64 (.slice (some ⟨w2.heap.size + 1, 0, none⟩) 1 1) 1 (refL m0) := by have := owns_built (w2.drew.alloc (.cells [.int .u32 (Sp.bitsL m0), .slice A0 (Sp.vals m0).length c0].toArray 26)) w.heap.size 33 (refL m0) (by simp; omega); rw [(show (refL m0).length = 64 by simp [refL_len, m0_len])] at this; simpa using this
      have ht : Turn none none w2 ((w2.drew.alloc (.cells [.int .u32 (Sp.bitsL m0), .slice A0 (Sp.vals m0).length c0].toArray 26)).alloc (.cells (refL m0).toArray 33)) := Turn.of_below (((Below.refl _ _).drew.alloc (Nat.le_refl _) _).alloc (by simp) _)
      have hI5 := Lib.hid (hI.out.appended (v7' := (.slice (some ⟨w2.heap.size, 0, none⟩) 1 1)) (v8' := (.slice (some ⟨w2.heap.size + 1, 0, none⟩) 1 1)) HV ht h7 h8 (.inr ⟨w2.heap.size, rfl, by omega⟩) (.inr ⟨w2.heap.size + 1, rfl, by omega⟩) (by simp [Value.ownBlock]))
      clear h7 h8 ht k1 k2 hS
      simp only [World.size_alloc, World.size_drew]
      generalize ((w2.drew.alloc (.cells [.int .u32 (Sp.bitsL m0), .slice A0 (Sp.vals m0).length c0].toArray 26)).alloc (.cells (refL m0).toArray 33)) = w5 at *
      go_wp2_with fail
      go_meet
      exact ⟨_, hI5⟩
    · rw [if_pos (by rfl)]
      refine wp_build_one 40 33 (.tmp 26) rfl (refL m0) rfl Tryd.underlying40 (by kernel_rfl) (by kernel_rfl) (by simp [refL_len, m0_len]) (by simp [refL_len, m0_len]) ?_
      have k1 : ∀ k, k < w2.heap.size → (w2.drew.alloc (.cells (refL m0).toArray 33)).heap[k]? = w2.heap[k]? := fun k hk => Below.heap_alloc _ _ _ hk
      refine hK.out _ _ ⟨(bcells_eq (k1 d hdl)).trans f2, whole_eq (k1 d hdl) f3, (World.cell?_of_block (w := w2) (k1 g hgl)).trans f0, (World.cell?_of_block (w := w2) (k1 g hgl)).trans f1⟩ (fun hS => ?_)
      clear hK K
      try simp only [Act.put, List.setIfInBounds_toArray, List.set_cons_zero, List.set_cons_succ]
      refine wpAnyT_one 1 (o := ⟨_, _, _, _, _, _⟩) (by kernel_rfl) (by decide) rfl (fun K hK => ?_)
      rw [if_pos (by rfl)]
      refine wp_build_one 39 26 (.tmp 24) rfl [.int .u32 (Sp.bitsL m0), .slice A0 (Sp.vals m0).length c0] rfl Tryd.underlying39 (by kernel_rfl) (by kernel_rfl) (by simp) (by simp) ?_
      have k2 : ∀ k, k < w2.heap.size → ((w2.drew.alloc (.cells (refL m0).toArray 33)).alloc (.cells [.int .u32 (Sp.bitsL m0), .slice A0 (Sp.vals m0).length c0].toArray 26)).heap[k]? = w2.heap[k]? := fun k hk => (Below.heap_alloc _ _ _ (by simp; omega)).trans (k1 k hk)
      refine hK.out _ _ ⟨(bcells_eq (k2 d hdl)).trans f2, whole_eq (k2 d hdl) f3, (World.cell?_of_block (w := w2) (k2 g hgl)).trans f0, (World.cell?_of_block (w := w2) (k2 g hgl)).trans f1⟩ (fun hS => ?_)
      clear hK K
      try simp only [Act.put, List.setIfInBounds_toArray, List.set_cons_zero, List.set_cons_succ]
      refine wpAnyT_take 4 (oi := ⟨_, _, _, _, _, _⟩) (v := ?_) hst rfl (by kernel_rfl) (fun _ _ _ h => h) (Or.inl ⟨by rfl, ?_⟩) hS ?_
      rotate_left
      · (intro w hSw; (try dsimp only at hSw); go_simp; try with_reducible rfl)
      try simp only [Act.put, List.setIfInBounds_toArray, List.set_cons_zero, List.set_cons_succ]
      refine wpAnyT_done (by kernel_rfl) ?_
      simp only [List.drop_succ_cons, List.drop_zero]
      clear hst
      have hw2 := hI.out.1.2.1.size
      have h7 : ((w2.drew.alloc (.cells (refL m0).toArray 33)).alloc (.cells [.int .u32 (Sp.bitsL m0), .slice A0 (Sp.vals m0).length c0].toArray 26)).ownsRow w.heap.size 26 2 (.slice (some ⟨w2.heap.size + 1, 0, none⟩) 1 1) 1 (hBox (m0, A0, c0)) := by have := owns_built (w2.drew.alloc (.cells (refL m0).toArray 33)) w.heap.size 26 [.int .u32 (Sp.bitsL m0), .slice A0 (Sp.vals m0).length c0] (by simp; omega); simpa [hBox] using this
      have h8 : ((w2.drew.alloc (.cells (refL m0).toArray 33)).alloc (.cells [.int .u32 (Sp.bitsL m0), .slice A0 (Sp.vals m0).length c0].toArray 26)).ownsRow w.heap.size 33 64 (.slice (some ⟨w2.heap.size, 0, none⟩) 1 1) 1 (refL m0) := by have := owns_built w2.drew w.heap.size 33 (refL m0) (by simp; omega); rw [(show (refL m0).length = 64 by simp [refL_len, m0_len])] at this; simpa using this.alloc _
      have ht : Turn none none w2 ((w2.drew.alloc (.cells (refL m0).toArray 33)).alloc (.cells [.int .u32 (Sp.bitsL m0), .slice A0 (Sp.vals m0).length c0].toArray 26)) := Turn.of_below (((Below.refl _ _).drew.alloc (Nat.le_refl _) _).alloc (by simp) _)
      have hI5 := Lib.hid (hI.out.appended (v7' := (.slice (some ⟨w2.heap.size + 1, 0, none⟩) 1 1)) (v8' := (.slice (some ⟨w2.heap.size, 0, none⟩) 1 1)) HV ht h7 h8 (.inr ⟨w2.heap.size + 1, rfl, by omega⟩) (.inr ⟨w2.heap.size, rfl, by omega⟩) (by simp [Value.ownBlock]))
      clear h7 h8 ht k1 k2 hS
      simp only [World.size_alloc, World.size_drew]
      generalize ((w2.drew.alloc (.cells (refL m0).toArray 33)).alloc (.cells [.int .u32 (Sp.bitsL m0), .slice A0 (Sp.vals m0).length c0].toArray 26)) = w5 at *
      go_wp2_with fail
      go_meet
      exact ⟨_, hI5⟩
  case rest =>
    obtain ⟨hh, hJ0⟩ := hcut
    clear hI HV f0 f1 f2 f3 hgl hdl
    go_wp2_with fail
    go_loopw [7, 8, 30] (fun s7 s8 i wr => ∃ k : Nat, k ≤ l.length ∧ i = .int .i64 k ∧ ∃ hs : List Hist, Hid (hs.length = k + 1) ∧ Hid (DoesInv w g d s7 s8 hs (runM m0 (l.take k)) wr)) (fun _ _ i _ => (l.length - intOf i).toNat)
    case atStart => exact ⟨0, by omega, rfl, [hh], rfl, hJ0⟩
    case round =>
      obtain ⟨k, hk, rfl, hs, HH, hJ⟩ := hrel
      by_cases hlt : k < l.length
      · obtain ⟨o, ho⟩ : ∃ o, l[k]? = some o := ⟨l[k], List.getElem?_eq_getElem hlt⟩
        obtain ⟨ad, rfl, hadB, hcells⟩ := (HL.out.below hJ.out.1.2.1) (by omega)
        obtain ⟨cl1, cl2, cl3⟩ := hcells k o ho
        have HR := Lib.hid (runM_succ m0 l k o ho)
        have HM := Lib.hid (runM_len m0_len (l.take k))
        clear hcells ho
        generalize runM m0 (l.take k) = M at *
        generalize hv7 : u7 = v7 at *
        generalize hv8 : u8 = v8 at *
        clear hv7 hv8
        go_wp2_with fail
        obtain ⟨w5, hw5⟩ : ∃ w5, w5 = wr.alloc (.cells #[.int .i64 o.I, .int .i64 o.X, .bool o.Cut] 42) := ⟨_, rfl⟩
        rw [← hw5]
        have hb5 : Below wr.heap.size wr w5 := by rw [hw5]; exact (Below.refl _ _).alloc (Nat.le_refl _) _
        have hO : Blk w5 wr.heap.size 42 #[.int .i64 o.I, .int .i64 o.X, .bool o.Cut] := by rw [hw5]; exact Blk.new wr _ _
        have q0 := hO.cell 0
        have q1 := hO.cell 1
        have q2 := hO.cell 2
        have hOl := hO.lt
        have hJ5 := Lib.hid (hJ.out.below hb5)
        have hXW := Lib.hid (show ∀ k, XD g d v7 v8 k → k < w5.heap.size from fun k hk => (hJ5.out.1.2.2 k hk).2)
        clear hJ hO hw5 hb5 cl1 cl2 cl3
        obtain ⟨A0, c0, HV, f0, f1, f2, f3, hgl, hdl⟩ := hJ5.out.1.1.facts
        refine wp_region_ht 6 (fun w' => w'.cell? ⟨g, 0, none⟩ = some (.int .u32 (Sp.bitsL M)) ∧ w'.cell? ⟨g, 1, none⟩ = some (.slice A0 (Sp.vals M).length c0) ∧ w'.cell? ⟨wr.heap.size, 0, none⟩ = some (.int .i64 o.I) ∧ w'.cell? ⟨wr.heap.size, 1, none⟩ = some (.int .i64 o.X) ∧ w'.cell? ⟨wr.heap.size, 2, none⟩ = some (.bool o.Cut) ∧ bcells w'.heap d = (refL M).toArray ∧ Whole 64 w'.heap d ∧ Below w5.heap.size w5 w' ∧ w5.heap.size ≤ w'.heap.size) (by kernel_rfl) (by kernel_rfl) ⟨f0, f1, q0, q1, q2, f2, f3, (Below.refl _ _).drew, Nat.le_refl _⟩ (fun hst hS => ?_)
        refine wpAnyT_take 0 (oi := ⟨_, _, _, _, _, _⟩) (v := ?_) hst rfl (by kernel_rfl) (fun _ _ _ h => h) (Or.inl ⟨by rfl, ?_⟩) hS ?_
        rotate_left
        · (intro w hSw; (try dsimp only at hSw); go_simp; try with_reducible rfl)
        try simp only [Act.put, List.setIfInBounds_toArray, List.set_cons_zero, List.set_cons_succ]
        refine wpAnyT_take 1 (oi := ⟨_, _, _, _, _, _⟩) (v := ?_) hst rfl (by kernel_rfl) (fun _ _ _ h => h) (Or.inl ⟨by rfl, ?_⟩) hS ?_
        rotate_left
        · (intro w hSw; (try dsimp only at hSw); go_simp; try with_reducible rfl)
        try simp only [Act.put, List.setIfInBounds_toArray, List.set_cons_zero, List.set_cons_succ]
        refine wpAnyT_take 3 (oi := ⟨_, _, _, _, _, _⟩) (v := ?_) hst rfl (by kernel_rfl) (fun _ _ _ h => h) (Or.inl ⟨by rfl, ?_⟩) hS ?_
        rotate_left
        · (intro w hSw; (try dsimp only at hSw); go_simp; try with_reducible rfl)
        try simp only [Act.put, List.setIfInBounds_toArray, List.set_cons_zero, List.set_cons_succ]
        refine wpAnyT_take 4 (oi := ⟨_, _, _, _, _, _⟩) (v := ?_) hst rfl (by kernel_rfl) (fun _ _ _ h => h) (Or.inl ⟨by rfl, ?_⟩) hS ?_
        rotate_left
        · (intro w hSw; (try dsimp only at hSw); go_simp; try with_reducible rfl)
        try simp only [Act.put, List.setIfInBounds_toArray, List.set_cons_zero, List.set_cons_succ]
        refine wpAnyT_one 2 (o := ⟨_, _, _, _, _, _⟩) (by kernel_rfl) (by decide) rfl (fun K hK => ?_)
        go_simp
        go_split_ands
        refine (does_rwx (X := (XD g d v7 v8)) (fun k hk => Nat.lt_of_lt_of_le (hXW.out k hk) ‹w5.heap.size ≤ _›) (by solve_by_elim (maxDepth := 8) [RwX.up])).mono ?_; rintro e w9 ⟨v8r, rfl, hv8, hb9⟩; have hz9 := hb9.size
        go_wp2_with fail
        refine hK.out _ _ (by (try dsimp only at hS); (try dsimp only); go_split_ands; refine ⟨?_, ?_, ?_, ?_, ?_, ?_, ?_, ?_, ?_⟩ <;> first | ((first | rw [hb9.cell (by (try simp) <;> omega)] | rw [bcells_eq (hb9.block _ (by omega))] | refine whole_eq (hb9.block _ (by omega)) ?_); assumption) | (exact Below.trans (by assumption) (hb9.mono (by assumption))) | omega) (fun hS => ?_)
        clear hK K
        try simp only [Act.put, List.setIfInBounds_toArray, List.set_cons_zero, List.set_cons_succ]
        refine wpAnyT_one 5 (o := ⟨_, _, _, _, _, _⟩) (by kernel_rfl) (by decide) rfl (fun K hK => ?_)
        go_simp
        go_split_ands
        refine (should_hid HM).mono ?_; rintro e w9 ⟨rfl, hb9⟩; have hz9 := hb9.size
        go_wp2_with fail
        refine hK.out _ _ (by (try dsimp only at hS); (try dsimp only); go_split_ands; refine ⟨?_, ?_, ?_, ?_, ?_, ?_, ?_, ?_, ?_⟩ <;> first | ((first | rw [hb9.cell (by (try simp) <;> omega)] | rw [bcells_eq (hb9.block _ (by omega))] | refine whole_eq (hb9.block _ (by omega)) ?_); assumption) | (exact Below.trans (by assumption) (hb9.mono (by assumption))) | omega) (fun hS => ?_)
        clear hK K
        try simp only [Act.put, List.setIfInBounds_toArray, List.set_cons_zero, List.set_cons_succ]
        refine wpAnyT_done (by kernel_rfl) ?_
        simp only [List.drop_succ_cons, List.drop_zero]
        try dsimp only at hS
        go_split_ands
        clear hst
        have HV8 : Hid (RwX w9 (XD g d v7 v8) (doM M o) v8r) := by solve_by_elim (maxDepth := 8) [RwX.up]
        have hJ9 := Lib.hid (hJ5.out.below (by assumption : Below w5.heap.size w5 w9))
        obtain ⟨A8, c8, rfl⟩ := RwX.shape HV8
        obtain ⟨A9, c9, y0, y1, y2, y3, HD⟩ := hJ9.out.1.1.boxes (.int .u32 (Sp.bitsL (doM M o))) (.slice A8 (Sp.vals (doM M o)).length c8)
        have HM1 := Lib.hid (doM_len (o := o) HM.out)
        clear hv8
        go_wp2_with (first | (refine wpList_store_row rfl 33 (.tmp 6) (.tmp 39) rfl _ rfl _ rfl _ _ HD.out (ref_size _ HM1.out) (by simp [refL_len, HM1.out, HM.out]) (refL_one _) ?_; intro w10 HR10 ho10 hB10; have hJ10 := Lib.hid (hJ9.out.stored HM1.out HV8 HR10 ho10 hB10); obtain ⟨A6, c6, HV6, g0, g1, g2, g3, hgl6, hdl6⟩ := hJ10.out.1.1.facts))
        clear hJ9 HV8 HR10 ho10 hB10 hb9 hXW hJ5
        generalize doM M o = M1 at *
        refine (get_rwx HV6).mono ?_
        rintro e w11 ⟨rfl, hb11⟩
        have hJ11 := Lib.hid (hJ10.out.below hb11)
        clear hJ10 hb11 g0 g1 g2 g3 hgl6 hdl6 HV6 HM f0 f1 f2 f3
        obtain ⟨A6, c6, HV6, g0, g1, g2, g3, hgl6, hdl6⟩ := hJ11.out.1.1.facts
        go_wp2_with fail
        refine (refGet_any _ _ _ HM1.out).mono ?_
        rintro e w12 ⟨rfl, hb12⟩
        have hJ12 := Lib.hid (hJ11.out.below hb12)
        clear hJ11 hb12 g0 g1 g2 g3 hgl6 hdl6 HV6
        obtain ⟨A6, c6, HV6, g0, g1, g2, g3, hgl6, hdl6⟩ := hJ12.out.1.1.facts
        generalize (Sp.getM M1 ask).getD 0 = gx
        generalize (Sp.getM M1 ask).isSome = gb
        have hne1 : (gx != gx) = false := by simp
        have hne2 : (gb != gb) = false := by simp
        go_wp2_with fail
        clear hne1 hne2
        have hlen := HH.out
        obtain ⟨i7, hi7, hz7, hs7, hy7⟩ := info_parts info_rowz
        obtain ⟨i8, hi8, hz8, hs8, hy8⟩ := info_parts info_refz
        clear HD y0 y1 y2 y3 hz9 q0 q1 q2 hOl hgl hdl
        refine wp_region_ht 8 (fun w' => bcells w'.heap d = (refL M1).toArray ∧ Whole 64 w'.heap d ∧ w'.cell? ⟨g, 0, none⟩ = some (.int .u32 (Sp.bitsL M1)) ∧ w'.cell? ⟨g, 1, none⟩ = some (.slice A6 (Sp.vals M1).length c6)) (by kernel_rfl) (by kernel_rfl) ⟨g2, g3, g0, g1⟩ (fun hst hS => ?_)
        refine wpAnyT_take 0 (oi := ⟨_, _, _, _, _, _⟩) (v := ?_) hst rfl (by kernel_rfl) (fun _ _ _ h => h) (Or.inl ⟨by rfl, ?_⟩) hS ?_
        rotate_left
        · (intro w hSw; (try dsimp only at hSw); go_simp; try with_reducible rfl)
        try simp only [Act.put, List.setIfInBounds_toArray, List.set_cons_zero, List.set_cons_succ]
        refine wpAnyT_take 1 (oi := ⟨_, _, _, _, _, _⟩) (v := ?_) hst rfl (by kernel_rfl) (fun _ _ _ h => h) (Or.inl ⟨by rfl, ?_⟩) hS ?_
        rotate_left
        · (intro w hSw; (try dsimp only at hSw); go_simp; try with_reducible rfl)
        try simp only [Act.put, List.setIfInBounds_toArray, List.set_cons_zero, List.set_cons_succ]
        refine wpAnyT_take 4 (oi := ⟨_, _, _, _, _, _⟩) (v := ?_) hst rfl (by kernel_rfl) (fun _ _ _ h => h) (Or.inl ⟨by rfl, ?_⟩) hS ?_
        rotate_left
        · (intro w hSw; (try dsimp only at hSw); go_simp; try with_reducible rfl)
        try simp only [Act.put, List.setIfInBounds_toArray, List.set_cons_zero, List.set_cons_succ]
        refine wpAnyT_take 5 (oi := ⟨_, _, _, _, _, _⟩) (v := ?_) hst rfl (by kernel_rfl) (fun _ _ _ h => h) (Or.inl ⟨by rfl, ?_⟩) hS ?_
        rotate_left
        · (intro w hSw; (try dsimp only at hSw); go_simp; try with_reducible rfl)
        try simp only [Act.put, List.setIfInBounds_toArray, List.set_cons_zero, List.set_cons_succ]
        refine wpAnyT_two 2 6 (o := ⟨_, _, _, _, _, _⟩) (o' := ⟨_, _, _, _, _, _⟩) (by kernel_rfl) (by decide) rfl rfl (fun K hK => ?_) (fun K hK => ?_)
        · have T0 := Lib.hid (show Turn v7.ownBlock v8.ownBlock w12 w12.drew from Turn.of_below (Below.refl _ _).drew)
          have O7 := Lib.hid (show w12.drew.ownsRow w.heap.size 26 2 v7 hs.length (rowsC hs) from hJ12.out.2.1)
          have O8 := Lib.hid (show w12.drew.ownsRow w.heap.size 33 64 v8 hs.length (wantsC hs) from hJ12.out.2.2.1)
          rw [if_pos (by rfl)]
          refine wp_build_one 39 26 (.tmp 61) rfl [.int .u32 (Sp.bitsL M1), .slice A6 (Sp.vals M1).length c6] rfl Tryd.underlying39 (by kernel_rfl) (by kernel_rfl) (by simp) (by simp) ?_
          have T1 := Lib.hid (T0.out.alloc (.cells [.int .u32 (Sp.bitsL M1), .slice A6 (Sp.vals M1).length c6].toArray 26))
          have B2 := Lib.hid (Blk.new w12.drew 26 [.int .u32 (Sp.bitsL M1), .slice A6 (Sp.vals M1).length c6].toArray)
          have N2 := Lib.hid (T0.out.size)
          replace O7 := Lib.hid (World.ownsRow.alloc O7.out (.cells [.int .u32 (Sp.bitsL M1), .slice A6 (Sp.vals M1).length c6].toArray 26))
          replace O8 := Lib.hid (World.ownsRow.alloc O8.out (.cells [.int .u32 (Sp.bitsL M1), .slice A6 (Sp.vals M1).length c6].toArray 26))
          refine hK.out _ _ (hJ12.out.held T1 g0 g1 g2 g3) (fun hS => ?_)
          clear hK K
          try simp only [Act.put, List.setIfInBounds_toArray, List.set_cons_zero, List.set_cons_succ]
          obtain ⟨b2, hb2⟩ : ∃ b, b = w12.drew.heap.size := ⟨_, rfl⟩
          rw [← hb2] at B2 N2 ⊢
          clear hb2
          generalize w12.drew.alloc (.cells [.int .u32 (Sp.bitsL M1), .slice A6 (Sp.vals M1).length c6].toArray 26) = x1 at *
          refine wpAnyT_two 3 6 (o := ⟨_, _, _, _, _, _⟩) (o' := ⟨_, _, _, _, _, _⟩) (by kernel_rfl) (by decide) rfl rfl (fun K hK => ?_) (fun K hK => ?_)
          · rw [if_pos (by rfl)]
            refine wp_append_any x1 (.tmp 60) (.tmp 62) 39 rfl w.heap.size 26 i7 _ 2 32 Tryd.underlying39 hi7 hz7 hs7 hy7 rfl (by omega) v7 hs.length (rowsC hs) rfl O7.out (fun k => k = b2) (some ⟨b2, 0, none⟩) 1 1 [.int .u32 (Sp.bitsL M1), .slice A6 (Sp.vals M1).length c6] rfl (reads_blk B2.out) (by simp [Value.oneCell']) (by simp only [maxLen]; omega) (by omega) (Nat.le_trans hJ12.out.1.2.1.size T1.out.size) ?_
            intro v7n x2 O7n G7 hv7
            have T2 := Lib.hid (T1.out.grown G7 (.inl rfl))
            have hv7' := Lib.hid (show v7n.ownBlock = v7.ownBlock ∨ ∃ k, v7n.ownBlock = some k ∧ w12.heap.size ≤ k from hv7.imp id (fun e => ⟨_, e, T1.out.size⟩))
            have O7n := Lib.hid O7n
            replace O8 := Lib.hid (ownsRow_turn O8.out (Turn.of_grown (R' := v7.ownBlock) G7) (fun k hk e => hJ12.out.2.2.2.2.1 k e hk) (fun k hk e => hJ12.out.2.2.2.2.1 k e hk))
            replace B2 := Lib.hid (B2.out.grown G7 (fun e => by have h1 := (ownsRow_in hJ12.out.2.1 e.symm).2; have h2 := N2.out; omega))
            clear O7 G7 hv7
            refine hK.out _ _ (hJ12.out.held T2 g0 g1 g2 g3) (fun hS => ?_)
            clear hK K
            try simp only [Act.put, List.setIfInBounds_toArray, List.set_cons_zero, List.set_cons_succ]
            refine wpAnyT_one 6 (o := ⟨_, _, _, _, _, _⟩) (by kernel_rfl) (by decide) rfl (fun K hK => ?_)
            rw [if_pos (by rfl)]
            refine wp_build_one 40 33 (.tmp 65) rfl (refL M1) rfl Tryd.underlying40 (by rw [show (refL M1).length = 64 by simp [refL_len, HM1.out]]; kernel_rfl) (by kernel_rfl) (by simp [refL_len, HM1.out]) (by simp [refL_len, HM1.out]) ?_
            have T3 := Lib.hid (T2.out.alloc (.cells (refL M1).toArray 33))
            have B6 := Lib.hid (Blk.new x2 33 (refL M1).toArray)
            replace O7n := Lib.hid (World.ownsRow.alloc O7n.out (.cells (refL M1).toArray 33))
            have N6 := Lib.hid (T2.out.size)
            replace O8 := Lib.hid (World.ownsRow.alloc O8.out (.cells (refL M1).toArray 33))
            refine hK.out _ _ (hJ12.out.held T3 g0 g1 g2 g3) (fun hS => ?_)
            clear hK K
            try simp only [Act.put, List.setIfInBounds_toArray, List.set_cons_zero, List.set_cons_succ]
            obtain ⟨b6, hb6⟩ : ∃ b, b = x2.heap.size := ⟨_, rfl⟩
            rw [← hb6] at B6 N6 ⊢
            clear hb6
            generalize x2.alloc (.cells (refL M1).toArray 33) = x3 at *
            refine wpAnyT_one 7 (o := ⟨_, _, _, _, _, _⟩) (by kernel_rfl) (by decide) rfl (fun K hK => ?_)
            rw [if_pos (by rfl)]
            refine wp_append_any x3 (.tmp 64) (.tmp 66) 40 rfl w.heap.size 33 i8 _ 64 288 Tryd.underlying40 hi8 hz8 hs8 hy8 (by simp [Value.cells, refL_len, m0_len]) (by omega) v8 hs.length (wantsC hs) rfl O8.out (fun k => k = b6) (some ⟨b6, 0, none⟩) 1 1 (refL M1) rfl (by have h := reads_blk B6.out; simpa [refL_len, HM1.out] using h) (fun u hu => by have := refL_one M1; simp only [List.all_toArray, List.all_eq_true] at this; exact this u hu) (by simp only [maxLen]; omega) (by omega) (Nat.le_trans hJ12.out.1.2.1.size T3.out.size) ?_
            intro v8n x4 O8n G8 hv8
            have T4 := Lib.hid (T3.out.grown G8 (.inr (.inl rfl)))
            have hv8' := Lib.hid (show v8n.ownBlock = v8.ownBlock ∨ ∃ k, v8n.ownBlock = some k ∧ w12.heap.size ≤ k from hv8.imp id (fun e => ⟨_, e, T3.out.size⟩))
            have hx := Lib.hid (show ∀ k, v7n.ownBlock = some k → v8.ownBlock ≠ some k from fun k hk e => by rcases hv7'.out with n | ⟨j, n, hj⟩; exact hJ12.out.2.2.2.2.1 k (n ▸ hk) e; rw [n] at hk; injection hk with hk; have h1 := (ownsRow_in hJ12.out.2.2.1 e).2; omega)
            have hne := Lib.hid (show ∀ k, v7n.ownBlock = some k → v8n.ownBlock ≠ some k from fun k hk e => by rcases hv8 with n | n; exact hx.out k hk (n ▸ e); rw [n] at e; injection e with e; have h1 := (ownsRow_in O7n.out hk).2; omega)
            replace O7n := Lib.hid (ownsRow_turn O7n.out (Turn.of_grown (R' := v8.ownBlock) G8) hx.out hx.out)
            have hI9 := Lib.hid (hJ12.out.appended HV6 T4.out O7n.out O8n hv7'.out hv8'.out hne.out)
            clear G8 hv8 O8 hx hne O8n O7n
            refine hK.out _ _ (hJ12.out.held T4 g0 g1 g2 g3) (fun hS => ?_)
            clear hK K
            try simp only [Act.put, List.setIfInBounds_toArray, List.set_cons_zero, List.set_cons_succ]
            refine wpAnyT_done (by kernel_rfl) ?_
            simp only [List.drop_succ_cons, List.drop_zero]
            clear hst hS
            go_wp2
            go_roundw
            case rel => exact ⟨k + 1, by omega, by go_num, hs ++ [(M1, A6, c6)], by have := HH.out; simp [Hid]; omega, by rw [HR.out]; exact hI9⟩
            case measure => simp [intOf]; omega
          · rw [if_pos (by rfl)]
            refine wp_build_one 40 33 (.tmp 65) rfl (refL M1) rfl Tryd.underlying40 (by rw [show (refL M1).length = 64 by simp [refL_len, HM1.out]]; kernel_rfl) (by kernel_rfl) (by simp [refL_len, HM1.out]) (by simp [refL_len, HM1.out]) ?_
            have T2 := Lib.hid (T1.out.alloc (.cells (refL M1).toArray 33))
            have B6 := Lib.hid (Blk.new x1 33 (refL M1).toArray)
            have N6 := Lib.hid (T1.out.size)
            replace B2 := Lib.hid (B2.out.alloc (.cells (refL M1).toArray 33))
            replace O7 := Lib.hid (World.ownsRow.alloc O7.out (.cells (refL M1).toArray 33))
            replace O8 := Lib.hid (World.ownsRow.alloc O8.out (.cells (refL M1).toArray 33))
            refine hK.out _ _ (hJ12.out.held T2 g0 g1 g2 g3) (fun hS => ?_)
            clear hK K
            try simp only [Act.put, List.setIfInBounds_toArray, List.set_cons_zero, List.set_cons_succ]
            obtain ⟨b6, hb6⟩ : ∃ b, b = x1.heap.size := ⟨_, rfl⟩
            rw [← hb6] at B6 N6 ⊢
            clear hb6
            generalize x1.alloc (.cells (refL M1).toArray 33) = x2 at *
            refine wpAnyT_one 3 (o := ⟨_, _, _, _, _, _⟩) (by kernel_rfl) (by decide) rfl (fun K hK => ?_)
            rw [if_pos (by rfl)]
            refine wp_append_any x2 (.tmp 60) (.tmp 62) 39 rfl w.heap.size 26 i7 _ 2 32 Tryd.underlying39 hi7 hz7 hs7 hy7 rfl (by omega) v7 hs.length (rowsC hs) rfl O7.out (fun k => k = b2) (some ⟨b2, 0, none⟩) 1 1 [.int .u32 (Sp.bitsL M1), .slice A6 (Sp.vals M1).length c6] rfl (reads_blk B2.out) (by simp [Value.oneCell']) (by simp only [maxLen]; omega) (by omega) (Nat.le_trans hJ12.out.1.2.1.size T2.out.size) ?_
            intro v7n x3 O7n G7 hv7
            have T3 := Lib.hid (T2.out.grown G7 (.inl rfl))
            have hv7' := Lib.hid (show v7n.ownBlock = v7.ownBlock ∨ ∃ k, v7n.ownBlock = some k ∧ w12.heap.size ≤ k from hv7.imp id (fun e => ⟨_, e, T2.out.size⟩))
            have O7n := Lib.hid O7n
            replace O8 := Lib.hid (ownsRow_turn O8.out (Turn.of_grown (R' := v7.ownBlock) G7) (fun k hk e => hJ12.out.2.2.2.2.1 k e hk) (fun k hk e => hJ12.out.2.2.2.2.1 k e hk))
            replace B2 := Lib.hid (B2.out.grown G7 (fun e => by have h1 := (ownsRow_in hJ12.out.2.1 e.symm).2; have h2 := N2.out; omega))
            replace B6 := Lib.hid (B6.out.grown G7 (fun e => by have h1 := (ownsRow_in hJ12.out.2.1 e.symm).2; have h2 := N6.out; omega))
            clear O7 G7 hv7
            refine hK.out _ _ (hJ12.out.held T3 g0 g1 g2 g3) (fun hS => ?_)
            clear hK K
            try simp only [Act.put, List.setIfInBounds_toArray, List.set_cons_zero, List.set_cons_succ]
            refine wpAnyT_one 7 (o := ⟨_, _, _, _, _, _⟩) (by kernel_rfl) (by decide) rfl (fun K hK => ?_)
            rw [if_pos (by rfl)]
            refine wp_append_any x3 (.tmp 64) (.tmp 66) 40 rfl w.heap.size 33 i8 _ 64 288 Tryd.underlying40 hi8 hz8 hs8 hy8 (by simp [Value.cells, refL_len, m0_len]) (by omega) v8 hs.length (wantsC hs) rfl O8.out (fun k => k = b6) (some ⟨b6, 0, none⟩) 1 1 (refL M1) rfl (by have h := reads_blk B6.out; simpa [refL_len, HM1.out] using h) (fun u hu => by have := refL_one M1; simp only [List.all_toArray, List.all_eq_true] at this; exact this u hu) (by simp only [maxLen]; omega) (by omega) (Nat.le_trans hJ12.out.1.2.1.size T3.out.size) ?_
            intro v8n x4 O8n G8 hv8
            have T4 := Lib.hid (T3.out.grown G8 (.inr (.inl rfl)))
            have hv8' := Lib.hid (show v8n.ownBlock = v8.ownBlock ∨ ∃ k, v8n.ownBlock = some k ∧ w12.heap.size ≤ k from hv8.imp id (fun e => ⟨_, e, T3.out.size⟩))
            have hx := Lib.hid (show ∀ k, v7n.ownBlock = some k → v8.ownBlock ≠ some k from fun k hk e => by rcases hv7'.out with n | ⟨j, n, hj⟩; exact hJ12.out.2.2.2.2.1 k (n ▸ hk) e; rw [n] at hk; injection hk with hk; have h1 := (ownsRow_in hJ12.out.2.2.1 e).2; omega)
            have hne := Lib.hid (show ∀ k, v7n.ownBlock = some k → v8n.ownBlock ≠ some k from fun k hk e => by rcases hv8 with n | n; exact hx.out k hk (n ▸ e); rw [n] at e; injection e with e; have h1 := (ownsRow_in O7n.out hk).2; omega)
            replace O7n := Lib.hid (ownsRow_turn O7n.out (Turn.of_grown (R' := v8.ownBlock) G8) hx.out hx.out)
            have hI9 := Lib.hid (hJ12.out.appended HV6 T4.out O7n.out O8n hv7'.out hv8'.out hne.out)
            clear G8 hv8 O8 hx hne O8n O7n
            refine hK.out _ _ (hJ12.out.held T4 g0 g1 g2 g3) (fun hS => ?_)
            clear hK K
            try simp only [Act.put, List.setIfInBounds_toArray, List.set_cons_zero, List.set_cons_succ]
            refine wpAnyT_done (by kernel_rfl) ?_
            simp only [List.drop_succ_cons, List.drop_zero]
            clear hst hS
            go_wp2
            go_roundw
            case rel => exact ⟨k + 1, by omega, by go_num, hs ++ [(M1, A6, c6)], by have := HH.out; simp [Hid]; omega, by rw [HR.out]; exact hI9⟩
            case measure => simp [intOf]; omega
        · have T0 := Lib.hid (show Turn v7.ownBlock v8.ownBlock w12 w12.drew from Turn.of_below (Below.refl _ _).drew)
          have O7 := Lib.hid (show w12.drew.ownsRow w.heap.size 26 2 v7 hs.length (rowsC hs) from hJ12.out.2.1)
          have O8 := Lib.hid (show w12.drew.ownsRow w.heap.size 33 64 v8 hs.length (wantsC hs) from hJ12.out.2.2.1)
          rw [if_pos (by rfl)]
          refine wp_build_one 40 33 (.tmp 65) rfl (refL M1) rfl Tryd.underlying40 (by rw [show (refL M1).length = 64 by simp [refL_len, HM1.out]]; kernel_rfl) (by kernel_rfl) (by simp [refL_len, HM1.out]) (by simp [refL_len, HM1.out]) ?_
          have T1 := Lib.hid (T0.out.alloc (.cells (refL M1).toArray 33))
          have B6 := Lib.hid (Blk.new w12.drew 33 (refL M1).toArray)
          have N6 := Lib.hid (T0.out.size)
          replace O7 := Lib.hid (World.ownsRow.alloc O7.out (.cells (refL M1).toArray 33))
          replace O8 := Lib.hid (World.ownsRow.alloc O8.out (.cells (refL M1).toArray 33))
          refine hK.out _ _ (hJ12.out.held T1 g0 g1 g2 g3) (fun hS => ?_)
          clear hK K
          try simp only [Act.put, List.setIfInBounds_toArray, List.set_cons_zero, List.set_cons_succ]
          obtain ⟨b6, hb6⟩ : ∃ b, b = w12.drew.heap.size := ⟨_, rfl⟩
          rw [← hb6] at B6 N6 ⊢
          clear hb6
          generalize w12.drew.alloc (.cells (refL M1).toArray 33) = x1 at *
          refine wpAnyT_one 2 (o := ⟨_, _, _, _, _, _⟩) (by kernel_rfl) (by decide) rfl (fun K hK => ?_)
          rw [if_pos (by rfl)]
          refine wp_build_one 39 26 (.tmp 61) rfl [.int .u32 (Sp.bitsL M1), .slice A6 (Sp.vals M1).length c6] rfl Tryd.underlying39 (by kernel_rfl) (by kernel_rfl) (by simp) (by simp) ?_
          have T2 := Lib.hid (T1.out.alloc (.cells [.int .u32 (Sp.bitsL M1), .slice A6 (Sp.vals M1).length c6].toArray 26))
          have B2 := Lib.hid (Blk.new x1 26 [.int .u32 (Sp.bitsL M1), .slice A6 (Sp.vals M1).length c6].toArray)
          have N2 := Lib.hid (T1.out.size)
          replace B6 := Lib.hid (B6.out.alloc (.cells [.int .u32 (Sp.bitsL M1), .slice A6 (Sp.vals M1).length c6].toArray 26))
          replace O7 := Lib.hid (World.ownsRow.alloc O7.out (.cells [.int .u32 (Sp.bitsL M1), .slice A6 (Sp.vals M1).length c6].toArray 26))
          replace O8 := Lib.hid (World.ownsRow.alloc O8.out (.cells [.int .u32 (Sp.bitsL M1), .slice A6 (Sp.vals M1).length c6].toArray 26))
          refine hK.out _ _ (hJ12.out.held T2 g0 g1 g2 g3) (fun hS => ?_)
          clear hK K
          try simp only [Act.put, List.setIfInBounds_toArray, List.set_cons_zero, List.set_cons_succ]
          obtain ⟨b2, hb2⟩ : ∃ b, b = x1.heap.size := ⟨_, rfl⟩
          rw [← hb2] at B2 N2 ⊢
          clear hb2
          generalize x1.alloc (.cells [.int .u32 (Sp.bitsL M1), .slice A6 (Sp.vals M1).length c6].toArray 26) = x2 at *
          refine wpAnyT_one 3 (o := ⟨_, _, _, _, _, _⟩) (by kernel_rfl) (by decide) rfl (fun K hK => ?_)
          rw [if_pos (by rfl)]
          refine wp_append_any x2 (.tmp 60) (.tmp 62) 39 rfl w.heap.size 26 i7 _ 2 32 Tryd.underlying39 hi7 hz7 hs7 hy7 rfl (by omega) v7 hs.length (rowsC hs) rfl O7.out (fun k => k = b2) (some ⟨b2, 0, none⟩) 1 1 [.int .u32 (Sp.bitsL M1), .slice A6 (Sp.vals M1).length c6] rfl (reads_blk B2.out) (by simp [Value.oneCell']) (by simp only [maxLen]; omega) (by omega) (Nat.le_trans hJ12.out.1.2.1.size T2.out.size) ?_
          intro v7n x3 O7n G7 hv7
          have T3 := Lib.hid (T2.out.grown G7 (.inl rfl))
          have hv7' := Lib.hid (show v7n.ownBlock = v7.ownBlock ∨ ∃ k, v7n.ownBlock = some k ∧ w12.heap.size ≤ k from hv7.imp id (fun e => ⟨_, e, T2.out.size⟩))
          have O7n := Lib.hid O7n
          replace O8 := Lib.hid (ownsRow_turn O8.out (Turn.of_grown (R' := v7.ownBlock) G7) (fun k hk e => hJ12.out.2.2.2.2.1 k e hk) (fun k hk e => hJ12.out.2.2.2.2.1 k e hk))
          replace B2 := Lib.hid (B2.out.grown G7 (fun e => by have h1 := (ownsRow_in hJ12.out.2.1 e.symm).2; have h2 := N2.out; omega))
          replace B6 := Lib.hid (B6.out.grown G7 (fun e => by have h1 := (ownsRow_in hJ12.out.2.1 e.symm).2; have h2 := N6.out; omega))
          clear O7 G7 hv7
          refine hK.out _ _ (hJ12.out.held T3 g0 g1 g2 g3) (fun hS => ?_)
          clear hK K
          try simp only [Act.put, List.setIfInBounds_toArray, List.set_cons_zero, List.set_cons_succ]
          refine wpAnyT_one 7 (o := ⟨_, _, _, _, _, _⟩) (by kernel_rfl) (by decide) rfl (fun K hK => ?_)
          rw [if_pos (by rfl)]
          refine wp_append_any x3 (.tmp 64) (.tmp 66) 40 rfl w.heap.size 33 i8 _ 64 288 Tryd.underlying40 hi8 hz8 hs8 hy8 (by simp [Value.cells, refL_len, m0_len]) (by omega) v8 hs.length (wantsC hs) rfl O8.out (fun k => k = b6) (some ⟨b6, 0, none⟩) 1 1 (refL M1) rfl (by have h := reads_blk B6.out; simpa [refL_len, HM1.out] using h) (fun u hu => by have := refL_one M1; simp only [List.all_toArray, List.all_eq_true] at this; exact this u hu) (by simp only [maxLen]; omega) (by omega) (Nat.le_trans hJ12.out.1.2.1.size T3.out.size) ?_
          intro v8n x4 O8n G8 hv8
          have T4 := Lib.hid (T3.out.grown G8 (.inr (.inl rfl)))
          have hv8' := Lib.hid (show v8n.ownBlock = v8.ownBlock ∨ ∃ k, v8n.ownBlock = some k ∧ w12.heap.size ≤ k from hv8.imp id (fun e => ⟨_, e, T3.out.size⟩))
          have hx := Lib.hid (show ∀ k, v7n.ownBlock = some k → v8.ownBlock ≠ some k from fun k hk e => by rcases hv7'.out with n | ⟨j, n, hj⟩; exact hJ12.out.2.2.2.2.1 k (n ▸ hk) e; rw [n] at hk; injection hk with hk; have h1 := (ownsRow_in hJ12.out.2.2.1 e).2; omega)
          have hne := Lib.hid (show ∀ k, v7n.ownBlock = some k → v8n.ownBlock ≠ some k from fun k hk e => by rcases hv8 with n | n; exact hx.out k hk (n ▸ e); rw [n] at e; injection e with e; have h1 := (ownsRow_in O7n.out hk).2; omega)
          replace O7n := Lib.hid (ownsRow_turn O7n.out (Turn.of_grown (R' := v8.ownBlock) G8) hx.out hx.out)
          have hI9 := Lib.hid (hJ12.out.appended HV6 T4.out O7n.out O8n hv7'.out hv8'.out hne.out)
          clear G8 hv8 O8 hx hne O8n O7n
          refine hK.out _ _ (hJ12.out.held T4 g0 g1 g2 g3) (fun hS => ?_)
          clear hK K
          try simp only [Act.put, List.setIfInBounds_toArray, List.set_cons_zero, List.set_cons_succ]
          refine wpAnyT_done (by kernel_rfl) ?_
          simp only [List.drop_succ_cons, List.drop_zero]
          clear hst hS
          go_wp2
          go_roundw
          case rel => exact ⟨k + 1, by omega, by go_num, hs ++ [(M1, A6, c6)], by have := HH.out; simp [Hid]; omega, by rw [HR.out]; exact hI9⟩
          case measure => simp [intOf]; omega
      · have hkl : k = l.length := by omega
        subst hkl
        generalize hv7 : u7 = v7 at *
        generalize hv8 : u8 = v8 at *
        clear hv7 hv8 hJ0 HL
        rw [List.take_length] at hJ
        generalize runM m0 l = M at *
        obtain ⟨A7, c7, rfl, hc7⟩ := ownsRow_slice hJ.out.2.1
        obtain ⟨A8, c8, rfl, hc8⟩ := ownsRow_slice hJ.out.2.2.1
        have hlenI : (hs.length : Int) ≤ 101 := by have := HH.out; omega
        go_wp2_with fail
        go_loopw [15, 71] (fun s15 i wr => ∃ k : Nat, k ≤ hs.length ∧ i = .int .i64 k ∧ Hid (DoesInv w g d (.slice A7 hs.length c7) (.slice A8 hs.length c8) hs M wr)) (fun _ i _ => (hs.length - intOf i).toNat)
        case atStart => exact ⟨0, by omega, rfl, hJ⟩
        case round =>
          obtain ⟨k, hk, rfl, hK⟩ := hrel
          by_cases hlt : k < hs.length
          · obtain ⟨x, hx⟩ : ∃ x, hs[k]? = some x := ⟨hs[k], List.getElem?_eq_getElem hlt⟩
            obtain ⟨a, b, rfl, rfl, ca, cb, hr, hxl, HV⟩ := hK.out.at_ k x hx
            have hK0 := hK
            clear hK
            have hal : a < wr.heap.size := (ownsRow_in hK0.out.2.1 rfl).2
            have hbl : b < wr.heap.size := (ownsRow_in hK0.out.2.2.1 rfl).2
            have hk0 : (0 : Int) ≤ k := by omega
            have hk1 : (k : Int) < hs.length := by omega
            clear hx
            go_wp2_with fail
            refine wp_region_ht 9 (fun w' => w'.cell? ⟨a, k * 2, none⟩ = some (.int .u32 (Sp.bitsL x.1)) ∧ w'.cell? ⟨a, k * 2 + 1, none⟩ = some (.slice x.2.1 (Sp.vals x.1).length x.2.2) ∧ w'.rangeAt b (k * 64) (refL x.1) ∧ Below wr.heap.size wr w') (by kernel_rfl) (by kernel_rfl) ⟨ca, cb, hr, (Below.refl _ _).drew⟩ (fun hst hS => ?_)
            refine wpAnyT_take 0 (oi := ⟨_, _, _, _, _, _⟩) (v := ?_) hst rfl (by kernel_rfl) (fun _ _ _ h => h) (Or.inl ⟨by rfl, ?_⟩) hS ?_
            rotate_left
            · (intro w hSw; (try dsimp only at hSw); go_simp; try with_reducible rfl)
            try simp only [Act.put, List.setIfInBounds_toArray, List.set_cons_zero, List.set_cons_succ]
            refine wpAnyT_take 1 (oi := ⟨_, _, _, _, _, _⟩) (v := ?_) hst rfl (by kernel_rfl) (fun _ _ _ h => h) (Or.inl ⟨by rfl, ?_⟩) hS ?_
            rotate_left
            · (intro w hSw; (try dsimp only at hSw); go_simp; try with_reducible rfl)
            try simp only [Act.put, List.setIfInBounds_toArray, List.set_cons_zero, List.set_cons_succ]
            refine wpAnyT_take 2 (oi := ⟨_, _, _, _, _, _⟩) (v := ?_) hst rfl (by kernel_rfl) (fun _ _ _ h => h) (Or.inl ⟨by rfl, ?_⟩) hS ?_
            rotate_left
            · (intro w hSw; (try dsimp only at hSw); go_simp; try with_reducible rfl)
            try simp only [Act.put, List.setIfInBounds_toArray, List.set_cons_zero, List.set_cons_succ]
            refine wpAnyT_take 3 (oi := ⟨_, _, _, _, _, _⟩) (v := ?_) hst rfl (by kernel_rfl) (fun _ _ _ h => h) (Or.inl ⟨by rfl, ?_⟩) hS ?_
            rotate_left
            · (intro w hSw; (try dsimp only at hSw); go_simp; try with_reducible rfl)
            try simp only [Act.put, List.setIfInBounds_toArray, List.set_cons_zero, List.set_cons_succ]
            refine wpAnyT_take 4 (oi := ⟨_, _, _, _, _, _⟩) (v := ?_) hst rfl (by kernel_rfl) (fun _ _ _ h => h) (Or.inl ⟨by rfl, ?_⟩) hS ?_
            rotate_left
            · (intro w hSw; (try dsimp only at hSw); go_simp; try with_reducible rfl)
            try simp only [Act.put, List.setIfInBounds_toArray, List.set_cons_zero, List.set_cons_succ]
            refine wpAnyT_take 5 (oi := ⟨_, _, _, _, _, _⟩) (v := ?_) hst rfl (by kernel_rfl) (fun _ _ _ h => h) (Or.inl ⟨by rfl, ?_⟩) hS ?_
            rotate_left
            · (intro w hSw; (try dsimp only at hSw); go_simp; try with_reducible rfl)
            try simp only [Act.put, List.setIfInBounds_toArray, List.set_cons_zero, List.set_cons_succ]
            refine wpAnyT_take 6 (oi := ⟨_, _, _, _, _, _⟩) (v := ?_) hst rfl (by kernel_rfl) (fun _ _ _ h => h) (Or.inl ⟨by rfl, ?_⟩) hS ?_
            rotate_left
            · (intro w hSw; (try dsimp only at hSw); go_simp; try with_reducible rfl)
            try simp only [Act.put, List.setIfInBounds_toArray, List.set_cons_zero, List.set_cons_succ]
            refine wpAnyT_take 7 (oi := ⟨_, _, _, _, _, _⟩) hst rfl (by kernel_rfl) (fun _ _ _ h => h) (yieldsIf_load_mid (by rfl) 33 (.tmp 80) rfl b (k * 64) rfl (refL x.1) _ (fun w hw => hw.2.2.1) Tryd.underlying33 rfl (by rw [show (refL x.1).length = 64 by simp [refL_len, hxl]]; kernel_rfl)) hS ?_
            try simp only [Act.put, List.setIfInBounds_toArray, List.set_cons_zero, List.set_cons_succ]
            refine wpAnyT_one 8 (o := ⟨_, _, _, _, _, _⟩) (by kernel_rfl) (by decide) rfl (fun K hK => ?_)
            go_simp
            have hgw : 0 < wr.heap.size := by have := hK0.out.1.2.1.size; omega
            refine (same_two (RwX.up HV (Below.refl _ _).drew) (Lib.hid (HT.out.below hK0.out.1.2.1.drew hg)) hgw).mono ?_
            rintro e w9 ⟨rfl, hb9⟩
            go_wp2_with fail
            have hb9' : Below wr.heap.size wr w9 := (Below.refl _ _).drew.trans (show Below wr.heap.size wr.drew w9 from hb9)
            refine hK.out _ _ ⟨by rw [hb9'.cell (p := ⟨a, k * 2, none⟩) hal]; exact ca, by rw [hb9'.cell (p := ⟨a, k * 2 + 1, none⟩) hal]; exact cb, fun j v hj => (hb9'.cell (p := ⟨b, k * 64 + j, none⟩) hbl).trans (hr j v hj), hb9'⟩ (fun hS => ?_)
            clear hK K
            try simp only [Act.put, List.setIfInBounds_toArray, List.set_cons_zero, List.set_cons_succ]
            refine wpAnyT_done (by kernel_rfl) ?_
            simp only [List.drop_succ_cons, List.drop_zero]
            clear hst hS
            have hK9 := Lib.hid (hK0.out.below hb9')
            go_wp2
            go_roundw
            case rel => exact ⟨k + 1, by omega, by go_num, hK9⟩
            case measure => simp [intOf]; omega
          · have hkl2 : k = hs.length := by omega
            subst hkl2
            have hB := Lib.hid hK.out.1.2.1
            go_wp2
            go_ret
            exact ⟨rfl, hB.out⟩

theorem sparseDoes_any (l : List SOp) (A : Option Addr) (c : Nat) (ask : Int) (w : World) (hT : TabAt w) (hg : 0 < w.heap.size) (hl : OpsIn w.heap.size w A l) (_ : (Lit.int .i64 ask).wf = true) :
    Calls Tryd.prog 4 #[.slice A l.length c, .int .i64 ask] w (TrueOut w) := by
  by_cases h : 100 < l.length
  · exact sdoes_long _ c A ask w hT hg h
  · exact sdoes_core l A c ask w hT hg h hl
end Go.Proofs.YtbgmlcakdkkfdaaDoor
