/-
  Parts of the proof that AddrBegins,AddrTexts calls on: Yj.
-/
import Derived.Deep.CutRange
import Derived.Test.YtfcegalckjeafaaGreatDoorM323
namespace Go.Proofs.YtfcegalckjeafaaGreatDoor
open Go.RowKit Go.BigFrame Go.Shelf
section
variable {P : Program} {ops : Array Oper} {Q : Exit → Act → World → Prop} {md : Region.Mode} {S : World → Prop} {T : Act → World → Prop} {n g : Nat}
/-- What is ready is carried out, each. -/
def AllT (P : Program) (md : Region.Mode) (ops : Array Oper) (Q : Exit → Act → World → Prop) (S : World → Prop) (n g : Nat) (T : Act → World → Prop) (fuel : Nat) (listed : Array Bool) (a : Act) (w : World) (rs : List Nat) : Prop :=
  ∀ i ∈ rs, wpOp P ops Q i (fun a' w' => S w' ∧ wpAnyT P md ops Q S n g T fuel (listed.setIfInBounds i true) a' w') a w
theorem AllT.nil {fuel : Nat} {listed : Array Bool} {a : Act} {w : World} : AllT P md ops Q S n g T fuel listed a w [] := fun _ h => by cases h
theorem AllT.cons {fuel : Nat} {listed : Array Bool} {a : Act} {w : World} {i : Nat} {rs : List Nat} (h : wpOp P ops Q i (fun a' w' => S w' ∧ wpAnyT P md ops Q S n g T fuel (listed.setIfInBounds i true) a' w') a w) (hs : AllT P md ops Q S n g T fuel listed a w rs) : AllT P md ops Q S n g T fuel listed a w (i :: rs) := fun j hj => by
  rcases List.mem_cons.1 hj with rfl | hj
  · exact h
  · exact hs j hj
theorem wpAnyT_ready {rs : List Nat} {fuel : Nat} {listed : Array Bool} {a : Act} {w : World} (hr : ((Region.ready md ops listed == rs) && rs.all (fun i => decide (i < n)) && !rs.isEmpty) = true) (h : AllT P md ops Q S n g T fuel listed a w rs) : wpAnyT P md ops Q S n g T (fuel + 1) listed a w := by
  simp only [Bool.and_eq_true, beq_iff_eq] at hr
  obtain ⟨⟨h1, h2⟩, h3⟩ := hr
  refine ⟨fun e => by rw [h1] at e; rw [e] at h3; simp at h3, fun i hi => ?_⟩
  rw [h1] at hi
  exact ⟨by simpa using List.all_eq_true.1 h2 i hi, h i hi⟩
theorem with_ops {fuel : Nat} {listed : Array Bool} {a : Act} {w : World} (h : ∀ (O : Array Oper) (Q' : Exit → Act → World → Prop) (T' : Act → World → Prop), O = ops → Q' = Q → T' = T → wpAnyT P md O Q' S n g T' fuel listed a w) : wpAnyT P md ops Q S n g T fuel listed a w := h _ _ _ rfl rfl rfl
end
/-- What is put, and at first is there. -/
def lvX : T := .mk 2 2 [] [] []
def lvO (x : T) : T := .mk 4 0 [] [] [x]
/-- Not in the box. -/
def Bx (s : Value) (w : World) : Prop := ∀ b, w.heap.size ≤ b → s ≠ .pointer (some ⟨b, 0, none⟩)
def BxV (W : World) (s : Value) (w : World) : Prop := ∃ g, s = .pointer (some ⟨g, 0, none⟩) ∧ W.heap.size ≤ g ∧ VB w g V.z
def G12 (s : Value) (w : World) : Prop := ∃ r, s = TR.a r ∧ IsTr w (fun _ => True) (lvO T.z) r
def G13 (s : Value) (w : World) : Prop := ∃ r, s = TR.a r ∧ IsTr w (fun _ => True) (lvO (lvO T.z)) r
def GV (x : T) (s s3 : Value) (w : World) : Prop := ∃ v, s = V.a v ∧ IsV w (fun b => s3 ≠ .pointer (some ⟨b, 0, none⟩)) x v
def G17 (s : Value) (w : World) : Prop := ∃ A c, s = .slice A 2 c ∧ 2 ≤ c ∧ A ≠ none ∧ StepsIn w A [⟨0, 0, []⟩, ⟨0, 0, []⟩]
def GT (s s3 : Value) (w : World) : Prop := ∃ u, s = .tuple #[V.a u, .nilIface] ∧ IsV w (fun b => s3 ≠ .pointer (some ⟨b, 0, none⟩)) (lvO (lvO lvX)) u
section
variable {w w' W : World} {s s3 : Value} (hb : Below w.heap.size w w')
include hb
theorem G12.mono (h : G12 s w) : G12 s w' := by obtain ⟨r, e, h⟩ := h; exact ⟨r, e, h.keeps (.of_below hb)⟩
theorem G13.mono (h : G13 s w) : G13 s w' := by obtain ⟨r, e, h⟩ := h; exact ⟨r, e, h.keeps (.of_below hb)⟩
theorem GV.mono {x : T} (h : GV x s s3 w) : GV x s s3 w' := by obtain ⟨r, e, h⟩ := h; exact ⟨r, e, h.keeps (.of_below hb)⟩
theorem GT.mono (h : GT s s3 w) : GT s s3 w' := by obtain ⟨r, e, h⟩ := h; exact ⟨r, e, h.keeps (.of_below hb)⟩
theorem G17.mono (h : G17 s w) : G17 s w' := by obtain ⟨A, c, e, h1, h2, h3⟩ := h; exact ⟨A, c, e, h1, h2, h3.below hb⟩
theorem BxV.mono (h : BxV W s w) : BxV W s w' := by obtain ⟨g, e, h1, h2⟩ := h; exact ⟨g, e, h1, Blk.below h2 hb (Blk.lt h2)⟩
theorem GV.box {x : T} {s' : Value} (h : GV x s s3 w) (_h3 : s3 = undef) (hs : s' = .pointer (some ⟨w.heap.size, 0, none⟩)) : GV x s s' w' := by
  obtain ⟨r, e, h⟩ := h
  refine ⟨r, e, (h.bound.keeps (.of_below hb)).more fun k hk e => ?_⟩
  rw [hs] at e
  simp only [Value.pointer.injEq, Option.some.injEq, Addr.mk.injEq, and_true] at e
  have := hk.2
  omega
end
theorem BxV.bx {W w : World} {s : Value} (h : BxV W s w) : Bx s w := fun b hb e => by
  obtain ⟨g, rfl, -, h2⟩ := h
  simp only [Value.pointer.injEq, Option.some.injEq, Addr.mk.injEq, and_true] at e
  have := Blk.lt h2
  omega
theorem bx_undef {s : Value} {w : World} (h : s = undef) : Bx s w := fun b _ e => by rw [h] at e; cases e
theorem bx_new {s : Value} {w : World} {k : Nat} (h : Bx s w) (hk : w.heap.size ≤ k) : s ≠ .pointer (some ⟨k, 0, none⟩) := h k hk
theorem isTr_z (w : World) (S : Nat → Prop) : IsTr w S T.z TR.z := by
  rw [T.z, IsTr]
  exact ⟨rfl, rfl, rfl, rfl, Nat.le_refl _, ⟨rfl, fun h => absurd h (Nat.lt_irrefl 0)⟩, rfl, Nat.le_refl _, [], ⟨rfl, fun h => absurd h (Nat.lt_irrefl 0)⟩, by rw [IsTrs]⟩
theorem isTr_x (w : World) (S : Nat → Prop) : IsTr w S lvX ⟨2, 2, [], none, 0, 0, none, 0, 0⟩ := by
  rw [lvX, IsTr]
  exact ⟨rfl, rfl, rfl, rfl, Nat.le_refl _, ⟨rfl, fun h => absurd h (Nat.lt_irrefl 0)⟩, rfl, Nat.le_refl _, [], ⟨rfl, fun h => absurd h (Nat.lt_irrefl 0)⟩, by rw [IsTrs]⟩
/-- A row of steps read. -/
theorem steps_of {w : World} {S : Nat → Prop} {A : Option Addr} {l : List St} (h : Reads w S 3 A l.length (eSt.fl l)) : StepsIn w A l := fun hn => by
  obtain ⟨ad, e, -, hc⟩ := h.2 hn
  refine ⟨ad, e, ?_, fun k o ho => ?_⟩
  · have hl : 0 < (eSt.fl l).length := by rw [h.1]; omega
    have := World.block_lt_of_cell? w _ (hc 0 _ (List.getElem?_eq_getElem hl))
    rwa [block_of_add] at this
  · have hk := (List.getElem?_eq_some_iff.1 ho).1
    obtain ⟨ad', e', -, hcc⟩ := eSt.cells h ho hk
    rw [e] at e'; cases e'
    have c0 := hcc 0 _ rfl
    have c1 := hcc 1 _ rfl
    have c2 := hcc 2 _ rfl
    refine ⟨?_, ?_, ?_⟩
    · rw [← (show (ad.add (k * 3)).add 0 = ad.add (k * 3) by simp [Addr.add])]; exact c0
    · exact c1
    · exact c2
theorem g17_new (w : World) : G17 (.slice (some ⟨w.heap.size, 0, none⟩) 2 2) (w.alloc (.cells (eSt.fl [⟨0, 0, []⟩, ⟨0, 0, []⟩]).toArray 48)) :=
  ⟨_, _, rfl, Nat.le_refl _, nofun, steps_of (S := fun _ => True) ⟨rfl, fun _ => ⟨_, rfl, trivial, fun j u hu => by
    rw [addr_plain, Blk.cell (Blk.new w 48 _)]
    simpa using hu⟩⟩⟩
theorem g18_new (w : World) : StepsIn (w.alloc (.cells (eSt.fl [⟨0, 0, []⟩, ⟨1, 0, [107]⟩]).toArray 48)) (some ⟨w.heap.size, 0, none⟩) [⟨0, 0, []⟩, ⟨1, 0, [107]⟩] :=
  steps_of (S := fun _ => True) ⟨rfl, fun _ => ⟨_, rfl, trivial, fun j u hu => by
    rw [addr_plain, Blk.cell (Blk.new w 48 _)]
    simpa using hu⟩⟩
set_option maxRecDepth 100000 in
set_option maxHeartbeats 16000000 in
theorem live_any (w0 : World) (hT : SgT w0) (hg : 0 < w0.heap.size) :
    Calls Tryz.prog 11 #[] w0 fun e w' => e = .returned (.bool true) ∧ Below w0.heap.size w0 w' := by
  have HS := Lib.hid hT
  clear hT
  go_enter Tryz.func11, Tryz.ntmps11
  go_wp2_with fail
  refine wp_at fun W hW => ?_
  obtain ⟨hB, hz, hX1, hX2⟩ := boxes2 hW
  have HB := Lib.hid hB
  have KEEP : Hid (∀ W', Below W.heap.size W W' → Blk W' w0.heap.size 24 #[.int .u64 0, .int .i64 8] ∧ Blk W' (w0.heap.size + 1) 28 #[.int .i64 2, .int .i64 2, .string ⟨#[]⟩, .slice none 0 0, .slice none 0 0]) := Lib.hid fun W' h => ⟨hX1.below h hX1.lt, hX2.below h hX2.lt⟩
  clear hW hB hX1 hX2
  obtain ⟨S, hS⟩ : ∃ S : World → Prop, S = fun w' => Below W.heap.size W w' := ⟨_, rfl⟩
  go_cut [3, 4] from 3 to 23 (fun s3 s4 wx => ∃ (u : V) (g : Nat), s3 = .pointer (some ⟨g, 0, none⟩) ∧ s4 = .nilIface ∧ W.heap.size ≤ g ∧ Hid (VB wx g u) ∧ Hid (IsV wx (fun _ => True) (lvO (lvO lvX)) u) ∧ Hid (Below W.heap.size W wx))
  case first =>
    have hSW : S W.drew := by rw [hS]; exact (Below.refl _ _).drew
    refine wp_region_noPanic ?_
    refine wp_region_ht 17 S (by kernel_rfl) (by kernel_rfl) hSW (fun hst _ => ?_)
    refine wpAnyT_take 0 (oi := ⟨_, _, _, _, _, _⟩) (v := .agg #[.int .u64 0, .int .i64 8]) hst rfl (by kernel_rfl) (fun _ _ _ h => h) (Or.inl ⟨by rfl, fun w hw => by have k := KEEP.out w (by rw [hS] at hw; exact hw); have c0 := k.1.cell 0; have c1 := k.1.cell 1; simp only [List.getElem?_toArray, List.getElem?_cons_succ, List.getElem?_cons_zero] at c0 c1; clear k; go_simp; try with_reducible rfl⟩) hSW ?_
    try simp only [Act.put, List.setIfInBounds_toArray, List.set_cons_zero, List.set_cons_succ]
    refine wpAnyT_take 1 (oi := ⟨_, _, _, _, _, _⟩) (v := .agg #[.int .i64 0, .int .i64 0, .string ⟨#[]⟩, .slice none 0 0, .slice none 0 0]) hst rfl (by kernel_rfl) (fun _ _ _ h => h) (Or.inl ⟨by rfl, fun w _ => by go_simp; try with_reducible rfl⟩) hSW ?_
    try simp only [Act.put, List.setIfInBounds_toArray, List.set_cons_zero, List.set_cons_succ]
    refine wpAnyT_take 5 (oi := ⟨_, _, _, _, _, _⟩) (v := .agg #[.int .i64 0, .int .i64 0, .string ⟨#[]⟩]) hst rfl (by kernel_rfl) (fun _ _ _ h => h) (Or.inl ⟨by rfl, fun w _ => by go_simp; try with_reducible rfl⟩) hSW ?_
    try simp only [Act.put, List.setIfInBounds_toArray, List.set_cons_zero, List.set_cons_succ]
    refine wpAnyT_take 6 (oi := ⟨_, _, _, _, _, _⟩) (v := .agg #[.int .i64 0, .int .i64 0, .string ⟨#[]⟩]) hst rfl (by kernel_rfl) (fun _ _ _ h => h) (Or.inl ⟨by rfl, fun w _ => by go_simp; try with_reducible rfl⟩) hSW ?_
    try simp only [Act.put, List.setIfInBounds_toArray, List.set_cons_zero, List.set_cons_succ]
    refine wpAnyT_take 8 (oi := ⟨_, _, _, _, _, _⟩) (v := .agg #[.int .u64 0, .int .i64 8]) hst rfl (by kernel_rfl) (fun _ _ _ h => h) (Or.inl ⟨by rfl, fun w hw => by have k := KEEP.out w (by rw [hS] at hw; exact hw); have c0 := k.1.cell 0; have c1 := k.1.cell 1; simp only [List.getElem?_toArray, List.getElem?_cons_succ, List.getElem?_cons_zero] at c0 c1; clear k; go_simp; try with_reducible rfl⟩) hSW ?_
    try simp only [Act.put, List.setIfInBounds_toArray, List.set_cons_zero, List.set_cons_succ]
    refine wpAnyT_take 9 (oi := ⟨_, _, _, _, _, _⟩) (v := .agg #[.int .i64 2, .int .i64 2, .string ⟨#[]⟩, .slice none 0 0, .slice none 0 0]) hst rfl (by kernel_rfl) (fun _ _ _ h => h) (Or.inl ⟨by rfl, fun w hw => by have k := KEEP.out w (by rw [hS] at hw; exact hw); have c0 := k.2.cell 0; have c1 := k.2.cell 1; have c2 := k.2.cell 2; have c3 := k.2.cell 3; have c4 := k.2.cell 4; simp only [List.getElem?_toArray, List.getElem?_cons_succ, List.getElem?_cons_zero] at c0 c1 c2 c3 c4; clear k; go_simp; try with_reducible rfl⟩) hSW ?_
    try simp only [Act.put, List.setIfInBounds_toArray, List.set_cons_zero, List.set_cons_succ]
    refine with_ops fun O Q TT hO hQ hTT => ?_
    have hst' : htB .any O 17 = true := by subst hO; exact hst
    have st2 : ∀ (K : Act → World → Prop) (s12 s13 s14 s17 s20 s21 s3 : Value) (w : World), S w → (∀ (s : Value) (w' : World), Below w.heap.size w w' → S w' → G12 s w' → K ({ tmps := #[.bool false, .pointer (some ⟨w0.heap.size, 0, none⟩), .pointer (some ⟨w0.heap.size + 1, 0, none⟩), s3, undef, undef, undef, .agg #[.int .u64 0, .int .i64 8], .agg #[.int .i64 2, .int .i64 2, .string ⟨#[]⟩, .slice none 0 0, .slice none 0 0], undef, .agg #[.int .u64 0, .int .i64 8], .agg #[.int .i64 0, .int .i64 0, .string ⟨#[]⟩, .slice none 0 0, .slice none 0 0], s, s13, s14, .agg #[.int .i64 0, .int .i64 0, .string ⟨#[]⟩], .agg #[.int .i64 0, .int .i64 0, .string ⟨#[]⟩], s17, .agg #[.int .u64 0, .int .i64 8], .agg #[.int .i64 2, .int .i64 2, .string ⟨#[]⟩, .slice none 0 0, .slice none 0 0], s20, s21, undef, undef, undef, undef, undef, undef, undef, undef, undef, undef, undef, undef, undef, undef, undef, undef, undef, undef, undef, undef, undef, undef, undef, undef, undef, undef, undef, undef, undef, undef, undef, undef, undef, undef, undef, undef, undef, undef], defers := [] } : Act) w') → wpOp Tryz.prog O Q 2 K ({ tmps := #[.bool false, .pointer (some ⟨w0.heap.size, 0, none⟩), .pointer (some ⟨w0.heap.size + 1, 0, none⟩), s3, undef, undef, undef, .agg #[.int .u64 0, .int .i64 8], .agg #[.int .i64 2, .int .i64 2, .string ⟨#[]⟩, .slice none 0 0, .slice none 0 0], undef, .agg #[.int .u64 0, .int .i64 8], .agg #[.int .i64 0, .int .i64 0, .string ⟨#[]⟩, .slice none 0 0, .slice none 0 0], s12, s13, s14, .agg #[.int .i64 0, .int .i64 0, .string ⟨#[]⟩], .agg #[.int .i64 0, .int .i64 0, .string ⟨#[]⟩], s17, .agg #[.int .u64 0, .int .i64 8], .agg #[.int .i64 2, .int .i64 2, .string ⟨#[]⟩, .slice none 0 0, .slice none 0 0], s20, s21, undef, undef, undef, undef, undef, undef, undef, undef, undef, undef, undef, undef, undef, undef, undef, undef, undef, undef, undef, undef, undef, undef, undef, undef, undef, undef, undef, undef, undef, undef, undef, undef, undef, undef, undef, undef, undef, undef], defers := [] } : Act) w := by
      intro K s12 s13 s14 s17 s20 s21 s3 w hSw hK0
      subst hO
      refine wpOp_step rfl (fun K' hK => ?_)
      rw [if_pos (by rfl)]
      go_simp
      refine (one_any T.z TR.z (fun _ => True) w (isTr_z w _)).mono ?_
      rintro e w' ⟨u, rfl, hu, hb⟩
      have hS' : S w' := by rw [hS]; rw [hS] at hSw; exact hSw.trans (hb.mono hSw.size)
      refine hK _ _ ?_
      try simp only [Act.put, List.setIfInBounds_toArray, List.set_cons_zero, List.set_cons_succ]
      exact hK0 _ w' hb hS' ⟨u, rfl, hu.more fun _ _ => trivial⟩
    have st3 : ∀ (K : Act → World → Prop) (s12 s13 s14 s17 s20 s21 s3 : Value) (w : World), S w → G12 s12 w → (∀ (s : Value) (w' : World), Below w.heap.size w w' → S w' → G13 s w' → K ({ tmps := #[.bool false, .pointer (some ⟨w0.heap.size, 0, none⟩), .pointer (some ⟨w0.heap.size + 1, 0, none⟩), s3, undef, undef, undef, .agg #[.int .u64 0, .int .i64 8], .agg #[.int .i64 2, .int .i64 2, .string ⟨#[]⟩, .slice none 0 0, .slice none 0 0], undef, .agg #[.int .u64 0, .int .i64 8], .agg #[.int .i64 0, .int .i64 0, .string ⟨#[]⟩, .slice none 0 0, .slice none 0 0], s12, s, s14, .agg #[.int .i64 0, .int .i64 0, .string ⟨#[]⟩], .agg #[.int .i64 0, .int .i64 0, .string ⟨#[]⟩], s17, .agg #[.int .u64 0, .int .i64 8], .agg #[.int .i64 2, .int .i64 2, .string ⟨#[]⟩, .slice none 0 0, .slice none 0 0], s20, s21, undef, undef, undef, undef, undef, undef, undef, undef, undef, undef, undef, undef, undef, undef, undef, undef, undef, undef, undef, undef, undef, undef, undef, undef, undef, undef, undef, undef, undef, undef, undef, undef, undef, undef, undef, undef, undef, undef], defers := [] } : Act) w') → wpOp Tryz.prog O Q 3 K ({ tmps := #[.bool false, .pointer (some ⟨w0.heap.size, 0, none⟩), .pointer (some ⟨w0.heap.size + 1, 0, none⟩), s3, undef, undef, undef, .agg #[.int .u64 0, .int .i64 8], .agg #[.int .i64 2, .int .i64 2, .string ⟨#[]⟩, .slice none 0 0, .slice none 0 0], undef, .agg #[.int .u64 0, .int .i64 8], .agg #[.int .i64 0, .int .i64 0, .string ⟨#[]⟩, .slice none 0 0, .slice none 0 0], s12, s13, s14, .agg #[.int .i64 0, .int .i64 0, .string ⟨#[]⟩], .agg #[.int .i64 0, .int .i64 0, .string ⟨#[]⟩], s17, .agg #[.int .u64 0, .int .i64 8], .agg #[.int .i64 2, .int .i64 2, .string ⟨#[]⟩, .slice none 0 0, .slice none 0 0], s20, s21, undef, undef, undef, undef, undef, undef, undef, undef, undef, undef, undef, undef, undef, undef, undef, undef, undef, undef, undef, undef, undef, undef, undef, undef, undef, undef, undef, undef, undef, undef, undef, undef, undef, undef, undef, undef, undef, undef], defers := [] } : Act) w := by
      intro K s12 s13 s14 s17 s20 s21 s3 w hSw h12 hK0
      subst hO
      refine wpOp_step rfl (fun K' hK => ?_)
      obtain ⟨r, rfl, hr⟩ := h12
      rw [if_pos (by rfl)]
      go_simp
      refine (one_any _ r (fun _ => True) w hr).mono ?_
      rintro e w' ⟨u, rfl, hu, hb⟩
      have hS' : S w' := by rw [hS]; rw [hS] at hSw; exact hSw.trans (hb.mono hSw.size)
      refine hK _ _ ?_
      try simp only [Act.put, List.setIfInBounds_toArray, List.set_cons_zero, List.set_cons_succ]
      exact hK0 _ w' hb hS' ⟨u, rfl, hu.more fun _ _ => trivial⟩
    have st4 : ∀ (K : Act → World → Prop) (s12 s13 s14 s17 s20 s21 s3 : Value) (w : World), S w → G13 s13 w → Bx s3 w → (∀ (s : Value) (w' : World), Below w.heap.size w w' → S w' → GV (lvO (lvO T.z)) s s3 w' → K ({ tmps := #[.bool false, .pointer (some ⟨w0.heap.size, 0, none⟩), .pointer (some ⟨w0.heap.size + 1, 0, none⟩), s3, undef, undef, undef, .agg #[.int .u64 0, .int .i64 8], .agg #[.int .i64 2, .int .i64 2, .string ⟨#[]⟩, .slice none 0 0, .slice none 0 0], undef, .agg #[.int .u64 0, .int .i64 8], .agg #[.int .i64 0, .int .i64 0, .string ⟨#[]⟩, .slice none 0 0, .slice none 0 0], s12, s13, s, .agg #[.int .i64 0, .int .i64 0, .string ⟨#[]⟩], .agg #[.int .i64 0, .int .i64 0, .string ⟨#[]⟩], s17, .agg #[.int .u64 0, .int .i64 8], .agg #[.int .i64 2, .int .i64 2, .string ⟨#[]⟩, .slice none 0 0, .slice none 0 0], s20, s21, undef, undef, undef, undef, undef, undef, undef, undef, undef, undef, undef, undef, undef, undef, undef, undef, undef, undef, undef, undef, undef, undef, undef, undef, undef, undef, undef, undef, undef, undef, undef, undef, undef, undef, undef, undef, undef, undef], defers := [] } : Act) w') → wpOp Tryz.prog O Q 4 K ({ tmps := #[.bool false, .pointer (some ⟨w0.heap.size, 0, none⟩), .pointer (some ⟨w0.heap.size + 1, 0, none⟩), s3, undef, undef, undef, .agg #[.int .u64 0, .int .i64 8], .agg #[.int .i64 2, .int .i64 2, .string ⟨#[]⟩, .slice none 0 0, .slice none 0 0], undef, .agg #[.int .u64 0, .int .i64 8], .agg #[.int .i64 0, .int .i64 0, .string ⟨#[]⟩, .slice none 0 0, .slice none 0 0], s12, s13, s14, .agg #[.int .i64 0, .int .i64 0, .string ⟨#[]⟩], .agg #[.int .i64 0, .int .i64 0, .string ⟨#[]⟩], s17, .agg #[.int .u64 0, .int .i64 8], .agg #[.int .i64 2, .int .i64 2, .string ⟨#[]⟩, .slice none 0 0, .slice none 0 0], s20, s21, undef, undef, undef, undef, undef, undef, undef, undef, undef, undef, undef, undef, undef, undef, undef, undef, undef, undef, undef, undef, undef, undef, undef, undef, undef, undef, undef, undef, undef, undef, undef, undef, undef, undef, undef, undef, undef, undef], defers := [] } : Act) w := by
      intro K s12 s13 s14 s17 s20 s21 s3 w hSw h13 hx hK0
      subst hO
      refine wpOp_step rfl (fun K' hK => ?_)
      obtain ⟨r, rfl, hr⟩ := h13
      rw [if_pos (by rfl)]
      go_simp
      refine (lof_any _ r (fun _ => True) 0 8 w (makeOk _ (by simp [lvO, T.z, Pl, Pls, Sc])) hr (by decide) (by decide)).mono ?_
      rintro e w' ⟨u, rfl, hu, hb⟩
      have hS' : S w' := by rw [hS]; rw [hS] at hSw; exact hSw.trans (hb.mono hSw.size)
      refine hK _ _ ?_
      try simp only [Act.put, List.setIfInBounds_toArray, List.set_cons_zero, List.set_cons_succ]
      exact hK0 _ w' hb hS' ⟨u, rfl, hu.more fun k h => bx_new hx h⟩
    have st10 : ∀ (K : Act → World → Prop) (s12 s13 s14 s17 s20 s21 s3 : Value) (w : World), S w → Bx s3 w → (∀ (s : Value) (w' : World), Below w.heap.size w w' → S w' → GV lvX s s3 w' → K ({ tmps := #[.bool false, .pointer (some ⟨w0.heap.size, 0, none⟩), .pointer (some ⟨w0.heap.size + 1, 0, none⟩), s3, undef, undef, undef, .agg #[.int .u64 0, .int .i64 8], .agg #[.int .i64 2, .int .i64 2, .string ⟨#[]⟩, .slice none 0 0, .slice none 0 0], undef, .agg #[.int .u64 0, .int .i64 8], .agg #[.int .i64 0, .int .i64 0, .string ⟨#[]⟩, .slice none 0 0, .slice none 0 0], s12, s13, s14, .agg #[.int .i64 0, .int .i64 0, .string ⟨#[]⟩], .agg #[.int .i64 0, .int .i64 0, .string ⟨#[]⟩], s17, .agg #[.int .u64 0, .int .i64 8], .agg #[.int .i64 2, .int .i64 2, .string ⟨#[]⟩, .slice none 0 0, .slice none 0 0], s, s21, undef, undef, undef, undef, undef, undef, undef, undef, undef, undef, undef, undef, undef, undef, undef, undef, undef, undef, undef, undef, undef, undef, undef, undef, undef, undef, undef, undef, undef, undef, undef, undef, undef, undef, undef, undef, undef, undef], defers := [] } : Act) w') → wpOp Tryz.prog O Q 10 K ({ tmps := #[.bool false, .pointer (some ⟨w0.heap.size, 0, none⟩), .pointer (some ⟨w0.heap.size + 1, 0, none⟩), s3, undef, undef, undef, .agg #[.int .u64 0, .int .i64 8], .agg #[.int .i64 2, .int .i64 2, .string ⟨#[]⟩, .slice none 0 0, .slice none 0 0], undef, .agg #[.int .u64 0, .int .i64 8], .agg #[.int .i64 0, .int .i64 0, .string ⟨#[]⟩, .slice none 0 0, .slice none 0 0], s12, s13, s14, .agg #[.int .i64 0, .int .i64 0, .string ⟨#[]⟩], .agg #[.int .i64 0, .int .i64 0, .string ⟨#[]⟩], s17, .agg #[.int .u64 0, .int .i64 8], .agg #[.int .i64 2, .int .i64 2, .string ⟨#[]⟩, .slice none 0 0, .slice none 0 0], s20, s21, undef, undef, undef, undef, undef, undef, undef, undef, undef, undef, undef, undef, undef, undef, undef, undef, undef, undef, undef, undef, undef, undef, undef, undef, undef, undef, undef, undef, undef, undef, undef, undef, undef, undef, undef, undef, undef, undef], defers := [] } : Act) w := by
      intro K s12 s13 s14 s17 s20 s21 s3 w hSw hx hK0
      subst hO
      refine wpOp_step rfl (fun K' hK => ?_)
      rw [if_pos (by rfl)]
      go_simp
      refine (lof_any lvX ⟨2, 2, [], none, 0, 0, none, 0, 0⟩ (fun _ => True) 0 8 w (makeOk _ (by simp [lvX, Pl, Sc])) (isTr_x w _) (by decide) (by decide)).mono ?_
      rintro e w' ⟨u, rfl, hu, hb⟩
      have hS' : S w' := by rw [hS]; rw [hS] at hSw; exact hSw.trans (hb.mono hSw.size)
      refine hK _ _ ?_
      try simp only [Act.put, List.setIfInBounds_toArray, List.set_cons_zero, List.set_cons_succ]
      exact hK0 _ w' hb hS' ⟨u, rfl, hu.more fun k h => bx_new hx h⟩
    have st7 : ∀ (K : Act → World → Prop) (s12 s13 s14 s17 s20 s21 s3 : Value) (w : World), S w → (∀ (s : Value) (w' : World), Below w.heap.size w w' → S w' → G17 s w' → K ({ tmps := #[.bool false, .pointer (some ⟨w0.heap.size, 0, none⟩), .pointer (some ⟨w0.heap.size + 1, 0, none⟩), s3, undef, undef, undef, .agg #[.int .u64 0, .int .i64 8], .agg #[.int .i64 2, .int .i64 2, .string ⟨#[]⟩, .slice none 0 0, .slice none 0 0], undef, .agg #[.int .u64 0, .int .i64 8], .agg #[.int .i64 0, .int .i64 0, .string ⟨#[]⟩, .slice none 0 0, .slice none 0 0], s12, s13, s14, .agg #[.int .i64 0, .int .i64 0, .string ⟨#[]⟩], .agg #[.int .i64 0, .int .i64 0, .string ⟨#[]⟩], s, .agg #[.int .u64 0, .int .i64 8], .agg #[.int .i64 2, .int .i64 2, .string ⟨#[]⟩, .slice none 0 0, .slice none 0 0], s20, s21, undef, undef, undef, undef, undef, undef, undef, undef, undef, undef, undef, undef, undef, undef, undef, undef, undef, undef, undef, undef, undef, undef, undef, undef, undef, undef, undef, undef, undef, undef, undef, undef, undef, undef, undef, undef, undef, undef], defers := [] } : Act) w') → wpOp Tryz.prog O Q 7 K ({ tmps := #[.bool false, .pointer (some ⟨w0.heap.size, 0, none⟩), .pointer (some ⟨w0.heap.size + 1, 0, none⟩), s3, undef, undef, undef, .agg #[.int .u64 0, .int .i64 8], .agg #[.int .i64 2, .int .i64 2, .string ⟨#[]⟩, .slice none 0 0, .slice none 0 0], undef, .agg #[.int .u64 0, .int .i64 8], .agg #[.int .i64 0, .int .i64 0, .string ⟨#[]⟩, .slice none 0 0, .slice none 0 0], s12, s13, s14, .agg #[.int .i64 0, .int .i64 0, .string ⟨#[]⟩], .agg #[.int .i64 0, .int .i64 0, .string ⟨#[]⟩], s17, .agg #[.int .u64 0, .int .i64 8], .agg #[.int .i64 2, .int .i64 2, .string ⟨#[]⟩, .slice none 0 0, .slice none 0 0], s20, s21, undef, undef, undef, undef, undef, undef, undef, undef, undef, undef, undef, undef, undef, undef, undef, undef, undef, undef, undef, undef, undef, undef, undef, undef, undef, undef, undef, undef, undef, undef, undef, undef, undef, undef, undef, undef, undef, undef], defers := [] } : Act) w := by
      intro K s12 s13 s14 s17 s20 s21 s3 w hSw hK0
      subst hO
      refine wpOp_step rfl (fun K' hK => ?_)
      rw [if_pos (by rfl)]
      go_simp
      have hb : Below w.heap.size w (w.alloc (.cells (eSt.fl [⟨0, 0, []⟩, ⟨0, 0, []⟩]).toArray 48)) := (Below.refl _ _).alloc (Nat.le_refl _) _
      obtain ⟨w', hw'⟩ : ∃ w', w' = w.alloc (.cells (eSt.fl [⟨0, 0, []⟩, ⟨0, 0, []⟩]).toArray 48) := ⟨_, rfl⟩
      rw [← hw'] at hb
      have hS' : S w' := by rw [hS]; rw [hS] at hSw; exact hSw.trans (hb.mono hSw.size)
      have hg17 : G17 (.slice (some ⟨w.heap.size, 0, none⟩) 2 2) w' := by rw [hw']; exact g17_new w
      have hK1 := hK0 _ w' hb hS' hg17
      rw [hw'] at hK1
      refine hK _ _ ?_
      try simp only [Act.put, List.setIfInBounds_toArray, List.set_cons_zero, List.set_cons_succ]
      exact hK1
    have st15 : ∀ (K : Act → World → Prop) (s12 s13 s14 s17 s20 s21 s3 : Value) (w : World), S w → (∀ (s : Value) (w' : World), Below w.heap.size w w' → S w' → s = .pointer (some ⟨w.heap.size, 0, none⟩) ∧ VB w' w.heap.size V.z → K ({ tmps := #[.bool false, .pointer (some ⟨w0.heap.size, 0, none⟩), .pointer (some ⟨w0.heap.size + 1, 0, none⟩), s, undef, undef, undef, .agg #[.int .u64 0, .int .i64 8], .agg #[.int .i64 2, .int .i64 2, .string ⟨#[]⟩, .slice none 0 0, .slice none 0 0], undef, .agg #[.int .u64 0, .int .i64 8], .agg #[.int .i64 0, .int .i64 0, .string ⟨#[]⟩, .slice none 0 0, .slice none 0 0], s12, s13, s14, .agg #[.int .i64 0, .int .i64 0, .string ⟨#[]⟩], .agg #[.int .i64 0, .int .i64 0, .string ⟨#[]⟩], s17, .agg #[.int .u64 0, .int .i64 8], .agg #[.int .i64 2, .int .i64 2, .string ⟨#[]⟩, .slice none 0 0, .slice none 0 0], s20, s21, undef, undef, undef, undef, undef, undef, undef, undef, undef, undef, undef, undef, undef, undef, undef, undef, undef, undef, undef, undef, undef, undef, undef, undef, undef, undef, undef, undef, undef, undef, undef, undef, undef, undef, undef, undef, undef, undef], defers := [] } : Act) w') → wpOp Tryz.prog O Q 15 K ({ tmps := #[.bool false, .pointer (some ⟨w0.heap.size, 0, none⟩), .pointer (some ⟨w0.heap.size + 1, 0, none⟩), s3, undef, undef, undef, .agg #[.int .u64 0, .int .i64 8], .agg #[.int .i64 2, .int .i64 2, .string ⟨#[]⟩, .slice none 0 0, .slice none 0 0], undef, .agg #[.int .u64 0, .int .i64 8], .agg #[.int .i64 0, .int .i64 0, .string ⟨#[]⟩, .slice none 0 0, .slice none 0 0], s12, s13, s14, .agg #[.int .i64 0, .int .i64 0, .string ⟨#[]⟩], .agg #[.int .i64 0, .int .i64 0, .string ⟨#[]⟩], s17, .agg #[.int .u64 0, .int .i64 8], .agg #[.int .i64 2, .int .i64 2, .string ⟨#[]⟩, .slice none 0 0, .slice none 0 0], s20, s21, undef, undef, undef, undef, undef, undef, undef, undef, undef, undef, undef, undef, undef, undef, undef, undef, undef, undef, undef, undef, undef, undef, undef, undef, undef, undef, undef, undef, undef, undef, undef, undef, undef, undef, undef, undef, undef, undef], defers := [] } : Act) w := by
      intro K s12 s13 s14 s17 s20 s21 s3 w hSw hK0
      subst hO
      refine wpOp_step rfl (fun K' hK => ?_)
      rw [if_pos (by rfl)]
      go_simp
      have hb : Below w.heap.size w (w.alloc (.cells V.z.l.toArray 42)) := (Below.refl _ _).alloc (Nat.le_refl _) _
      obtain ⟨w', hw'⟩ : ∃ w', w' = w.alloc (.cells V.z.l.toArray 42) := ⟨_, rfl⟩
      rw [← hw'] at hb
      have hS' : S w' := by rw [hS]; rw [hS] at hSw; exact hSw.trans (hb.mono hSw.size)
      have hK1 := hK0 _ w' hb hS' ⟨rfl, by rw [hw']; exact Blk.new w 42 V.z.l.toArray⟩
      rw [hw'] at hK1
      refine hK _ _ ?_
      try simp only [Act.put, List.setIfInBounds_toArray, List.set_cons_zero, List.set_cons_succ]
      exact hK1
    have st11 : ∀ (K : Act → World → Prop) (s12 s13 s14 s17 s20 s21 s3 : Value) (w : World), S w → GV (lvO (lvO T.z)) s14 s3 w → G17 s17 w → GV lvX s20 s3 w → Bx s3 w → (∀ (s : Value) (w' : World), Below w.heap.size w w' → S w' → GT s s3 w' → K ({ tmps := #[.bool false, .pointer (some ⟨w0.heap.size, 0, none⟩), .pointer (some ⟨w0.heap.size + 1, 0, none⟩), s3, undef, undef, undef, .agg #[.int .u64 0, .int .i64 8], .agg #[.int .i64 2, .int .i64 2, .string ⟨#[]⟩, .slice none 0 0, .slice none 0 0], undef, .agg #[.int .u64 0, .int .i64 8], .agg #[.int .i64 0, .int .i64 0, .string ⟨#[]⟩, .slice none 0 0, .slice none 0 0], s12, s13, s14, .agg #[.int .i64 0, .int .i64 0, .string ⟨#[]⟩], .agg #[.int .i64 0, .int .i64 0, .string ⟨#[]⟩], s17, .agg #[.int .u64 0, .int .i64 8], .agg #[.int .i64 2, .int .i64 2, .string ⟨#[]⟩, .slice none 0 0, .slice none 0 0], s20, s, undef, undef, undef, undef, undef, undef, undef, undef, undef, undef, undef, undef, undef, undef, undef, undef, undef, undef, undef, undef, undef, undef, undef, undef, undef, undef, undef, undef, undef, undef, undef, undef, undef, undef, undef, undef, undef, undef], defers := [] } : Act) w') → wpOp Tryz.prog O Q 11 K ({ tmps := #[.bool false, .pointer (some ⟨w0.heap.size, 0, none⟩), .pointer (some ⟨w0.heap.size + 1, 0, none⟩), s3, undef, undef, undef, .agg #[.int .u64 0, .int .i64 8], .agg #[.int .i64 2, .int .i64 2, .string ⟨#[]⟩, .slice none 0 0, .slice none 0 0], undef, .agg #[.int .u64 0, .int .i64 8], .agg #[.int .i64 0, .int .i64 0, .string ⟨#[]⟩, .slice none 0 0, .slice none 0 0], s12, s13, s14, .agg #[.int .i64 0, .int .i64 0, .string ⟨#[]⟩], .agg #[.int .i64 0, .int .i64 0, .string ⟨#[]⟩], s17, .agg #[.int .u64 0, .int .i64 8], .agg #[.int .i64 2, .int .i64 2, .string ⟨#[]⟩, .slice none 0 0, .slice none 0 0], s20, s21, undef, undef, undef, undef, undef, undef, undef, undef, undef, undef, undef, undef, undef, undef, undef, undef, undef, undef, undef, undef, undef, undef, undef, undef, undef, undef, undef, undef, undef, undef, undef, undef, undef, undef, undef, undef, undef, undef], defers := [] } : Act) w := by
      intro K s12 s13 s14 s17 s20 s21 s3 w hSw h14 h17 h20 hx hK0
      subst hO
      refine wpOp_step rfl (fun K' hK => ?_)
      obtain ⟨v, rfl, hv⟩ := h14
      obtain ⟨u, rfl, hu⟩ := h20
      obtain ⟨A, c, rfl, hc, hA, hst⟩ := h17
      rw [if_pos (by rfl)]
      go_simp
      refine (put_any gsPl _ _ v u A c [⟨0, 0, []⟩, ⟨0, 0, []⟩] _ w (P := PlP) (by refine ⟨by simp [lvO, T.z, Pl, Pls, Sc], by decide, by decide⟩) (by refine ⟨by simp [lvX, Pl, Sc], by decide, by decide⟩) hv hu (fun h => absurd h hA) hc (by decide) hst (by simp)).mono ?_
      rintro e w' ⟨u2, x2, rfl, hu2, hx2, hb⟩
      have hr : chgL (putD lvX) 1 (lvO (lvO T.z)) [⟨0, 0, []⟩, ⟨0, 0, []⟩] 0 = (lvO (lvO lvX), 0, 0) := by rfl
      rw [hr] at hu2 hx2
      have hx3 : x2 = .nilIface := by
        rcases hx2 with h | h
        · exact h.2
        · exact absurd rfl h.1
      subst hx3
      have hS' : S w' := by rw [hS]; rw [hS] at hSw; exact hSw.trans (hb.mono hSw.size)
      refine hK _ _ ?_
      try simp only [Act.put, List.setIfInBounds_toArray, List.set_cons_zero, List.set_cons_succ]
      exact hK0 _ w' hb hS' ⟨u2, rfl, hu2.more fun k h => h.elim id (fun h => bx_new hx h)⟩
    have T5tt : ∀ (s12 s13 s14 s17 s20 s21 s3 : Value) (w : World), S w → GT s21 s3 w → BxV W s3 w → wpAnyT Tryz.prog .any O Q S 17 1 TT 4 #[true, true, true, true, true, true, true, true, true, true, true, true, false, false, false, true, false, false] ({ tmps := #[.bool false, .pointer (some ⟨w0.heap.size, 0, none⟩), .pointer (some ⟨w0.heap.size + 1, 0, none⟩), s3, undef, undef, undef, .agg #[.int .u64 0, .int .i64 8], .agg #[.int .i64 2, .int .i64 2, .string ⟨#[]⟩, .slice none 0 0, .slice none 0 0], undef, .agg #[.int .u64 0, .int .i64 8], .agg #[.int .i64 0, .int .i64 0, .string ⟨#[]⟩, .slice none 0 0, .slice none 0 0], s12, s13, s14, .agg #[.int .i64 0, .int .i64 0, .string ⟨#[]⟩], .agg #[.int .i64 0, .int .i64 0, .string ⟨#[]⟩], s17, .agg #[.int .u64 0, .int .i64 8], .agg #[.int .i64 2, .int .i64 2, .string ⟨#[]⟩, .slice none 0 0, .slice none 0 0], s20, s21, undef, undef, undef, undef, undef, undef, undef, undef, undef, undef, undef, undef, undef, undef, undef, undef, undef, undef, undef, undef, undef, undef, undef, undef, undef, undef, undef, undef, undef, undef, undef, undef, undef, undef, undef, undef, undef, undef], defers := [] } : Act) w := by
      intro s12 s13 s14 s17 s20 s21 s3 w hSw h21 h3
      obtain ⟨u, rfl, hu⟩ := h21
      obtain ⟨g, rfl, hgw, hgb⟩ := h3
      subst hO hQ hTT
      refine wpAnyT_take 12 (oi := ⟨_, _, _, _, _, _⟩) (v := .tuple #[V.a u, .nilIface]) hst rfl (by kernel_rfl) (fun _ _ _ h => h) (Or.inl ⟨by rfl, fun w _ => by go_simp; try with_reducible rfl⟩) hSw ?_
      try simp only [Act.put, List.setIfInBounds_toArray, List.set_cons_zero, List.set_cons_succ]
      refine wpAnyT_take 13 (oi := ⟨_, _, _, _, _, _⟩) (v := V.a u) hst rfl (by kernel_rfl) (fun _ _ _ h => h) (Or.inl ⟨by rfl, fun w _ => by go_simp; try with_reducible rfl⟩) hSw ?_
      try simp only [Act.put, List.setIfInBounds_toArray, List.set_cons_zero, List.set_cons_succ]
      refine wpAnyT_take 14 (oi := ⟨_, _, _, _, _, _⟩) (v := .nilIface) hst rfl (by kernel_rfl) (fun _ _ _ h => h) (Or.inl ⟨by rfl, fun w _ => by go_simp; try with_reducible rfl⟩) hSw ?_
      try simp only [Act.put, List.setIfInBounds_toArray, List.set_cons_zero, List.set_cons_succ]
      refine wpAnyT_one 16 (by kernel_rfl) (by decide) rfl (fun K hK => ?_)
      refine step_stE (E := eV) rfl rfl infoV11 rfl u (g := g) hgb rfl rfl (fun w7 HR7 ho7 hB7 => ?_)
      have hS7 : S w7 := by rw [hS] at hSw ⊢; exact hB7 _ _ hSw hgw
      refine hK.out _ _ hS7 (fun _ => ?_)
      clear hK K
      try simp only [Act.put, List.setIfInBounds_toArray, List.set_cons_zero, List.set_cons_succ]
      refine wpAnyT_done (by kernel_rfl) ?_
      try dsimp only
      simp only [List.drop_succ_cons, List.drop_zero]
      go_wp2_with fail
      refine NoPanic.normal ?_
      go_wp2_with fail
      go_meet
      exact ⟨u, g, rfl, rfl, hgw, HR7, Lib.hid ((hu.keeps (w' := w7) (fun k hk hs => ho7 k (fun e => hs (by rw [e])))).more fun _ _ => trivial), Lib.hid (by rw [hS] at hS7; exact hS7)⟩
    have T5tf : ∀ (s12 s13 s14 s17 s20 s21 s3 : Value) (w : World), S w → GT s21 s3 w → s3 = undef → wpAnyT Tryz.prog .any O Q S 17 1 TT 5 #[true, true, true, true, true, true, true, true, true, true, true, true, false, false, false, false, false, false] ({ tmps := #[.bool false, .pointer (some ⟨w0.heap.size, 0, none⟩), .pointer (some ⟨w0.heap.size + 1, 0, none⟩), s3, undef, undef, undef, .agg #[.int .u64 0, .int .i64 8], .agg #[.int .i64 2, .int .i64 2, .string ⟨#[]⟩, .slice none 0 0, .slice none 0 0], undef, .agg #[.int .u64 0, .int .i64 8], .agg #[.int .i64 0, .int .i64 0, .string ⟨#[]⟩, .slice none 0 0, .slice none 0 0], s12, s13, s14, .agg #[.int .i64 0, .int .i64 0, .string ⟨#[]⟩], .agg #[.int .i64 0, .int .i64 0, .string ⟨#[]⟩], s17, .agg #[.int .u64 0, .int .i64 8], .agg #[.int .i64 2, .int .i64 2, .string ⟨#[]⟩, .slice none 0 0, .slice none 0 0], s20, s21, undef, undef, undef, undef, undef, undef, undef, undef, undef, undef, undef, undef, undef, undef, undef, undef, undef, undef, undef, undef, undef, undef, undef, undef, undef, undef, undef, undef, undef, undef, undef, undef, undef, undef, undef, undef, undef, undef], defers := [] } : Act) w := by
      intro s12 s13 s14 s17 s20 s21 s3 w hSw h21 h3
      obtain ⟨u, rfl, hu⟩ := h21
      subst h3
      subst hO hQ hTT
      refine wpAnyT_take 12 (oi := ⟨_, _, _, _, _, _⟩) (v := .tuple #[V.a u, .nilIface]) hst rfl (by kernel_rfl) (fun _ _ _ h => h) (Or.inl ⟨by rfl, fun w _ => by go_simp; try with_reducible rfl⟩) hSw ?_
      try simp only [Act.put, List.setIfInBounds_toArray, List.set_cons_zero, List.set_cons_succ]
      refine wpAnyT_take 13 (oi := ⟨_, _, _, _, _, _⟩) (v := V.a u) hst rfl (by kernel_rfl) (fun _ _ _ h => h) (Or.inl ⟨by rfl, fun w _ => by go_simp; try with_reducible rfl⟩) hSw ?_
      try simp only [Act.put, List.setIfInBounds_toArray, List.set_cons_zero, List.set_cons_succ]
      refine wpAnyT_take 14 (oi := ⟨_, _, _, _, _, _⟩) (v := .nilIface) hst rfl (by kernel_rfl) (fun _ _ _ h => h) (Or.inl ⟨by rfl, fun w _ => by go_simp; try with_reducible rfl⟩) hSw ?_
      try simp only [Act.put, List.setIfInBounds_toArray, List.set_cons_zero, List.set_cons_succ]
      refine wpAnyT_one 15 (by kernel_rfl) (by decide) rfl (fun K hK => ?_)
      rw [if_pos (by rfl)]
      go_simp
      have hb : Below w.heap.size w (w.alloc (.cells V.z.l.toArray 42)) := (Below.refl _ _).alloc (Nat.le_refl _) _
      have hS8 : S (w.alloc (.cells V.z.l.toArray 42)) := by rw [hS] at hSw ⊢; exact hSw.trans (hb.mono hSw.size)
      have hgw : W.heap.size ≤ w.heap.size := by rw [hS] at hSw; exact hSw.size
      refine hK.out _ _ hS8 (fun _ => ?_)
      clear hK K
      try simp only [List.setIfInBounds_toArray, List.set_cons_zero, List.set_cons_succ]
      have hSw := hS8
      have hub := hu.bound
      refine wpAnyT_one 16 (by kernel_rfl) (by decide) rfl (fun K hK => ?_)
      refine step_stE (E := eV) rfl rfl infoV11 rfl u (g := w.heap.size) (Blk.new w 42 V.z.l.toArray) rfl rfl (fun w7 HR7 ho7 hB7 => ?_)
      have hS7 : S w7 := by rw [hS] at hSw ⊢; exact hB7 _ _ hSw hgw
      refine hK.out _ _ hS7 (fun _ => ?_)
      clear hK K
      try simp only [Act.put, List.setIfInBounds_toArray, List.set_cons_zero, List.set_cons_succ]
      refine wpAnyT_done (by kernel_rfl) ?_
      try dsimp only
      simp only [List.drop_succ_cons, List.drop_zero]
      go_wp2_with fail
      refine NoPanic.normal ?_
      go_wp2_with fail
      go_meet
      exact ⟨u, w.heap.size, rfl, rfl, hgw, HR7, Lib.hid (((hub.keeps (.of_below hb)).keeps (w' := w7) (fun k hk hs => ho7 k (fun e => by have := hs.2; omega))).more fun _ _ => trivial), Lib.hid (by rw [hS] at hS7; exact hS7)⟩
    have T4tt : ∀ (s12 s13 s14 s17 s20 s21 s3 : Value) (w : World), S w → GV (lvO (lvO T.z)) s14 s3 w → GV lvX s20 s3 w → G17 s17 w → BxV W s3 w → wpAnyT Tryz.prog .any O Q S 17 1 TT 5 #[true, true, true, true, true, true, true, true, true, true, true, false, false, false, false, true, false, false] ({ tmps := #[.bool false, .pointer (some ⟨w0.heap.size, 0, none⟩), .pointer (some ⟨w0.heap.size + 1, 0, none⟩), s3, undef, undef, undef, .agg #[.int .u64 0, .int .i64 8], .agg #[.int .i64 2, .int .i64 2, .string ⟨#[]⟩, .slice none 0 0, .slice none 0 0], undef, .agg #[.int .u64 0, .int .i64 8], .agg #[.int .i64 0, .int .i64 0, .string ⟨#[]⟩, .slice none 0 0, .slice none 0 0], s12, s13, s14, .agg #[.int .i64 0, .int .i64 0, .string ⟨#[]⟩], .agg #[.int .i64 0, .int .i64 0, .string ⟨#[]⟩], s17, .agg #[.int .u64 0, .int .i64 8], .agg #[.int .i64 2, .int .i64 2, .string ⟨#[]⟩, .slice none 0 0, .slice none 0 0], s20, s21, undef, undef, undef, undef, undef, undef, undef, undef, undef, undef, undef, undef, undef, undef, undef, undef, undef, undef, undef, undef, undef, undef, undef, undef, undef, undef, undef, undef, undef, undef, undef, undef, undef, undef, undef, undef, undef, undef], defers := [] } : Act) w := by
      intro s12 s13 s14 s17 s20 s21 s3 w hSw h14 h20 h17 h3
      refine wpAnyT_ready (rs := [11]) (by subst hO; kernel_rfl) ?_
      refine AllT.cons (st11 _ s12 s13 s14 s17 s20 s21 s3 w hSw h14 h17 h20 h3.bx (fun s w' hb hS' h => ⟨hS', T5tt s12 s13 s14 s17 s20 s s3 w' hS' h (h3.mono hb)⟩)) ?_
      exact AllT.nil
    have T4tf : ∀ (s12 s13 s14 s17 s20 s21 s3 : Value) (w : World), S w → GV (lvO (lvO T.z)) s14 s3 w → GV lvX s20 s3 w → G17 s17 w → s3 = undef → wpAnyT Tryz.prog .any O Q S 17 1 TT 6 #[true, true, true, true, true, true, true, true, true, true, true, false, false, false, false, false, false, false] ({ tmps := #[.bool false, .pointer (some ⟨w0.heap.size, 0, none⟩), .pointer (some ⟨w0.heap.size + 1, 0, none⟩), s3, undef, undef, undef, .agg #[.int .u64 0, .int .i64 8], .agg #[.int .i64 2, .int .i64 2, .string ⟨#[]⟩, .slice none 0 0, .slice none 0 0], undef, .agg #[.int .u64 0, .int .i64 8], .agg #[.int .i64 0, .int .i64 0, .string ⟨#[]⟩, .slice none 0 0, .slice none 0 0], s12, s13, s14, .agg #[.int .i64 0, .int .i64 0, .string ⟨#[]⟩], .agg #[.int .i64 0, .int .i64 0, .string ⟨#[]⟩], s17, .agg #[.int .u64 0, .int .i64 8], .agg #[.int .i64 2, .int .i64 2, .string ⟨#[]⟩, .slice none 0 0, .slice none 0 0], s20, s21, undef, undef, undef, undef, undef, undef, undef, undef, undef, undef, undef, undef, undef, undef, undef, undef, undef, undef, undef, undef, undef, undef, undef, undef, undef, undef, undef, undef, undef, undef, undef, undef, undef, undef, undef, undef, undef, undef], defers := [] } : Act) w := by
      intro s12 s13 s14 s17 s20 s21 s3 w hSw h14 h20 h17 h3
      refine wpAnyT_ready (rs := [11, 15]) (by subst hO; kernel_rfl) ?_
      refine AllT.cons (st11 _ s12 s13 s14 s17 s20 s21 s3 w hSw h14 h17 h20 (bx_undef h3) (fun s w' hb hS' h => ⟨hS', T5tf s12 s13 s14 s17 s20 s s3 w' hS' h h3⟩)) ?_
      refine AllT.cons (st15 _ s12 s13 s14 s17 s20 s21 s3 w hSw (fun s w' hb hS' h => ⟨hS', T4tt s12 s13 s14 s17 s20 s21 s w' hS' (h14.box hb h3 h.1) (h20.box hb h3 h.1) (h17.mono hb) ⟨w.heap.size, h.1, by rw [hS] at hSw; exact hSw.size, h.2⟩⟩)) ?_
      exact AllT.nil
    have T4ft : ∀ (s12 s13 s14 s17 s20 s21 s3 : Value) (w : World), S w → GV (lvO (lvO T.z)) s14 s3 w → GV lvX s20 s3 w → BxV W s3 w → wpAnyT Tryz.prog .any O Q S 17 1 TT 6 #[true, true, true, true, true, true, true, false, true, true, true, false, false, false, false, true, false, false] ({ tmps := #[.bool false, .pointer (some ⟨w0.heap.size, 0, none⟩), .pointer (some ⟨w0.heap.size + 1, 0, none⟩), s3, undef, undef, undef, .agg #[.int .u64 0, .int .i64 8], .agg #[.int .i64 2, .int .i64 2, .string ⟨#[]⟩, .slice none 0 0, .slice none 0 0], undef, .agg #[.int .u64 0, .int .i64 8], .agg #[.int .i64 0, .int .i64 0, .string ⟨#[]⟩, .slice none 0 0, .slice none 0 0], s12, s13, s14, .agg #[.int .i64 0, .int .i64 0, .string ⟨#[]⟩], .agg #[.int .i64 0, .int .i64 0, .string ⟨#[]⟩], s17, .agg #[.int .u64 0, .int .i64 8], .agg #[.int .i64 2, .int .i64 2, .string ⟨#[]⟩, .slice none 0 0, .slice none 0 0], s20, s21, undef, undef, undef, undef, undef, undef, undef, undef, undef, undef, undef, undef, undef, undef, undef, undef, undef, undef, undef, undef, undef, undef, undef, undef, undef, undef, undef, undef, undef, undef, undef, undef, undef, undef, undef, undef, undef, undef], defers := [] } : Act) w := by
      intro s12 s13 s14 s17 s20 s21 s3 w hSw h14 h20 h3
      refine wpAnyT_ready (rs := [7]) (by subst hO; kernel_rfl) ?_
      refine AllT.cons (st7 _ s12 s13 s14 s17 s20 s21 s3 w hSw (fun s w' hb hS' h => ⟨hS', T4tt s12 s13 s14 s s20 s21 s3 w' hS' (h14.mono hb) (h20.mono hb) h (h3.mono hb)⟩)) ?_
      exact AllT.nil
    have T4ff : ∀ (s12 s13 s14 s17 s20 s21 s3 : Value) (w : World), S w → GV (lvO (lvO T.z)) s14 s3 w → GV lvX s20 s3 w → s3 = undef → wpAnyT Tryz.prog .any O Q S 17 1 TT 7 #[true, true, true, true, true, true, true, false, true, true, true, false, false, false, false, false, false, false] ({ tmps := #[.bool false, .pointer (some ⟨w0.heap.size, 0, none⟩), .pointer (some ⟨w0.heap.size + 1, 0, none⟩), s3, undef, undef, undef, .agg #[.int .u64 0, .int .i64 8], .agg #[.int .i64 2, .int .i64 2, .string ⟨#[]⟩, .slice none 0 0, .slice none 0 0], undef, .agg #[.int .u64 0, .int .i64 8], .agg #[.int .i64 0, .int .i64 0, .string ⟨#[]⟩, .slice none 0 0, .slice none 0 0], s12, s13, s14, .agg #[.int .i64 0, .int .i64 0, .string ⟨#[]⟩], .agg #[.int .i64 0, .int .i64 0, .string ⟨#[]⟩], s17, .agg #[.int .u64 0, .int .i64 8], .agg #[.int .i64 2, .int .i64 2, .string ⟨#[]⟩, .slice none 0 0, .slice none 0 0], s20, s21, undef, undef, undef, undef, undef, undef, undef, undef, undef, undef, undef, undef, undef, undef, undef, undef, undef, undef, undef, undef, undef, undef, undef, undef, undef, undef, undef, undef, undef, undef, undef, undef, undef, undef, undef, undef, undef, undef], defers := [] } : Act) w := by
      intro s12 s13 s14 s17 s20 s21 s3 w hSw h14 h20 h3
      refine wpAnyT_ready (rs := [7, 15]) (by subst hO; kernel_rfl) ?_
      refine AllT.cons (st7 _ s12 s13 s14 s17 s20 s21 s3 w hSw (fun s w' hb hS' h => ⟨hS', T4tf s12 s13 s14 s s20 s21 s3 w' hS' (h14.mono hb) (h20.mono hb) h h3⟩)) ?_
      refine AllT.cons (st15 _ s12 s13 s14 s17 s20 s21 s3 w hSw (fun s w' hb hS' h => ⟨hS', T4ft s12 s13 s14 s17 s20 s21 s w' hS' (h14.box hb h3 h.1) (h20.box hb h3 h.1) ⟨w.heap.size, h.1, by rw [hS] at hSw; exact hSw.size, h.2⟩⟩)) ?_
      exact AllT.nil
    have T3tt : ∀ (s12 s13 s14 s17 s20 s21 s3 : Value) (w : World), S w → GV (lvO (lvO T.z)) s14 s3 w → G17 s17 w → BxV W s3 w → wpAnyT Tryz.prog .any O Q S 17 1 TT 6 #[true, true, true, true, true, true, true, true, true, true, false, false, false, false, false, true, false, false] ({ tmps := #[.bool false, .pointer (some ⟨w0.heap.size, 0, none⟩), .pointer (some ⟨w0.heap.size + 1, 0, none⟩), s3, undef, undef, undef, .agg #[.int .u64 0, .int .i64 8], .agg #[.int .i64 2, .int .i64 2, .string ⟨#[]⟩, .slice none 0 0, .slice none 0 0], undef, .agg #[.int .u64 0, .int .i64 8], .agg #[.int .i64 0, .int .i64 0, .string ⟨#[]⟩, .slice none 0 0, .slice none 0 0], s12, s13, s14, .agg #[.int .i64 0, .int .i64 0, .string ⟨#[]⟩], .agg #[.int .i64 0, .int .i64 0, .string ⟨#[]⟩], s17, .agg #[.int .u64 0, .int .i64 8], .agg #[.int .i64 2, .int .i64 2, .string ⟨#[]⟩, .slice none 0 0, .slice none 0 0], s20, s21, undef, undef, undef, undef, undef, undef, undef, undef, undef, undef, undef, undef, undef, undef, undef, undef, undef, undef, undef, undef, undef, undef, undef, undef, undef, undef, undef, undef, undef, undef, undef, undef, undef, undef, undef, undef, undef, undef], defers := [] } : Act) w := by
      intro s12 s13 s14 s17 s20 s21 s3 w hSw h14 h17 h3
      refine wpAnyT_ready (rs := [10]) (by subst hO; kernel_rfl) ?_
      refine AllT.cons (st10 _ s12 s13 s14 s17 s20 s21 s3 w hSw h3.bx (fun s w' hb hS' h => ⟨hS', T4tt s12 s13 s14 s17 s s21 s3 w' hS' (h14.mono hb) h (h17.mono hb) (h3.mono hb)⟩)) ?_
      exact AllT.nil
    have T3tf : ∀ (s12 s13 s14 s17 s20 s21 s3 : Value) (w : World), S w → GV (lvO (lvO T.z)) s14 s3 w → G17 s17 w → s3 = undef → wpAnyT Tryz.prog .any O Q S 17 1 TT 7 #[true, true, true, true, true, true, true, true, true, true, false, false, false, false, false, false, false, false] ({ tmps := #[.bool false, .pointer (some ⟨w0.heap.size, 0, none⟩), .pointer (some ⟨w0.heap.size + 1, 0, none⟩), s3, undef, undef, undef, .agg #[.int .u64 0, .int .i64 8], .agg #[.int .i64 2, .int .i64 2, .string ⟨#[]⟩, .slice none 0 0, .slice none 0 0], undef, .agg #[.int .u64 0, .int .i64 8], .agg #[.int .i64 0, .int .i64 0, .string ⟨#[]⟩, .slice none 0 0, .slice none 0 0], s12, s13, s14, .agg #[.int .i64 0, .int .i64 0, .string ⟨#[]⟩], .agg #[.int .i64 0, .int .i64 0, .string ⟨#[]⟩], s17, .agg #[.int .u64 0, .int .i64 8], .agg #[.int .i64 2, .int .i64 2, .string ⟨#[]⟩, .slice none 0 0, .slice none 0 0], s20, s21, undef, undef, undef, undef, undef, undef, undef, undef, undef, undef, undef, undef, undef, undef, undef, undef, undef, undef, undef, undef, undef, undef, undef, undef, undef, undef, undef, undef, undef, undef, undef, undef, undef, undef, undef, undef, undef, undef], defers := [] } : Act) w := by
      intro s12 s13 s14 s17 s20 s21 s3 w hSw h14 h17 h3
      refine wpAnyT_ready (rs := [10, 15]) (by subst hO; kernel_rfl) ?_
      refine AllT.cons (st10 _ s12 s13 s14 s17 s20 s21 s3 w hSw (bx_undef h3) (fun s w' hb hS' h => ⟨hS', T4tf s12 s13 s14 s17 s s21 s3 w' hS' (h14.mono hb) h (h17.mono hb) h3⟩)) ?_
      refine AllT.cons (st15 _ s12 s13 s14 s17 s20 s21 s3 w hSw (fun s w' hb hS' h => ⟨hS', T3tt s12 s13 s14 s17 s20 s21 s w' hS' (h14.box hb h3 h.1) (h17.mono hb) ⟨w.heap.size, h.1, by rw [hS] at hSw; exact hSw.size, h.2⟩⟩)) ?_
      exact AllT.nil
    have T3ft : ∀ (s12 s13 s14 s17 s20 s21 s3 : Value) (w : World), S w → GV (lvO (lvO T.z)) s14 s3 w → BxV W s3 w → wpAnyT Tryz.prog .any O Q S 17 1 TT 7 #[true, true, true, true, true, true, true, false, true, true, false, false, false, false, false, true, false, false] ({ tmps := #[.bool false, .pointer (some ⟨w0.heap.size, 0, none⟩), .pointer (some ⟨w0.heap.size + 1, 0, none⟩), s3, undef, undef, undef, .agg #[.int .u64 0, .int .i64 8], .agg #[.int .i64 2, .int .i64 2, .string ⟨#[]⟩, .slice none 0 0, .slice none 0 0], undef, .agg #[.int .u64 0, .int .i64 8], .agg #[.int .i64 0, .int .i64 0, .string ⟨#[]⟩, .slice none 0 0, .slice none 0 0], s12, s13, s14, .agg #[.int .i64 0, .int .i64 0, .string ⟨#[]⟩], .agg #[.int .i64 0, .int .i64 0, .string ⟨#[]⟩], s17, .agg #[.int .u64 0, .int .i64 8], .agg #[.int .i64 2, .int .i64 2, .string ⟨#[]⟩, .slice none 0 0, .slice none 0 0], s20, s21, undef, undef, undef, undef, undef, undef, undef, undef, undef, undef, undef, undef, undef, undef, undef, undef, undef, undef, undef, undef, undef, undef, undef, undef, undef, undef, undef, undef, undef, undef, undef, undef, undef, undef, undef, undef, undef, undef], defers := [] } : Act) w := by
      intro s12 s13 s14 s17 s20 s21 s3 w hSw h14 h3
      refine wpAnyT_ready (rs := [7, 10]) (by subst hO; kernel_rfl) ?_
      refine AllT.cons (st7 _ s12 s13 s14 s17 s20 s21 s3 w hSw (fun s w' hb hS' h => ⟨hS', T3tt s12 s13 s14 s s20 s21 s3 w' hS' (h14.mono hb) h (h3.mono hb)⟩)) ?_
      refine AllT.cons (st10 _ s12 s13 s14 s17 s20 s21 s3 w hSw h3.bx (fun s w' hb hS' h => ⟨hS', T4ft s12 s13 s14 s17 s s21 s3 w' hS' (h14.mono hb) h (h3.mono hb)⟩)) ?_
      exact AllT.nil
    have T3ff : ∀ (s12 s13 s14 s17 s20 s21 s3 : Value) (w : World), S w → GV (lvO (lvO T.z)) s14 s3 w → s3 = undef → wpAnyT Tryz.prog .any O Q S 17 1 TT 8 #[true, true, true, true, true, true, true, false, true, true, false, false, false, false, false, false, false, false] ({ tmps := #[.bool false, .pointer (some ⟨w0.heap.size, 0, none⟩), .pointer (some ⟨w0.heap.size + 1, 0, none⟩), s3, undef, undef, undef, .agg #[.int .u64 0, .int .i64 8], .agg #[.int .i64 2, .int .i64 2, .string ⟨#[]⟩, .slice none 0 0, .slice none 0 0], undef, .agg #[.int .u64 0, .int .i64 8], .agg #[.int .i64 0, .int .i64 0, .string ⟨#[]⟩, .slice none 0 0, .slice none 0 0], s12, s13, s14, .agg #[.int .i64 0, .int .i64 0, .string ⟨#[]⟩], .agg #[.int .i64 0, .int .i64 0, .string ⟨#[]⟩], s17, .agg #[.int .u64 0, .int .i64 8], .agg #[.int .i64 2, .int .i64 2, .string ⟨#[]⟩, .slice none 0 0, .slice none 0 0], s20, s21, undef, undef, undef, undef, undef, undef, undef, undef, undef, undef, undef, undef, undef, undef, undef, undef, undef, undef, undef, undef, undef, undef, undef, undef, undef, undef, undef, undef, undef, undef, undef, undef, undef, undef, undef, undef, undef, undef], defers := [] } : Act) w := by
      intro s12 s13 s14 s17 s20 s21 s3 w hSw h14 h3
      refine wpAnyT_ready (rs := [7, 10, 15]) (by subst hO; kernel_rfl) ?_
      refine AllT.cons (st7 _ s12 s13 s14 s17 s20 s21 s3 w hSw (fun s w' hb hS' h => ⟨hS', T3tf s12 s13 s14 s s20 s21 s3 w' hS' (h14.mono hb) h h3⟩)) ?_
      refine AllT.cons (st10 _ s12 s13 s14 s17 s20 s21 s3 w hSw (bx_undef h3) (fun s w' hb hS' h => ⟨hS', T4ff s12 s13 s14 s17 s s21 s3 w' hS' (h14.mono hb) h h3⟩)) ?_
      refine AllT.cons (st15 _ s12 s13 s14 s17 s20 s21 s3 w hSw (fun s w' hb hS' h => ⟨hS', T3ft s12 s13 s14 s17 s20 s21 s w' hS' (h14.box hb h3 h.1) ⟨w.heap.size, h.1, by rw [hS] at hSw; exact hSw.size, h.2⟩⟩)) ?_
      exact AllT.nil
    have T2tt : ∀ (s12 s13 s14 s17 s20 s21 s3 : Value) (w : World), S w → G13 s13 w → G17 s17 w → BxV W s3 w → wpAnyT Tryz.prog .any O Q S 17 1 TT 7 #[true, true, true, true, false, true, true, true, true, true, false, false, false, false, false, true, false, false] ({ tmps := #[.bool false, .pointer (some ⟨w0.heap.size, 0, none⟩), .pointer (some ⟨w0.heap.size + 1, 0, none⟩), s3, undef, undef, undef, .agg #[.int .u64 0, .int .i64 8], .agg #[.int .i64 2, .int .i64 2, .string ⟨#[]⟩, .slice none 0 0, .slice none 0 0], undef, .agg #[.int .u64 0, .int .i64 8], .agg #[.int .i64 0, .int .i64 0, .string ⟨#[]⟩, .slice none 0 0, .slice none 0 0], s12, s13, s14, .agg #[.int .i64 0, .int .i64 0, .string ⟨#[]⟩], .agg #[.int .i64 0, .int .i64 0, .string ⟨#[]⟩], s17, .agg #[.int .u64 0, .int .i64 8], .agg #[.int .i64 2, .int .i64 2, .string ⟨#[]⟩, .slice none 0 0, .slice none 0 0], s20, s21, undef, undef, undef, undef, undef, undef, undef, undef, undef, undef, undef, undef, undef, undef, undef, undef, undef, undef, undef, undef, undef, undef, undef, undef, undef, undef, undef, undef, undef, undef, undef, undef, undef, undef, undef, undef, undef, undef], defers := [] } : Act) w := by
      intro s12 s13 s14 s17 s20 s21 s3 w hSw h13 h17 h3
      refine wpAnyT_ready (rs := [4]) (by subst hO; kernel_rfl) ?_
      refine AllT.cons (st4 _ s12 s13 s14 s17 s20 s21 s3 w hSw h13 h3.bx (fun s w' hb hS' h => ⟨hS', T3tt s12 s13 s s17 s20 s21 s3 w' hS' h (h17.mono hb) (h3.mono hb)⟩)) ?_
      exact AllT.nil
    have T2tf : ∀ (s12 s13 s14 s17 s20 s21 s3 : Value) (w : World), S w → G13 s13 w → G17 s17 w → s3 = undef → wpAnyT Tryz.prog .any O Q S 17 1 TT 8 #[true, true, true, true, false, true, true, true, true, true, false, false, false, false, false, false, false, false] ({ tmps := #[.bool false, .pointer (some ⟨w0.heap.size, 0, none⟩), .pointer (some ⟨w0.heap.size + 1, 0, none⟩), s3, undef, undef, undef, .agg #[.int .u64 0, .int .i64 8], .agg #[.int .i64 2, .int .i64 2, .string ⟨#[]⟩, .slice none 0 0, .slice none 0 0], undef, .agg #[.int .u64 0, .int .i64 8], .agg #[.int .i64 0, .int .i64 0, .string ⟨#[]⟩, .slice none 0 0, .slice none 0 0], s12, s13, s14, .agg #[.int .i64 0, .int .i64 0, .string ⟨#[]⟩], .agg #[.int .i64 0, .int .i64 0, .string ⟨#[]⟩], s17, .agg #[.int .u64 0, .int .i64 8], .agg #[.int .i64 2, .int .i64 2, .string ⟨#[]⟩, .slice none 0 0, .slice none 0 0], s20, s21, undef, undef, undef, undef, undef, undef, undef, undef, undef, undef, undef, undef, undef, undef, undef, undef, undef, undef, undef, undef, undef, undef, undef, undef, undef, undef, undef, undef, undef, undef, undef, undef, undef, undef, undef, undef, undef, undef], defers := [] } : Act) w := by
      intro s12 s13 s14 s17 s20 s21 s3 w hSw h13 h17 h3
      refine wpAnyT_ready (rs := [4, 15]) (by subst hO; kernel_rfl) ?_
      refine AllT.cons (st4 _ s12 s13 s14 s17 s20 s21 s3 w hSw h13 (bx_undef h3) (fun s w' hb hS' h => ⟨hS', T3tf s12 s13 s s17 s20 s21 s3 w' hS' h (h17.mono hb) h3⟩)) ?_
      refine AllT.cons (st15 _ s12 s13 s14 s17 s20 s21 s3 w hSw (fun s w' hb hS' h => ⟨hS', T2tt s12 s13 s14 s17 s20 s21 s w' hS' (h13.mono hb) (h17.mono hb) ⟨w.heap.size, h.1, by rw [hS] at hSw; exact hSw.size, h.2⟩⟩)) ?_
      exact AllT.nil
    have T2ft : ∀ (s12 s13 s14 s17 s20 s21 s3 : Value) (w : World), S w → G13 s13 w → BxV W s3 w → wpAnyT Tryz.prog .any O Q S 17 1 TT 8 #[true, true, true, true, false, true, true, false, true, true, false, false, false, false, false, true, false, false] ({ tmps := #[.bool false, .pointer (some ⟨w0.heap.size, 0, none⟩), .pointer (some ⟨w0.heap.size + 1, 0, none⟩), s3, undef, undef, undef, .agg #[.int .u64 0, .int .i64 8], .agg #[.int .i64 2, .int .i64 2, .string ⟨#[]⟩, .slice none 0 0, .slice none 0 0], undef, .agg #[.int .u64 0, .int .i64 8], .agg #[.int .i64 0, .int .i64 0, .string ⟨#[]⟩, .slice none 0 0, .slice none 0 0], s12, s13, s14, .agg #[.int .i64 0, .int .i64 0, .string ⟨#[]⟩], .agg #[.int .i64 0, .int .i64 0, .string ⟨#[]⟩], s17, .agg #[.int .u64 0, .int .i64 8], .agg #[.int .i64 2, .int .i64 2, .string ⟨#[]⟩, .slice none 0 0, .slice none 0 0], s20, s21, undef, undef, undef, undef, undef, undef, undef, undef, undef, undef, undef, undef, undef, undef, undef, undef, undef, undef, undef, undef, undef, undef, undef, undef, undef, undef, undef, undef, undef, undef, undef, undef, undef, undef, undef, undef, undef, undef], defers := [] } : Act) w := by
      intro s12 s13 s14 s17 s20 s21 s3 w hSw h13 h3
      refine wpAnyT_ready (rs := [4, 7]) (by subst hO; kernel_rfl) ?_
      refine AllT.cons (st4 _ s12 s13 s14 s17 s20 s21 s3 w hSw h13 h3.bx (fun s w' hb hS' h => ⟨hS', T3ft s12 s13 s s17 s20 s21 s3 w' hS' h (h3.mono hb)⟩)) ?_
      refine AllT.cons (st7 _ s12 s13 s14 s17 s20 s21 s3 w hSw (fun s w' hb hS' h => ⟨hS', T2tt s12 s13 s14 s s20 s21 s3 w' hS' (h13.mono hb) h (h3.mono hb)⟩)) ?_
      exact AllT.nil
    have T2ff : ∀ (s12 s13 s14 s17 s20 s21 s3 : Value) (w : World), S w → G13 s13 w → s3 = undef → wpAnyT Tryz.prog .any O Q S 17 1 TT 9 #[true, true, true, true, false, true, true, false, true, true, false, false, false, false, false, false, false, false] ({ tmps := #[.bool false, .pointer (some ⟨w0.heap.size, 0, none⟩), .pointer (some ⟨w0.heap.size + 1, 0, none⟩), s3, undef, undef, undef, .agg #[.int .u64 0, .int .i64 8], .agg #[.int .i64 2, .int .i64 2, .string ⟨#[]⟩, .slice none 0 0, .slice none 0 0], undef, .agg #[.int .u64 0, .int .i64 8], .agg #[.int .i64 0, .int .i64 0, .string ⟨#[]⟩, .slice none 0 0, .slice none 0 0], s12, s13, s14, .agg #[.int .i64 0, .int .i64 0, .string ⟨#[]⟩], .agg #[.int .i64 0, .int .i64 0, .string ⟨#[]⟩], s17, .agg #[.int .u64 0, .int .i64 8], .agg #[.int .i64 2, .int .i64 2, .string ⟨#[]⟩, .slice none 0 0, .slice none 0 0], s20, s21, undef, undef, undef, undef, undef, undef, undef, undef, undef, undef, undef, undef, undef, undef, undef, undef, undef, undef, undef, undef, undef, undef, undef, undef, undef, undef, undef, undef, undef, undef, undef, undef, undef, undef, undef, undef, undef, undef], defers := [] } : Act) w := by
      intro s12 s13 s14 s17 s20 s21 s3 w hSw h13 h3
      refine wpAnyT_ready (rs := [4, 7, 15]) (by subst hO; kernel_rfl) ?_
      refine AllT.cons (st4 _ s12 s13 s14 s17 s20 s21 s3 w hSw h13 (bx_undef h3) (fun s w' hb hS' h => ⟨hS', T3ff s12 s13 s s17 s20 s21 s3 w' hS' h h3⟩)) ?_
      refine AllT.cons (st7 _ s12 s13 s14 s17 s20 s21 s3 w hSw (fun s w' hb hS' h => ⟨hS', T2tf s12 s13 s14 s s20 s21 s3 w' hS' (h13.mono hb) h h3⟩)) ?_
      refine AllT.cons (st15 _ s12 s13 s14 s17 s20 s21 s3 w hSw (fun s w' hb hS' h => ⟨hS', T2ft s12 s13 s14 s17 s20 s21 s w' hS' (h13.mono hb) ⟨w.heap.size, h.1, by rw [hS] at hSw; exact hSw.size, h.2⟩⟩)) ?_
      exact AllT.nil
    have T1tt : ∀ (s12 s13 s14 s17 s20 s21 s3 : Value) (w : World), S w → G12 s12 w → G17 s17 w → BxV W s3 w → wpAnyT Tryz.prog .any O Q S 17 1 TT 8 #[true, true, true, false, false, true, true, true, true, true, false, false, false, false, false, true, false, false] ({ tmps := #[.bool false, .pointer (some ⟨w0.heap.size, 0, none⟩), .pointer (some ⟨w0.heap.size + 1, 0, none⟩), s3, undef, undef, undef, .agg #[.int .u64 0, .int .i64 8], .agg #[.int .i64 2, .int .i64 2, .string ⟨#[]⟩, .slice none 0 0, .slice none 0 0], undef, .agg #[.int .u64 0, .int .i64 8], .agg #[.int .i64 0, .int .i64 0, .string ⟨#[]⟩, .slice none 0 0, .slice none 0 0], s12, s13, s14, .agg #[.int .i64 0, .int .i64 0, .string ⟨#[]⟩], .agg #[.int .i64 0, .int .i64 0, .string ⟨#[]⟩], s17, .agg #[.int .u64 0, .int .i64 8], .agg #[.int .i64 2, .int .i64 2, .string ⟨#[]⟩, .slice none 0 0, .slice none 0 0], s20, s21, undef, undef, undef, undef, undef, undef, undef, undef, undef, undef, undef, undef, undef, undef, undef, undef, undef, undef, undef, undef, undef, undef, undef, undef, undef, undef, undef, undef, undef, undef, undef, undef, undef, undef, undef, undef, undef, undef], defers := [] } : Act) w := by
      intro s12 s13 s14 s17 s20 s21 s3 w hSw h12 h17 h3
      refine wpAnyT_ready (rs := [3]) (by subst hO; kernel_rfl) ?_
      refine AllT.cons (st3 _ s12 s13 s14 s17 s20 s21 s3 w hSw h12 (fun s w' hb hS' h => ⟨hS', T2tt s12 s s14 s17 s20 s21 s3 w' hS' h (h17.mono hb) (h3.mono hb)⟩)) ?_
      exact AllT.nil
    have T1tf : ∀ (s12 s13 s14 s17 s20 s21 s3 : Value) (w : World), S w → G12 s12 w → G17 s17 w → s3 = undef → wpAnyT Tryz.prog .any O Q S 17 1 TT 9 #[true, true, true, false, false, true, true, true, true, true, false, false, false, false, false, false, false, false] ({ tmps := #[.bool false, .pointer (some ⟨w0.heap.size, 0, none⟩), .pointer (some ⟨w0.heap.size + 1, 0, none⟩), s3, undef, undef, undef, .agg #[.int .u64 0, .int .i64 8], .agg #[.int .i64 2, .int .i64 2, .string ⟨#[]⟩, .slice none 0 0, .slice none 0 0], undef, .agg #[.int .u64 0, .int .i64 8], .agg #[.int .i64 0, .int .i64 0, .string ⟨#[]⟩, .slice none 0 0, .slice none 0 0], s12, s13, s14, .agg #[.int .i64 0, .int .i64 0, .string ⟨#[]⟩], .agg #[.int .i64 0, .int .i64 0, .string ⟨#[]⟩], s17, .agg #[.int .u64 0, .int .i64 8], .agg #[.int .i64 2, .int .i64 2, .string ⟨#[]⟩, .slice none 0 0, .slice none 0 0], s20, s21, undef, undef, undef, undef, undef, undef, undef, undef, undef, undef, undef, undef, undef, undef, undef, undef, undef, undef, undef, undef, undef, undef, undef, undef, undef, undef, undef, undef, undef, undef, undef, undef, undef, undef, undef, undef, undef, undef], defers := [] } : Act) w := by
      intro s12 s13 s14 s17 s20 s21 s3 w hSw h12 h17 h3
      refine wpAnyT_ready (rs := [3, 15]) (by subst hO; kernel_rfl) ?_
      refine AllT.cons (st3 _ s12 s13 s14 s17 s20 s21 s3 w hSw h12 (fun s w' hb hS' h => ⟨hS', T2tf s12 s s14 s17 s20 s21 s3 w' hS' h (h17.mono hb) h3⟩)) ?_
      refine AllT.cons (st15 _ s12 s13 s14 s17 s20 s21 s3 w hSw (fun s w' hb hS' h => ⟨hS', T1tt s12 s13 s14 s17 s20 s21 s w' hS' (h12.mono hb) (h17.mono hb) ⟨w.heap.size, h.1, by rw [hS] at hSw; exact hSw.size, h.2⟩⟩)) ?_
      exact AllT.nil
    have T1ft : ∀ (s12 s13 s14 s17 s20 s21 s3 : Value) (w : World), S w → G12 s12 w → BxV W s3 w → wpAnyT Tryz.prog .any O Q S 17 1 TT 9 #[true, true, true, false, false, true, true, false, true, true, false, false, false, false, false, true, false, false] ({ tmps := #[.bool false, .pointer (some ⟨w0.heap.size, 0, none⟩), .pointer (some ⟨w0.heap.size + 1, 0, none⟩), s3, undef, undef, undef, .agg #[.int .u64 0, .int .i64 8], .agg #[.int .i64 2, .int .i64 2, .string ⟨#[]⟩, .slice none 0 0, .slice none 0 0], undef, .agg #[.int .u64 0, .int .i64 8], .agg #[.int .i64 0, .int .i64 0, .string ⟨#[]⟩, .slice none 0 0, .slice none 0 0], s12, s13, s14, .agg #[.int .i64 0, .int .i64 0, .string ⟨#[]⟩], .agg #[.int .i64 0, .int .i64 0, .string ⟨#[]⟩], s17, .agg #[.int .u64 0, .int .i64 8], .agg #[.int .i64 2, .int .i64 2, .string ⟨#[]⟩, .slice none 0 0, .slice none 0 0], s20, s21, undef, undef, undef, undef, undef, undef, undef, undef, undef, undef, undef, undef, undef, undef, undef, undef, undef, undef, undef, undef, undef, undef, undef, undef, undef, undef, undef, undef, undef, undef, undef, undef, undef, undef, undef, undef, undef, undef], defers := [] } : Act) w := by
      intro s12 s13 s14 s17 s20 s21 s3 w hSw h12 h3
      refine wpAnyT_ready (rs := [3, 7]) (by subst hO; kernel_rfl) ?_
      refine AllT.cons (st3 _ s12 s13 s14 s17 s20 s21 s3 w hSw h12 (fun s w' hb hS' h => ⟨hS', T2ft s12 s s14 s17 s20 s21 s3 w' hS' h (h3.mono hb)⟩)) ?_
      refine AllT.cons (st7 _ s12 s13 s14 s17 s20 s21 s3 w hSw (fun s w' hb hS' h => ⟨hS', T1tt s12 s13 s14 s s20 s21 s3 w' hS' (h12.mono hb) h (h3.mono hb)⟩)) ?_
      exact AllT.nil
    have T1ff : ∀ (s12 s13 s14 s17 s20 s21 s3 : Value) (w : World), S w → G12 s12 w → s3 = undef → wpAnyT Tryz.prog .any O Q S 17 1 TT 10 #[true, true, true, false, false, true, true, false, true, true, false, false, false, false, false, false, false, false] ({ tmps := #[.bool false, .pointer (some ⟨w0.heap.size, 0, none⟩), .pointer (some ⟨w0.heap.size + 1, 0, none⟩), s3, undef, undef, undef, .agg #[.int .u64 0, .int .i64 8], .agg #[.int .i64 2, .int .i64 2, .string ⟨#[]⟩, .slice none 0 0, .slice none 0 0], undef, .agg #[.int .u64 0, .int .i64 8], .agg #[.int .i64 0, .int .i64 0, .string ⟨#[]⟩, .slice none 0 0, .slice none 0 0], s12, s13, s14, .agg #[.int .i64 0, .int .i64 0, .string ⟨#[]⟩], .agg #[.int .i64 0, .int .i64 0, .string ⟨#[]⟩], s17, .agg #[.int .u64 0, .int .i64 8], .agg #[.int .i64 2, .int .i64 2, .string ⟨#[]⟩, .slice none 0 0, .slice none 0 0], s20, s21, undef, undef, undef, undef, undef, undef, undef, undef, undef, undef, undef, undef, undef, undef, undef, undef, undef, undef, undef, undef, undef, undef, undef, undef, undef, undef, undef, undef, undef, undef, undef, undef, undef, undef, undef, undef, undef, undef], defers := [] } : Act) w := by
      intro s12 s13 s14 s17 s20 s21 s3 w hSw h12 h3
      refine wpAnyT_ready (rs := [3, 7, 15]) (by subst hO; kernel_rfl) ?_
      refine AllT.cons (st3 _ s12 s13 s14 s17 s20 s21 s3 w hSw h12 (fun s w' hb hS' h => ⟨hS', T2ff s12 s s14 s17 s20 s21 s3 w' hS' h h3⟩)) ?_
      refine AllT.cons (st7 _ s12 s13 s14 s17 s20 s21 s3 w hSw (fun s w' hb hS' h => ⟨hS', T1tf s12 s13 s14 s s20 s21 s3 w' hS' (h12.mono hb) h h3⟩)) ?_
      refine AllT.cons (st15 _ s12 s13 s14 s17 s20 s21 s3 w hSw (fun s w' hb hS' h => ⟨hS', T1ft s12 s13 s14 s17 s20 s21 s w' hS' (h12.mono hb) ⟨w.heap.size, h.1, by rw [hS] at hSw; exact hSw.size, h.2⟩⟩)) ?_
      exact AllT.nil
    have T0tt : ∀ (s12 s13 s14 s17 s20 s21 s3 : Value) (w : World), S w → G17 s17 w → BxV W s3 w → wpAnyT Tryz.prog .any O Q S 17 1 TT 9 #[true, true, false, false, false, true, true, true, true, true, false, false, false, false, false, true, false, false] ({ tmps := #[.bool false, .pointer (some ⟨w0.heap.size, 0, none⟩), .pointer (some ⟨w0.heap.size + 1, 0, none⟩), s3, undef, undef, undef, .agg #[.int .u64 0, .int .i64 8], .agg #[.int .i64 2, .int .i64 2, .string ⟨#[]⟩, .slice none 0 0, .slice none 0 0], undef, .agg #[.int .u64 0, .int .i64 8], .agg #[.int .i64 0, .int .i64 0, .string ⟨#[]⟩, .slice none 0 0, .slice none 0 0], s12, s13, s14, .agg #[.int .i64 0, .int .i64 0, .string ⟨#[]⟩], .agg #[.int .i64 0, .int .i64 0, .string ⟨#[]⟩], s17, .agg #[.int .u64 0, .int .i64 8], .agg #[.int .i64 2, .int .i64 2, .string ⟨#[]⟩, .slice none 0 0, .slice none 0 0], s20, s21, undef, undef, undef, undef, undef, undef, undef, undef, undef, undef, undef, undef, undef, undef, undef, undef, undef, undef, undef, undef, undef, undef, undef, undef, undef, undef, undef, undef, undef, undef, undef, undef, undef, undef, undef, undef, undef, undef], defers := [] } : Act) w := by
      intro s12 s13 s14 s17 s20 s21 s3 w hSw h17 h3
      refine wpAnyT_ready (rs := [2]) (by subst hO; kernel_rfl) ?_
      refine AllT.cons (st2 _ s12 s13 s14 s17 s20 s21 s3 w hSw (fun s w' hb hS' h => ⟨hS', T1tt s s13 s14 s17 s20 s21 s3 w' hS' h (h17.mono hb) (h3.mono hb)⟩)) ?_
      exact AllT.nil
    have T0tf : ∀ (s12 s13 s14 s17 s20 s21 s3 : Value) (w : World), S w → G17 s17 w → s3 = undef → wpAnyT Tryz.prog .any O Q S 17 1 TT 10 #[true, true, false, false, false, true, true, true, true, true, false, false, false, false, false, false, false, false] ({ tmps := #[.bool false, .pointer (some ⟨w0.heap.size, 0, none⟩), .pointer (some ⟨w0.heap.size + 1, 0, none⟩), s3, undef, undef, undef, .agg #[.int .u64 0, .int .i64 8], .agg #[.int .i64 2, .int .i64 2, .string ⟨#[]⟩, .slice none 0 0, .slice none 0 0], undef, .agg #[.int .u64 0, .int .i64 8], .agg #[.int .i64 0, .int .i64 0, .string ⟨#[]⟩, .slice none 0 0, .slice none 0 0], s12, s13, s14, .agg #[.int .i64 0, .int .i64 0, .string ⟨#[]⟩], .agg #[.int .i64 0, .int .i64 0, .string ⟨#[]⟩], s17, .agg #[.int .u64 0, .int .i64 8], .agg #[.int .i64 2, .int .i64 2, .string ⟨#[]⟩, .slice none 0 0, .slice none 0 0], s20, s21, undef, undef, undef, undef, undef, undef, undef, undef, undef, undef, undef, undef, undef, undef, undef, undef, undef, undef, undef, undef, undef, undef, undef, undef, undef, undef, undef, undef, undef, undef, undef, undef, undef, undef, undef, undef, undef, undef], defers := [] } : Act) w := by
      intro s12 s13 s14 s17 s20 s21 s3 w hSw h17 h3
      refine wpAnyT_ready (rs := [2, 15]) (by subst hO; kernel_rfl) ?_
      refine AllT.cons (st2 _ s12 s13 s14 s17 s20 s21 s3 w hSw (fun s w' hb hS' h => ⟨hS', T1tf s s13 s14 s17 s20 s21 s3 w' hS' h (h17.mono hb) h3⟩)) ?_
      refine AllT.cons (st15 _ s12 s13 s14 s17 s20 s21 s3 w hSw (fun s w' hb hS' h => ⟨hS', T0tt s12 s13 s14 s17 s20 s21 s w' hS' (h17.mono hb) ⟨w.heap.size, h.1, by rw [hS] at hSw; exact hSw.size, h.2⟩⟩)) ?_
      exact AllT.nil
    have T0ft : ∀ (s12 s13 s14 s17 s20 s21 s3 : Value) (w : World), S w → BxV W s3 w → wpAnyT Tryz.prog .any O Q S 17 1 TT 10 #[true, true, false, false, false, true, true, false, true, true, false, false, false, false, false, true, false, false] ({ tmps := #[.bool false, .pointer (some ⟨w0.heap.size, 0, none⟩), .pointer (some ⟨w0.heap.size + 1, 0, none⟩), s3, undef, undef, undef, .agg #[.int .u64 0, .int .i64 8], .agg #[.int .i64 2, .int .i64 2, .string ⟨#[]⟩, .slice none 0 0, .slice none 0 0], undef, .agg #[.int .u64 0, .int .i64 8], .agg #[.int .i64 0, .int .i64 0, .string ⟨#[]⟩, .slice none 0 0, .slice none 0 0], s12, s13, s14, .agg #[.int .i64 0, .int .i64 0, .string ⟨#[]⟩], .agg #[.int .i64 0, .int .i64 0, .string ⟨#[]⟩], s17, .agg #[.int .u64 0, .int .i64 8], .agg #[.int .i64 2, .int .i64 2, .string ⟨#[]⟩, .slice none 0 0, .slice none 0 0], s20, s21, undef, undef, undef, undef, undef, undef, undef, undef, undef, undef, undef, undef, undef, undef, undef, undef, undef, undef, undef, undef, undef, undef, undef, undef, undef, undef, undef, undef, undef, undef, undef, undef, undef, undef, undef, undef, undef, undef], defers := [] } : Act) w := by
      intro s12 s13 s14 s17 s20 s21 s3 w hSw h3
      refine wpAnyT_ready (rs := [2, 7]) (by subst hO; kernel_rfl) ?_
      refine AllT.cons (st2 _ s12 s13 s14 s17 s20 s21 s3 w hSw (fun s w' hb hS' h => ⟨hS', T1ft s s13 s14 s17 s20 s21 s3 w' hS' h (h3.mono hb)⟩)) ?_
      refine AllT.cons (st7 _ s12 s13 s14 s17 s20 s21 s3 w hSw (fun s w' hb hS' h => ⟨hS', T0tt s12 s13 s14 s s20 s21 s3 w' hS' h (h3.mono hb)⟩)) ?_
      exact AllT.nil
    have T0ff : ∀ (s12 s13 s14 s17 s20 s21 s3 : Value) (w : World), S w → s3 = undef → wpAnyT Tryz.prog .any O Q S 17 1 TT 11 #[true, true, false, false, false, true, true, false, true, true, false, false, false, false, false, false, false, false] ({ tmps := #[.bool false, .pointer (some ⟨w0.heap.size, 0, none⟩), .pointer (some ⟨w0.heap.size + 1, 0, none⟩), s3, undef, undef, undef, .agg #[.int .u64 0, .int .i64 8], .agg #[.int .i64 2, .int .i64 2, .string ⟨#[]⟩, .slice none 0 0, .slice none 0 0], undef, .agg #[.int .u64 0, .int .i64 8], .agg #[.int .i64 0, .int .i64 0, .string ⟨#[]⟩, .slice none 0 0, .slice none 0 0], s12, s13, s14, .agg #[.int .i64 0, .int .i64 0, .string ⟨#[]⟩], .agg #[.int .i64 0, .int .i64 0, .string ⟨#[]⟩], s17, .agg #[.int .u64 0, .int .i64 8], .agg #[.int .i64 2, .int .i64 2, .string ⟨#[]⟩, .slice none 0 0, .slice none 0 0], s20, s21, undef, undef, undef, undef, undef, undef, undef, undef, undef, undef, undef, undef, undef, undef, undef, undef, undef, undef, undef, undef, undef, undef, undef, undef, undef, undef, undef, undef, undef, undef, undef, undef, undef, undef, undef, undef, undef, undef], defers := [] } : Act) w := by
      intro s12 s13 s14 s17 s20 s21 s3 w hSw h3
      refine wpAnyT_ready (rs := [2, 7, 15]) (by subst hO; kernel_rfl) ?_
      refine AllT.cons (st2 _ s12 s13 s14 s17 s20 s21 s3 w hSw (fun s w' hb hS' h => ⟨hS', T1ff s s13 s14 s17 s20 s21 s3 w' hS' h h3⟩)) ?_
      refine AllT.cons (st7 _ s12 s13 s14 s17 s20 s21 s3 w hSw (fun s w' hb hS' h => ⟨hS', T0tf s12 s13 s14 s s20 s21 s3 w' hS' h h3⟩)) ?_
      refine AllT.cons (st15 _ s12 s13 s14 s17 s20 s21 s3 w hSw (fun s w' hb hS' h => ⟨hS', T0ft s12 s13 s14 s17 s20 s21 s w' hS' ⟨w.heap.size, h.1, by rw [hS] at hSw; exact hSw.size, h.2⟩⟩)) ?_
      exact AllT.nil
    exact T0ff undef undef undef undef undef undef undef W.drew hSW rfl
  case rest =>
    obtain ⟨u, g, rfl, rfl, hg', HU, IV, HBW⟩ := hcut
    have HBC := Lib.hid (HB.out.trans (HBW.out.mono HB.out.size))
    have hgw := HBC.out.size
    have HP := aparse_any ⟨#[36, 91, 48, 93, 91, 34, 107, 34, 93]⟩ wc (by decide) (HS.out.below HBC.out hg) (Nat.lt_of_lt_of_le hg hgw)
    have e0 : addrL (bytes ⟨#[36, 91, 48, 93, 91, 34, 107, 34, 93]⟩) = .inl [⟨0, 0, []⟩, ⟨1, 0, [107]⟩] := by
      have eb : bytes ⟨#[36, 91, 48, 93, 91, 34, 107, 34, 93]⟩ = printL [⟨0, 0, []⟩, ⟨1, 0, [107]⟩] := by decide +kernel
      rw [eb]
      exact addr_told [⟨0, 0, []⟩, ⟨1, 0, [107]⟩] (by simp [goodS])
    rw [e0] at HP
    clear e0
    have HPP := Lib.hid HP
    clear HP
    go_wp2_with fail
    refine HPP.out.mono ?_
    rintro e w2 ⟨v2, x2, rfl, hb2, hx2⟩
    obtain ⟨rfl, A2, c2, rfl, hc2, hr2⟩ := hx2
    have HU2 := Lib.hid (show VB w2 g u from Blk.below HU.out hb2 (Blk.lt HU.out))
    have IV2 := Lib.hid (IV.out.keeps (.of_below hb2))
    have HX2 := Lib.hid (show Blk w2 (w0.heap.size + 1) 28 (TR.l ⟨2, 2, [], none, 0, 0, none, 0, 0⟩).toArray from (KEEP.out w2 (HBW.out.trans (hb2.mono HBW.out.size))).2)
    have SI2 := Lib.hid (steps_of hr2)
    have B2 := Lib.hid (HBC.out.trans (hb2.mono HBC.out.size))
    have HTREE := Lib.hid (fun W (h : IsV W (fun _ => True) (lvO (lvO lvX)) u) => treeOk (lvO (lvO lvX)) (by simp [lvO, lvX, Pl, Pls, Sc]) (by decide) u (fun _ => True) W h)
    have HALL := Lib.hid (fun W (h : IsV W (fun _ => True) (lvO (lvO lvX)) u) => all_any (lvO (lvO lvX)) u (fun _ => True) W h (underOk _ (by simp [lvO, lvX, Pl, Pls, Sc]) (by decide)) (by decide) (by decide))
    clear HPP HU IV hb2 hc2 hr2 hgw
    go_wp2_with fail
    have SF : ∀ w', Below w2.heap.size w2 w' → VB w' g u ∧ Blk w' (w0.heap.size + 1) 28 (TR.l ⟨2, 2, [], none, 0, 0, none, 0, 0⟩).toArray := fun w' h => ⟨Blk.below HU2.out h (Blk.lt HU2.out), (HX2.out.below h HX2.out.lt)⟩
    refine wp_region_sq 32 [(0, true), (1, true), (2, true), (3, true), (5, true), (4, false), (6, false), (7, false), (8, false), (9, true), (10, true), (11, true), (12, true), (13, true), (14, true), (15, true), (16, true), (17, true), (18, false), (19, false), (20, true), (21, true), (22, true), (23, false), (24, true), (25, true), (26, true), (27, true), (28, false), (29, true), (30, true), (31, true)] (fun w' => VB w' g u ∧ Blk w' (w0.heap.size + 1) 28 (TR.l ⟨2, 2, [], none, 0, 0, none, 0, 0⟩).toArray) (by kernel_rfl) (by kernel_rfl) (SF _ (Below.refl _ _).drew) (fun hS => ?_)
    iterate 3 (refine sq_t (o := ⟨_, _, _, _, _, _⟩) (v := ?_) rfl (by rfl) ?_ ?_; rotate_left; (· (intro w hSw; go_simp; try with_reducible rfl)); try simp only [Act.put, List.setIfInBounds_toArray, List.set_cons_zero, List.set_cons_succ])
    refine sq_t (o := ⟨_, _, _, _, _, _⟩) (v := V.a u) rfl (by rfl) (fun w' hw' => exec_load_V rfl (by simp [Act.eval]) hw'.1) ?_
    try simp only [Act.put, List.setIfInBounds_toArray, List.set_cons_zero, List.set_cons_succ]
    refine sq_t (o := ⟨_, _, _, _, _, _⟩) (v := .agg (TR.l ⟨2, 2, [], none, 0, 0, none, 0, 0⟩).toArray) rfl (by rfl) (fun w' hw' => exec_load_list (cs := (TR.l ⟨2, 2, [], none, 0, 0, none, 0, 0⟩)) (ad := ⟨w0.heap.size + 1, 0, none⟩) isT rfl (by simp [Act.eval]) (fun j u hu => by have := Blk.cell hw'.2 j; rw [addr_plain, this]; simpa using hu)) ?_
    try simp only [Act.put, List.setIfInBounds_toArray, List.set_cons_zero, List.set_cons_succ]
    have hb0 : Below w2.heap.size w2 w2.drew := (Below.refl _ _).drew
    clear hS
    refine sq_c rfl (fun K hK => ?_)
    go_simp
    refine (HTREE.out w2.drew (IV2.out.keeps (.of_below hb0))).mono ?_
    rintro e w3 ⟨r3, rfl, hr3, hb3⟩
    have hbn := hb0.trans hb3
    refine hK.out _ _ (SF _ hbn) (fun hS => ?_)
    clear hK K hS
    try simp only [Act.put, List.setIfInBounds_toArray, List.set_cons_zero, List.set_cons_succ]
    refine sq_c rfl (fun K hK => ?_)
    go_simp
    refine (one_any lvX ⟨2, 2, [], none, 0, 0, none, 0, 0⟩ (fun _ => True) w3 (isTr_x w3 _)).mono ?_
    rintro e w4 ⟨r4, rfl, hr4, hb4⟩
    have hbn := hbn.trans (hb4.mono hbn.size)
    refine hK.out _ _ (SF _ hbn) (fun hS => ?_)
    clear hK K hS
    try simp only [Act.put, List.setIfInBounds_toArray, List.set_cons_zero, List.set_cons_succ]
    refine sq_c rfl (fun K hK => ?_)
    go_simp
    refine (one_any _ r4 (fun _ => True) w4 (hr4.more fun _ _ => trivial)).mono ?_
    rintro e w5 ⟨r5, rfl, hr5, hb5⟩
    have hbn := hbn.trans (hb5.mono hbn.size)
    refine hK.out _ _ (SF _ hbn) (fun hS => ?_)
    clear hK K hS
    try simp only [Act.put, List.setIfInBounds_toArray, List.set_cons_zero, List.set_cons_succ]
    refine sq_c rfl (fun K hK => ?_)
    go_simp
    refine (sameOk (lvO (lvO lvX)) (lvO (lvO lvX)) r3 r5 (fun _ => True) w5 (((hr3.more fun _ _ => trivial).keeps (.of_below hb4)).keeps (.of_below hb5)) (hr5.more fun _ _ => trivial) (by simp [lvO, lvX, LensA, LensL]) (by simp [lvO, lvX, LensA, LensL])).mono ?_
    rintro e w6 ⟨rfl, hb6⟩
    have hbn := hbn.trans (hb6.mono hbn.size)
    rw [(sameT_iff _ _).2 rfl]
    refine hK.out _ _ (SF _ hbn) (fun hS => ?_)
    clear hK K hS
    try simp only [Act.put, List.setIfInBounds_toArray, List.set_cons_zero, List.set_cons_succ]
    iterate 9 (refine sq_t (o := ⟨_, _, _, _, _, _⟩) (v := ?_) rfl (by rfl) ?_ ?_; rotate_left; (· (intro w hSw; go_simp; try with_reducible rfl)); try simp only [Act.put, List.setIfInBounds_toArray, List.set_cons_zero, List.set_cons_succ])
    refine sq_c rfl (fun K hK => ?_)
    go_simp
    have hb7 : Below w6.heap.size w6 (w6.alloc (.cells (eSt.fl [⟨0, 0, []⟩, ⟨1, 0, [107]⟩]).toArray 48)) := (Below.refl _ _).alloc (Nat.le_refl _) _
    have hg7 := g18_new w6
    have hbn := hbn.trans (hb7.mono hbn.size)
    refine hK.out _ _ (SF _ hbn) (fun hS => ?_)
    clear hK K hS
    try simp only [Act.put, List.setIfInBounds_toArray, List.set_cons_zero, List.set_cons_succ]
    refine sq_c rfl (fun K hK => ?_)
    go_simp
    refine (same_any A2 (some ⟨w6.heap.size, 0, none⟩) c2 2 [⟨0, 0, []⟩, ⟨1, 0, [107]⟩] [⟨0, 0, []⟩, ⟨1, 0, [107]⟩] (w6.alloc (.cells (eSt.fl [⟨0, 0, []⟩, ⟨1, 0, [107]⟩]).toArray 48)) (SI2.out.below hbn) hg7 (by decide) (by decide)).mono ?_
    rintro e w8 ⟨rfl, hb8⟩
    have hbn := hbn.trans (hb8.mono hbn.size)
    rw [decide_eq_true (rfl : ([⟨0, 0, []⟩, ⟨1, 0, [107]⟩] : List St) = [⟨0, 0, []⟩, ⟨1, 0, [107]⟩])]
    refine hK.out _ _ (SF _ hbn) (fun hS => ?_)
    clear hK K hS
    try simp only [Act.put, List.setIfInBounds_toArray, List.set_cons_zero, List.set_cons_succ]
    iterate 3 (refine sq_t (o := ⟨_, _, _, _, _, _⟩) (v := ?_) rfl (by rfl) ?_ ?_; rotate_left; (· (intro w hSw; go_simp; try with_reducible rfl)); try simp only [Act.put, List.setIfInBounds_toArray, List.set_cons_zero, List.set_cons_succ])
    refine sq_c rfl (fun K hK => ?_)
    go_simp
    refine (print_any A2 c2 [⟨0, 0, []⟩, ⟨1, 0, [107]⟩] w8 (SI2.out.below hbn) (by decide) (by simp)).mono ?_
    rintro e w9 ⟨rfl, hb9⟩
    have hbn := hbn.trans (hb9.mono hbn.size)
    refine hK.out _ _ (SF _ hbn) (fun hS => ?_)
    clear hK K hS
    try simp only [Act.put, List.setIfInBounds_toArray, List.set_cons_zero, List.set_cons_succ]
    have hpr : printL [⟨0, 0, []⟩, ⟨1, 0, [107]⟩] = [36, 91, 48, 93, 91, 34, 107, 34, 93] := by decide +kernel
    rw [hpr]
    simp only [sv]
    iterate 3 (refine sq_t (o := ⟨_, _, _, _, _, _⟩) (v := ?_) rfl (by rfl) ?_ ?_; rotate_left; (· (intro w hSw; go_simp; try with_reducible rfl)); try simp only [Act.put, List.setIfInBounds_toArray, List.set_cons_zero, List.set_cons_succ])
    refine sq_t (o := ⟨_, _, _, _, _, _⟩) (v := V.a u) rfl (by rfl) (fun w' hw' => exec_load_V rfl (by simp [Act.eval]) hw'.1) ?_
    try simp only [Act.put, List.setIfInBounds_toArray, List.set_cons_zero, List.set_cons_succ]
    refine sq_c rfl (fun K hK => ?_)
    go_simp
    refine (HALL.out w9 (IV2.out.keeps (.of_below hbn))).mono ?_
    rintro e w10 ⟨v10, hs10, rfl, hl10, ho10, -, -, -, hb10⟩
    have hbn := hbn.trans (hb10.mono hbn.size)
    have e3 : (addrsT (lvO (lvO lvX)) []).length = 3 := by rw [addrsT_len]; rfl
    rw [e3] at ho10
    obtain ⟨A10, c10, rfl, hc10⟩ := own_shape ho10
    have hBfin := Lib.hid hbn
    clear ho10 hs10 hl10 hb10
    refine hK.out _ _ (SF _ hbn) (fun hS => ?_)
    clear hK K hS
    try simp only [Act.put, List.setIfInBounds_toArray, List.set_cons_zero, List.set_cons_succ]
    iterate 3 (refine sq_t (o := ⟨_, _, _, _, _, _⟩) (v := ?_) rfl (by rfl) ?_ ?_; rotate_left; (· (intro w hSw; go_simp; try with_reducible rfl)); try simp only [Act.put, List.setIfInBounds_toArray, List.set_cons_zero, List.set_cons_succ])
    simp only [wpSq, List.drop_succ_cons, List.drop_zero]
    go_wp2_with fail
    refine NoPanic.normal ?_
    go_wp2_with fail
    go_ret
    exact ⟨rfl, B2.out.trans (hBfin.out.mono B2.out.size)⟩
end Go.Proofs.YtfcegalckjeafaaGreatDoor
