/-
  Parts of the proof that AddrBegins,AddrTexts calls on: Yg, Yh.
-/
import Derived.Test.YtfcegalckjeafaaGreatDoorM318
namespace Go.Proofs.YtfcegalckjeafaaGreatDoor
open Go.RowKit Go.BigFrame Go.Shelf
section
variable {ops : Array Oper} {o : Oper} {a : Act} {w : World} {Q : Exit → Act → World → Prop} {K : Act → World → Prop} {F : Prop}
/-- A whole struct is stored. -/
theorem step_stE {α : Type} {E : Enc α} {ty : Nat} (hgd : o.guard = none) {p x : Operand} (ho : o.op = .store ty p x) (hi : (Tryz.prog.info? ty).map (·.size) = some E.sz)
    {g t : Nat} (hp : a.eval p = .pointer (some ⟨g, 0, none⟩)) (v : α) {cur : Array Value} (hg : Blk w g t cur) (hcur : cur.size = E.sz) (hx : a.eval x = .agg (E.l v).toArray)
    (hK : ∀ w', Hid (EB E t w' g v) → (∀ k, k ≠ g → w'.heap[k]? = w.heap[k]?) → (∀ B w0, Below B w0 w → B ≤ g → Below B w0 w') → K (a.put o.dst undef) w') : if Region.wanted o (yielded ops a.tmps) = true then Oper.wp Tryz.prog o a w K Q else F := by
  rw [if_pos (by simp [Region.wanted, hgd])]
  unfold Oper.wp execOp
  simp only [ho, hp, hx, Instr.storeAt, Instr.sureAddr, Sem.run_bind, Sem.run_pure, Result.andThen_ok, run_storeVar_at w g 0 t ty (.agg (E.l v).toArray) (E.l v) cur hg rfl (by rw [hi, E.len]) (by rw [E.len, hcur]; omega) (E.one v)]
  refine hK _ ?_ (fun j hj => setRow_other w g j _ hj) (fun B w0 hb hB => below_setRow hb hB _)
  show (w.setRow g (splice cur.toList 0 (E.l v)).toArray).heap[g]? = _
  rw [setRow_heap w g _ _ t _ hg]
  have hl : cur.toList.length = (E.l v).length := by rw [E.len, ← hcur]; rfl
  have e : splice cur.toList 0 (E.l v) = E.l v := by
    simp only [splice, List.take_zero, List.nil_append, Nat.zero_add]
    rw [List.drop_of_length_le (by omega), List.append_nil]
  rw [e]
end
set_option maxRecDepth 100000 in
set_option maxHeartbeats 8000000 in
theorem change_go {P : T → Prop} (G : GSok P) (d : T → List St → T × Int) (x : T) (v : V) (ad : Addr) (s : St) (l : List St) (m c n last fd : Nat) (env : Array Value) (S : Nat → Prop) (w0 w : World) (hS : ∀ k, S k → k < w0.heap.size) (hw0 : Below w0.heap.size w0 w) (hx : P x) (hv : IsV w S x v) (hm : n + m ≤ c) (hc : n + m ≤ 1000000) (hl : last < m) (hs : s.T.length ≤ 100000) (hL : StepsIn w (some (ad.add (n * 3))) (s :: l))
    (ih : ∀ W (u : V), Below w.heap.size w W → IsV W S (getT x s).1 u → Calls Tryz.prog 67 #[u.a, .slice (some ad) (n + m) c, .int .i64 ((n : Int) + 1), .int .i64 last, .func (.func fd) #[] env] W (ToldOut W S (chgL d last (getT x s).1 l (n + 1))))
    (hP : P (chgL d last (getT x s).1 l (n + 1)).1) (hlast : last < (s :: l).length) :
    Calls Tryz.prog 67 #[v.a, .slice (some ad) (n + m) c, .int .i64 n, .int .i64 last, .func (.func fd) #[] env] w (ToldOut w S (chgL d last x (s :: l) n)) := by
  obtain ⟨R, hR⟩ : ∃ R, R = chgL d last x (s :: l) n := ⟨_, rfl⟩
  rw [← hR]
  rw [chgL, if_neg (by omega)] at hR
  have h1 : (0 : Int) ≤ (n : Int) := by omega
  have h2 : (n : Int) ≤ ((n + m : Nat) : Int) := by omega
  have h3 : ((n + m : Nat) : Int) ≤ (c : Int) := by omega
  have h4 : ¬ ((m : Int) ≤ (last : Int)) := by omega
  have h5 : (n : Int) ≤ (c : Int) := by omega
  have hcn : ¬ c = n := by omega
  have h6 : n + m - n = m := by omega
  have h7 : 0 < m := by omega
  obtain ⟨ad', e, hcc⟩ := hL.cells (k := 0) rfl
  obtain rfl : ad.add (n * 3) = ad' := Option.some.inj e
  have HCC := Lib.hid hcc
  have HAD : Hid (ad.block < w.heap.size) := Lib.hid (by obtain ⟨ad', e, hb, -⟩ := hL (by simp); cases e; rwa [block_of_add] at hb)
  have HVV := Lib.hid hv
  have HW0 := Lib.hid hw0
  have HSB := Lib.hid hS
  have HG := Lib.hid (fun W hW => G.get x v s S W hx hW hs)
  have HSET := Lib.hid (fun S W u hW hu => G.set x (chgL d last (getT x s).1 l (n + 1)).1 v u s S W hx hP hW hu hs)
  have HIH := Lib.hid ih
  have HK := Lib.hid (fun W => kind_any v W)
  have HKK := Lib.hid (kind_of hv).1
  have HTV := Lib.hid (fun W c' (h : c' ≠ 0) => told_err v c' n W h)
  have HR := Lib.hid hR
  clear ih hv hL hcc e hR hx hw0 hS hs
  simp only [V.a, St.a] at HG HK HTV HSET ⊢
  go_enter Tryz.func67, Tryz.ntmps67
  go_wp2_with fail
  refine wp_at fun W hW => ?_
  obtain ⟨hB, hz, HV, HO⟩ := boxes2 (t2 := 42) (c2 := V.z.l.toArray) hW
  have HZ := Lib.hid hz
  have hcl : ∀ o, (((ad.add (n * 3)).add (0 * 3)).add o).block = ad.block := fun o => by simp [block_of_add]
  have KEEP : Hid (∀ W', Below W.heap.size W W' → Below w.heap.size w W' ∧ VB W' w.heap.size v ∧ VB W' (w.heap.size + 1) V.z ∧ (∀ j u, (eSt.l s)[j]? = some u → W'.cell? (((ad.add (n * 3)).add (0 * 3)).add j) = some u) ∧ IsV W' S x v) := Lib.hid fun W' h => ⟨hB.trans (h.mono hB.size), Blk.below (show VB W w.heap.size v from HV) h HV.lt, Blk.below HO h HO.lt, fun j u hu => (h.cell (by rw [hcl]; exact Nat.lt_of_lt_of_le HAD.out hB.size)).trans ((hB.cell (by rw [hcl]; exact HAD.out)).trans (HCC.out j u hu)), (HVV.out.keeps (.of_below hB)).keeps (.of_below h)⟩
  clear hW hB hz HV HO hcl HCC HVV
  have K0 := KEEP.out W.drew (Below.refl _ _).drew
  go_cut [15, 16] from 15 to 47 (fun s15 s16 wx => ∃ (u : V) (g : Nat), s15 = .pointer (some ⟨g, 0, none⟩) ∧ s16 = .int .i64 (getT x s).2 ∧ w.heap.size + 2 ≤ g ∧ Hid (VB wx g u) ∧ Hid (IsV wx S (getT x s).1 u) ∧ Hid (Below W.heap.size W wx))
  case first =>
    refine wp_region_both 10 [0, 1, 2, 3] 4 8 [(5, true), (6, true), (7, true), (8, false), (9, false)] [(4, false), (5, true), (6, true), (7, true), (9, false)] (fun w' => VB w' w.heap.size v ∧ (∀ j u, (eSt.l s)[j]? = some u → w'.cell? (((ad.add (n * 3)).add (0 * 3)).add j) = some u)) (by kernel_rfl) (by kernel_rfl) (by kernel_rfl) (⟨K0.2.1, K0.2.2.2.1⟩) (fun hS => ?_)
    refine sq_t (o := ⟨_, _, _, _, _, _⟩) (v := V.a v) rfl (by rfl) (fun w' hw' => exec_load_V rfl (by simp [Act.eval]) hw'.1) ?_
    try simp only [Act.put, List.setIfInBounds_toArray, List.set_cons_zero, List.set_cons_succ]
    iterate 2 (refine sq_t (o := ⟨_, _, _, _, _, _⟩) (v := ?_) rfl (by rfl) ?_ ?_; rotate_left; (· (intro w hSw; go_simp; try with_reducible rfl)); try simp only [Act.put, List.setIfInBounds_toArray, List.set_cons_zero, List.set_cons_succ])
    refine sq_t (o := ⟨_, _, _, _, _, _⟩) (v := .agg #[.int .i64 s.K, .int .i64 s.I, .string ⟨s.T.toArray⟩]) rfl (by rfl) (fun w' hw' => exec_load_list (cs := eSt.l s) isSt rfl (by simp [Act.eval]; rfl) (hw'.2)) ?_
    try simp only [Act.put, List.setIfInBounds_toArray, List.set_cons_zero, List.set_cons_succ]

    simp only [V.a]
    refine ⟨hS, ?_, ?_⟩
    · have HBX := Lib.hid (show Below W.heap.size W W.drew from (Below.refl _ _).drew)
      clear hS
      refine sq_c rfl (fun K hK => ?_)
      go_simp
      refine (HG.out _ ((KEEP.out W.drew HBX.out).2.2.2.2)).mono ?_
      rintro e w4 ⟨u, rfl, hu, hb4⟩
      have KU4 := Lib.hid hu
      have hbx4 := Lib.hid (HBX.out.trans (hb4.mono HBX.out.size))
      refine hK.out _ _ (⟨(KEEP.out _ hbx4.out).2.1, (KEEP.out _ hbx4.out).2.2.2.1⟩) (fun hS => ?_)
      clear hK K hS
      try simp only [Act.put, List.setIfInBounds_toArray, List.set_cons_zero, List.set_cons_succ]
      iterate 3 (refine sq_t (o := ⟨_, _, _, _, _, _⟩) (v := ?_) rfl (by rfl) ?_ ?_; rotate_left; (· (intro w hSw; go_simp; try with_reducible rfl)); try simp only [Act.put, List.setIfInBounds_toArray, List.set_cons_zero, List.set_cons_succ])
      have HBX := hbx4
      refine sq_c rfl (fun K hK => ?_)
      go_simp
      have hbx5 := Lib.hid (HBX.out.alloc HBX.out.size (.cells V.z.l.toArray 42))
      refine hK.out _ _ (⟨(KEEP.out _ hbx5.out).2.1, (KEEP.out _ hbx5.out).2.2.2.1⟩) (fun hS => ?_)
      clear hK K hS
      try simp only [Act.put, List.setIfInBounds_toArray, List.set_cons_zero, List.set_cons_succ]
      have HBX0 := hbx4
      refine sq_c rfl (fun K hK => ?_)
      refine step_stE (E := eV) rfl rfl infoV11 rfl u (g := w4.heap.size) (Blk.new w4 42 V.z.l.toArray) rfl rfl (fun w7 HR7 ho7 hB7 => ?_)
      have hbx7 := Lib.hid (hB7 _ _ hbx5.out (by have := HBX0.out.size; simp at this ⊢; try omega))
      refine hK.out _ _ (⟨(KEEP.out _ hbx7.out).2.1, (KEEP.out _ hbx7.out).2.2.2.1⟩) (fun hS => ?_)
      clear hK K hS
      try simp only [Act.put, List.setIfInBounds_toArray]
      simp only [wpSq, List.drop_succ_cons, List.drop_zero]
      try dsimp only
      have HU7 := Lib.hid (KU4.out.keeps (w' := w7) (fun k hk hs => (ho7 k (by omega)).trans (((Below.refl _ _).alloc (Nat.le_refl _) _).block k hk)))
      go_wp2_with fail
      refine NoPanic.normal ?_
      go_wp2_with fail
      go_meet
      exact ⟨u, w4.heap.size, rfl, rfl, by have q1 := HBX0.out.size; have q2 := HZ.out; (try simp at q1); (try simp); omega, HR7, HU7, hbx7⟩
    · have HBX := Lib.hid (show Below W.heap.size W W.drew from (Below.refl _ _).drew)
      clear hS
      refine sq_c rfl (fun K hK => ?_)
      go_simp
      have hbx5 := Lib.hid (HBX.out.alloc HBX.out.size (.cells V.z.l.toArray 42))
      refine hK.out _ _ (⟨(KEEP.out _ hbx5.out).2.1, (KEEP.out _ hbx5.out).2.2.2.1⟩) (fun hS => ?_)
      clear hK K hS
      try simp only [Act.put, List.setIfInBounds_toArray, List.set_cons_zero, List.set_cons_succ]
      have HBX := hbx5
      have HBX0 := Lib.hid (show Below W.heap.size W W.drew from (Below.refl _ _).drew)
      refine sq_c rfl (fun K hK => ?_)
      go_simp
      refine (HG.out _ ((KEEP.out (W.drew.alloc (.cells V.z.l.toArray 42)) HBX.out).2.2.2.2)).mono ?_
      rintro e w4 ⟨u, rfl, hu, hb4⟩
      have KU4 := Lib.hid hu
      have hbx4 := Lib.hid (HBX.out.trans (hb4.mono HBX.out.size))
      refine hK.out _ _ (⟨(KEEP.out _ hbx4.out).2.1, (KEEP.out _ hbx4.out).2.2.2.1⟩) (fun hS => ?_)
      clear hK K hS
      try simp only [Act.put, List.setIfInBounds_toArray, List.set_cons_zero, List.set_cons_succ]
      iterate 3 (refine sq_t (o := ⟨_, _, _, _, _, _⟩) (v := ?_) rfl (by rfl) ?_ ?_; rotate_left; (· (intro w hSw; go_simp; try with_reducible rfl)); try simp only [Act.put, List.setIfInBounds_toArray, List.set_cons_zero, List.set_cons_succ])
      refine sq_c rfl (fun K hK => ?_)
      refine step_stE (E := eV) rfl rfl infoV11 rfl u (g := W.drew.heap.size) (Blk.below (Blk.new W.drew 42 V.z.l.toArray) hb4 (by simp)) rfl rfl (fun w7 HR7 ho7 hB7 => ?_)
      have hbx7 := Lib.hid (hB7 _ _ hbx4.out (by have := HBX0.out.size; simp at this ⊢; try omega))
      refine hK.out _ _ (⟨(KEEP.out _ hbx7.out).2.1, (KEEP.out _ hbx7.out).2.2.2.1⟩) (fun hS => ?_)
      clear hK K hS
      try simp only [Act.put, List.setIfInBounds_toArray]
      simp only [wpSq, List.drop_succ_cons, List.drop_zero]
      try dsimp only
      have HU7 := Lib.hid (KU4.out.keeps (w' := w7) (fun k hk hs => ho7 k (by have := HSB.out k hs; have := HW0.out.size; have := HZ.out; show k ≠ W.drew.heap.size; simp; omega)))
      go_wp2_with fail
      refine NoPanic.normal ?_
      go_wp2_with fail
      go_meet
      exact ⟨u, W.drew.heap.size, rfl, rfl, by have q1 := HBX0.out.size; have q2 := HZ.out; (try simp at q1); (try simp); omega, HR7, HU7, hbx7⟩
  case rest =>
    obtain ⟨u, g, rfl, rfl, hg, HGU, HU, HB⟩ := hcut
    have K1 := KEEP.out _ HB.out
    have HV1 := Lib.hid K1.2.1
    clear K0 K1
    by_cases q1 : (getT x s).2 = 0
    case neg =>
      have b1 : ((getT x s).2 != 0) = true := by simpa using q1
      have HE : Hid (R = (T.z, (getT x s).2, n)) := Lib.hid (by rw [HR.out, if_pos q1])
      have HTE := Lib.hid (fun W => HTV.out W _ q1)
      clear q1 HG HSET HIH HK HTV HU HGU
      generalize (getT x s).2 = ec at *
      go_wp2_with (first
        | (refine wpList_ldl rfl (o := ⟨some 50, _, _, _, _, _⟩) rfl rfl v.l isV (fun j u hu => by have := Blk.cell HV1.out j; rw [at_zero, this]; simpa using hu) ?_)
        | fail)
      refine (HTE.out wc).mono ?_
      rintro e w9 ⟨x9, rfl, hx9, hb9⟩
      have KX9 := Lib.hid hx9
      clear hx9
      have hz9 := hb9.size
      obtain ⟨k1, -, k3, -⟩ := KEEP.out w9 (HB.out.trans (hb9.mono HB.out.size))
      have KO9 := Lib.hid k3
      have KB9 := Lib.hid k1
      clear hb9 k1 k3
      simp only
      go_wp2_with (first
        | (refine wpList_stE (E := eV) rfl rfl infoV11 rfl V.z KO9.out rfl rfl ?_; intro w99 HR99 ho99 hB99)
        | fail)
      refine ret_ct (p := 10) (u := 11) rfl rfl rfl HR99.out (by kernel_rfl) rfl ?_
      rw [HE.out]
      exact ⟨V.z, _, rfl, isV_z _ _, .inr (KX9.out.far_ ho99 KO9.out (by decide)), hB99 _ _ KB9.out (by omega)⟩
    have b0 : ((getT x s).2 != 0) = false := by simpa using q1
    have HR1 : Hid (R = if x.k = 6 then (T.z, 12, n) else if (chgL d last (getT x s).1 l (n + 1)).2.1 ≠ 0 then (T.z, (chgL d last (getT x s).1 l (n + 1)).2) else if (setT x s (chgL d last (getT x s).1 l (n + 1)).1).2 = 0 then ((setT x s (chgL d last (getT x s).1 l (n + 1)).1).1, 0, 0) else (T.z, (setT x s (chgL d last (getT x s).1 l (n + 1)).1).2, n)) := Lib.hid (by rw [HR.out, if_neg (fun h => h q1)])
    clear q1 HG
    by_cases q2 : x.k = 6
    · have HE : Hid (R = (T.z, 12, n)) := Lib.hid (by rw [HR1.out, if_pos q2])
      have HTE := Lib.hid (fun W => HTV.out W 12 (by decide))
      have b2 : (v.kd == 6) = true := by rw [HKK.out, q2]; rfl
      clear q2 HSET HIH HTV HU HGU
      generalize (getT x s).2 = ec at *
      go_wp2_with (first
        | (refine wpList_ldl rfl (o := ⟨some 56, _, _, _, _, _⟩) rfl rfl v.l isV (fun j u hu => by have := Blk.cell HV1.out j; rw [at_zero, this]; simpa using hu) ?_)
        | fail)
      refine (HK.out wc).mono ?_
      rintro e w5 ⟨rfl, hb5⟩
      have HB5 := Lib.hid (HB.out.trans (hb5.mono HB.out.size))
      have HV5 := Lib.hid (KEEP.out _ HB5.out).2.1
      clear hb5
      go_wp2_with (first
        | (refine wpList_ldl rfl (o := ⟨some 59, _, _, _, _, _⟩) rfl rfl v.l isV (fun j u hu => by have := Blk.cell HV5.out j; rw [at_zero, this]; simpa using hu) ?_)
        | fail)
      refine (HTE.out w5).mono ?_
      rintro e w9 ⟨x9, rfl, hx9, hb9⟩
      have KX9 := Lib.hid hx9
      clear hx9
      have hz9 := hb9.size
      obtain ⟨k1, -, k3, -⟩ := KEEP.out w9 (HB5.out.trans (hb9.mono HB5.out.size))
      have KO9 := Lib.hid k3
      have KB9 := Lib.hid k1
      clear hb9 k1 k3
      simp only
      go_wp2_with (first
        | (refine wpList_stE (E := eV) rfl rfl infoV11 rfl V.z KO9.out rfl rfl ?_; intro w99 HR99 ho99 hB99)
        | fail)
      refine ret_ct (p := 10) (u := 11) rfl rfl rfl HR99.out (by kernel_rfl) rfl ?_
      rw [HE.out]
      exact ⟨V.z, _, rfl, isV_z _ _, .inr (KX9.out.far_ ho99 KO9.out (by decide)), hB99 _ _ KB9.out (by omega)⟩
    · have b2 : (v.kd == 6) = false := by rw [HKK.out]; simpa using q2
      have HR2 : Hid (R = if (chgL d last (getT x s).1 l (n + 1)).2.1 ≠ 0 then (T.z, (chgL d last (getT x s).1 l (n + 1)).2) else if (setT x s (chgL d last (getT x s).1 l (n + 1)).1).2 = 0 then ((setT x s (chgL d last (getT x s).1 l (n + 1)).1).1, 0, 0) else (T.z, (setT x s (chgL d last (getT x s).1 l (n + 1)).1).2, n)) := Lib.hid (by rw [HR1.out, if_neg q2])
      clear q2 HR1 HR HTV
      generalize (getT x s).2 = ec at *
      go_wp2_with (first
        | (refine wpList_ldl rfl (o := ⟨some 56, _, _, _, _, _⟩) rfl rfl v.l isV (fun j u hu => by have := Blk.cell HV1.out j; rw [at_zero, this]; simpa using hu) ?_)
        | fail)
      refine (HK.out wc).mono ?_
      rintro e w5 ⟨rfl, hb5⟩
      have HB5 := Lib.hid (HB.out.trans (hb5.mono HB.out.size))
      have HU5 := Lib.hid (HU.out.keeps (.of_below hb5))
      have HGU5 := Lib.hid (show VB w5 g u from Blk.below HGU.out hb5 (Blk.lt HGU.out))
      clear hb5 HV1 HK
      go_wp2_with (first
        | (refine wpList_ldl rfl (o := ⟨some 65, _, _, _, _, _⟩) rfl rfl u.l isV (fun j u' hu => by have := Blk.cell HGU5.out j; rw [at_zero, this]; simpa using hu) ?_)
        | fail)
      have hcl := HIH.out w5 u (KEEP.out _ HB5.out).1 HU5.out
      simp only [V.a] at hcl
      refine hcl.mono ?_
      rintro e w6 ⟨u3, x3, rfl, hu3, hx3, hb6⟩
      have HB6 := Lib.hid (HB5.out.trans (hb6.mono HB5.out.size))
      have HU6 := Lib.hid hu3
      have HX6 := Lib.hid hx3
      clear hcl hu3 hx3 HGU5 HU5 HIH HGU HU
      have hz6 := HB6.out.size
      have hWw := HZ.out
      have g3l : w.heap.size + 2 ≤ w6.heap.size := by omega
      obtain ⟨R3, hR3⟩ : ∃ R3, R3 = chgL d last (getT x s).1 l (n + 1) := ⟨_, rfl⟩
      rw [← hR3] at HR2 HSET HU6 HX6
      have HP3 : Hid (P R3.1) := Lib.hid (by rw [hR3]; exact hP)
      clear hR3 hP
      rcases HX6.out with ⟨hz3, rfl⟩ | ⟨hc3, b3, rfl, hb3⟩
      case inr =>
        have HE : Hid (R = (T.z, R3.2)) := Lib.hid (by rw [HR2.out, if_pos hc3])
        have HX7 := Lib.hid (show ErrAt w6 (.iface 152 (.pointer (some ⟨b3, 0, none⟩))) R3.2.2 R3.2.1 from HX6.out.elim (fun h => absurd h.1 hc3) id)
        clear hc3 hb3 HX6 HSET HR2
        go_wp2_with (first
          | (refine wpList_stE (E := eV) (o := ⟨none, .store 42 (.tmp 17) _, _, _, _, _⟩) rfl rfl infoV11 rfl u3 (Blk.new w6 42 V.z.l.toArray) rfl rfl ?_; intro w7 HR7 ho7 hB7; have HB7 := Lib.hid (hB7 _ _ ((Below.refl w6.heap.size w6).alloc (Nat.le_refl _) (.cells V.z.l.toArray 42)) (Nat.le_refl _)); have KO7 := Lib.hid (KEEP.out w7 (HB6.out.trans (HB7.out.mono HB6.out.size))).2.2.1; have KB7 := Lib.hid (KEEP.out w7 (HB6.out.trans (HB7.out.mono HB6.out.size))).1; clear ho7 hB7)
          | (refine wpList_stE (E := eV) (o := ⟨none, .store 42 (.tmp 10) _, _, _, _, _⟩) rfl rfl infoV11 rfl V.z KO7.out rfl rfl ?_; intro w99 HR99 ho99 hB99)
          | fail)
        refine ret_ct (p := 10) (u := 11) rfl rfl rfl HR99.out (by kernel_rfl) rfl ?_
        rw [HE.out]
        exact ⟨V.z, _, rfl, isV_z _ _, .inr ((HX7.out.below HB7.out).far_ ho99 KO7.out (by decide)), hB99 _ _ KB7.out (by omega)⟩
      case inl =>
        have HR3 : Hid (R = if (setT x s R3.1).2 = 0 then ((setT x s R3.1).1, 0, 0) else (T.z, (setT x s R3.1).2, n)) := Lib.hid (by rw [HR2.out, if_neg (fun h => h hz3)])
        clear hz3 HX6 HR2
        go_wp2_with (first
          | (refine wpList_stE (E := eV) (o := ⟨none, .store 42 (.tmp 17) _, _, _, _, _⟩) rfl rfl infoV11 rfl u3 (Blk.new w6 42 V.z.l.toArray) rfl rfl ?_; intro w7 HR7 ho7 hB7; have HB7 := Lib.hid (hB7 _ _ ((Below.refl w6.heap.size w6).alloc (Nat.le_refl _) (.cells V.z.l.toArray 42)) (Nat.le_refl _)); clear ho7 hB7)
          | fail)
        have HB67 := Lib.hid (HB6.out.trans (HB7.out.mono HB6.out.size))
        have hz7 := HB7.out.size
        obtain ⟨S2, hS2⟩ : ∃ S2 : Nat → Prop, S2 = fun k => up S w5.heap.size k ∧ k < w7.heap.size := ⟨_, rfl⟩
        have HU7 : Hid (IsV w7 S2 R3.1 u3) := Lib.hid (by rw [hS2]; exact (HU6.out.keeps (.of_below HB7.out)).bound)
        have HS2 : Hid (∀ k, S k → S2 k) := Lib.hid fun k h => by rw [hS2]; exact ⟨.inl h, by have := HSB.out k h; have := HW0.out.size; omega⟩
        have HS2B : Hid (∀ k, S2 k → k < w7.heap.size) := Lib.hid fun k h => by rw [hS2] at h; exact h.2
        have HS2U : Hid (∀ k, S2 k → S k ∨ w.heap.size + 2 ≤ k) := Lib.hid fun k h => by rw [hS2] at h; have q1 := HB5.out.size; rcases h.1 with h | h; exact .inl h; exact .inr (by omega)
        clear hS2 HB7 HU6
        have K7 := KEEP.out w7.drew (HB67.out.trans ((Below.refl w7.heap.size w7).drew.mono HB67.out.size))
        go_cut [19, 16] from 16 to 86 (fun s19 s16 wx => ∃ (u : V) (g : Nat), s19 = .pointer (some ⟨g, 0, none⟩) ∧ s16 = .int .i64 (setT x s R3.1).2 ∧ w.heap.size + 2 ≤ g ∧ Hid (VB wx g u) ∧ Hid (IsV wx (up S2 w7.heap.size) (setT x s R3.1).1 u) ∧ Hid (Below w7.heap.size w7 wx))
        case first =>
          refine wp_region_both 11 [0, 1, 2, 3, 4] 5 9 [(6, true), (7, true), (8, true), (9, false), (10, false)] [(5, false), (6, true), (7, true), (8, true), (10, false)] (fun w' => VB w' w.heap.size v ∧ (∀ j u, (eSt.l s)[j]? = some u → w'.cell? (((ad.add (n * 3)).add (0 * 3)).add j) = some u) ∧ VB w' w6.heap.size u3) (by kernel_rfl) (by kernel_rfl) (by kernel_rfl) (⟨K7.2.1, K7.2.2.2.1, HR7.out.drew⟩) (fun hS => ?_)
          refine sq_t (o := ⟨_, _, _, _, _, _⟩) (v := V.a v) rfl (by rfl) (fun w' hw' => exec_load_V rfl (by simp [Act.eval]) hw'.1) ?_
          try simp only [Act.put, List.setIfInBounds_toArray, List.set_cons_zero, List.set_cons_succ]
          iterate 2 (refine sq_t (o := ⟨_, _, _, _, _, _⟩) (v := ?_) rfl (by rfl) ?_ ?_; rotate_left; (· (intro w hSw; go_simp; try with_reducible rfl)); try simp only [Act.put, List.setIfInBounds_toArray, List.set_cons_zero, List.set_cons_succ])
          refine sq_t (o := ⟨_, _, _, _, _, _⟩) (v := .agg #[.int .i64 s.K, .int .i64 s.I, .string ⟨s.T.toArray⟩]) rfl (by rfl) (fun w' hw' => exec_load_list (cs := eSt.l s) isSt rfl (by simp [Act.eval]; rfl) (hw'.2.1)) ?_
          try simp only [Act.put, List.setIfInBounds_toArray, List.set_cons_zero, List.set_cons_succ]
          refine sq_t (o := ⟨_, _, _, _, _, _⟩) (v := V.a u3) rfl (by rfl) (fun w' hw' => exec_load_V rfl (by simp [Act.eval]) hw'.2.2) ?_
          try simp only [Act.put, List.setIfInBounds_toArray, List.set_cons_zero, List.set_cons_succ]
          simp only [V.a]
          refine ⟨hS, ?_, ?_⟩
          · have HBX := Lib.hid (show Below w7.heap.size w7 w7.drew from (Below.refl _ _).drew)
            clear hS
            refine sq_c rfl (fun K hK => ?_)
            go_simp
            refine (HSET.out S2 w7.drew u3 (((KEEP.out w7.drew (HB67.out.trans (HBX.out.mono HB67.out.size))).2.2.2.2).more HS2.out) (HU7.out.keeps (.of_below HBX.out))).mono ?_
            rintro e w4 ⟨u, rfl, hu, hb4⟩
            have KU4 := Lib.hid hu
            have hbx4 := Lib.hid (HBX.out.trans (hb4.mono HBX.out.size))
            refine hK.out _ _ (⟨(KEEP.out _ (HB67.out.trans (hbx4.out.mono HB67.out.size))).2.1, (KEEP.out _ (HB67.out.trans (hbx4.out.mono HB67.out.size))).2.2.2.1, Blk.below HR7.out hbx4.out (Blk.lt HR7.out)⟩) (fun hS => ?_)
            clear hK K hS
            try simp only [Act.put, List.setIfInBounds_toArray, List.set_cons_zero, List.set_cons_succ]
            iterate 3 (refine sq_t (o := ⟨_, _, _, _, _, _⟩) (v := ?_) rfl (by rfl) ?_ ?_; rotate_left; (· (intro w hSw; go_simp; try with_reducible rfl)); try simp only [Act.put, List.setIfInBounds_toArray, List.set_cons_zero, List.set_cons_succ])
            have HBX := hbx4
            refine sq_c rfl (fun K hK => ?_)
            go_simp
            have hbx5 := Lib.hid (HBX.out.alloc HBX.out.size (.cells V.z.l.toArray 42))
            refine hK.out _ _ (⟨(KEEP.out _ (HB67.out.trans (hbx5.out.mono HB67.out.size))).2.1, (KEEP.out _ (HB67.out.trans (hbx5.out.mono HB67.out.size))).2.2.2.1, Blk.below HR7.out hbx5.out (Blk.lt HR7.out)⟩) (fun hS => ?_)
            clear hK K hS
            try simp only [Act.put, List.setIfInBounds_toArray, List.set_cons_zero, List.set_cons_succ]
            have HBX0 := hbx4
            refine sq_c rfl (fun K hK => ?_)
            refine step_stE (E := eV) rfl rfl infoV11 rfl u (g := w4.heap.size) (Blk.new w4 42 V.z.l.toArray) rfl rfl (fun w9 HR7b ho7 hB7 => ?_)
            have hbx7 := Lib.hid (hB7 _ _ hbx5.out (by have := HBX0.out.size; simp at this ⊢; try omega))
            refine hK.out _ _ (⟨(KEEP.out _ (HB67.out.trans (hbx7.out.mono HB67.out.size))).2.1, (KEEP.out _ (HB67.out.trans (hbx7.out.mono HB67.out.size))).2.2.2.1, Blk.below HR7.out hbx7.out (Blk.lt HR7.out)⟩) (fun hS => ?_)
            clear hK K hS
            try simp only [Act.put, List.setIfInBounds_toArray]
            simp only [wpSq, List.drop_succ_cons, List.drop_zero]
            try dsimp only
            have HU7b := Lib.hid (KU4.out.keeps (w' := w9) (fun k hk hs => (ho7 k (by omega)).trans (((Below.refl _ _).alloc (Nat.le_refl _) _).block k hk)) |>.more (show ∀ k, up S2 _ k → up S2 w7.heap.size k from fun k h => h.imp id fun h => by have q1 := HBX0.out.size; (try simp at h q1); omega))
            go_wp2_with fail
            refine NoPanic.normal ?_
            go_wp2_with fail
            go_meet
            exact ⟨u, w4.heap.size, rfl, rfl, by have q1 := HBX0.out.size; have q2 := HB67.out.size; have q3 := HZ.out; (try simp at q1); (try simp); omega, HR7b, HU7b, hbx7⟩
          · have HBX := Lib.hid (show Below w7.heap.size w7 w7.drew from (Below.refl _ _).drew)
            clear hS
            refine sq_c rfl (fun K hK => ?_)
            go_simp
            have hbx5 := Lib.hid (HBX.out.alloc HBX.out.size (.cells V.z.l.toArray 42))
            refine hK.out _ _ (⟨(KEEP.out _ (HB67.out.trans (hbx5.out.mono HB67.out.size))).2.1, (KEEP.out _ (HB67.out.trans (hbx5.out.mono HB67.out.size))).2.2.2.1, Blk.below HR7.out hbx5.out (Blk.lt HR7.out)⟩) (fun hS => ?_)
            clear hK K hS
            try simp only [Act.put, List.setIfInBounds_toArray, List.set_cons_zero, List.set_cons_succ]
            have HBX := hbx5
            have HBX0 := Lib.hid (show Below w7.heap.size w7 w7.drew from (Below.refl _ _).drew)
            refine sq_c rfl (fun K hK => ?_)
            go_simp
            refine (HSET.out S2 (w7.drew.alloc (.cells V.z.l.toArray 42)) u3 (((KEEP.out (w7.drew.alloc (.cells V.z.l.toArray 42)) (HB67.out.trans (HBX.out.mono HB67.out.size))).2.2.2.2).more HS2.out) (HU7.out.keeps (.of_below HBX.out))).mono ?_
            rintro e w4 ⟨u, rfl, hu, hb4⟩
            have KU4 := Lib.hid hu
            have hbx4 := Lib.hid (HBX.out.trans (hb4.mono HBX.out.size))
            refine hK.out _ _ (⟨(KEEP.out _ (HB67.out.trans (hbx4.out.mono HB67.out.size))).2.1, (KEEP.out _ (HB67.out.trans (hbx4.out.mono HB67.out.size))).2.2.2.1, Blk.below HR7.out hbx4.out (Blk.lt HR7.out)⟩) (fun hS => ?_)
            clear hK K hS
            try simp only [Act.put, List.setIfInBounds_toArray, List.set_cons_zero, List.set_cons_succ]
            iterate 3 (refine sq_t (o := ⟨_, _, _, _, _, _⟩) (v := ?_) rfl (by rfl) ?_ ?_; rotate_left; (· (intro w hSw; go_simp; try with_reducible rfl)); try simp only [Act.put, List.setIfInBounds_toArray, List.set_cons_zero, List.set_cons_succ])
            refine sq_c rfl (fun K hK => ?_)
            refine step_stE (E := eV) rfl rfl infoV11 rfl u (g := w7.drew.heap.size) (Blk.below (Blk.new w7.drew 42 V.z.l.toArray) hb4 (by simp)) rfl rfl (fun w9 HR7b ho7 hB7 => ?_)
            have hbx7 := Lib.hid (hB7 _ _ hbx4.out (by have := HBX0.out.size; simp at this ⊢; try omega))
            refine hK.out _ _ (⟨(KEEP.out _ (HB67.out.trans (hbx7.out.mono HB67.out.size))).2.1, (KEEP.out _ (HB67.out.trans (hbx7.out.mono HB67.out.size))).2.2.2.1, Blk.below HR7.out hbx7.out (Blk.lt HR7.out)⟩) (fun hS => ?_)
            clear hK K hS
            try simp only [Act.put, List.setIfInBounds_toArray]
            simp only [wpSq, List.drop_succ_cons, List.drop_zero]
            try dsimp only
            have HU7b := Lib.hid (KU4.out.keeps (w' := w9) (fun k hk hs => ho7 k (by have q1 := HS2B.out k; show k ≠ w7.drew.heap.size; simp; simp at hs; rcases hs with h | h; have := q1 h; omega; omega)) |>.more (show ∀ k, up S2 _ k → up S2 w7.heap.size k from fun k h => h.imp id fun h => by have q1 := HBX0.out.size; (try simp at h q1); omega))
            go_wp2_with fail
            refine NoPanic.normal ?_
            go_wp2_with fail
            go_meet
            exact ⟨u, w7.drew.heap.size, rfl, rfl, by have q1 := HBX0.out.size; have q2 := HB67.out.size; have q3 := HZ.out; (try simp at q1); (try simp); omega, HR7b, HU7b, hbx7⟩
        case rest =>
          obtain ⟨u', g', rfl, rfl, hg', HGU, HU, HB8⟩ := hcut
          clear K7
          generalize (setT x s R3.1).2 = sc at *
          go_wp2_with (first
            | (refine wpList_ldl rfl (o := ⟨some 87, _, _, _, _, _⟩) rfl rfl u'.l isV (fun j u hu => by have := Blk.cell HGU.out j; rw [at_zero, this]; simpa using hu) ?_)
            | fail)
          have hcl := told_any u' (setT x s R3.1).1 sc n _ _ HU.out
          simp only [V.a] at hcl
          refine hcl.mono ?_
          rintro e w9 ⟨u9, x9, rfl, hu9, hx9, hb9⟩
          have KU9 := Lib.hid hu9
          have KX9 := Lib.hid hx9
          have HBB : Hid (Below W.heap.size W w9) := Lib.hid (HB67.out.trans ((HB8.out.trans (hb9.mono HB8.out.size)).mono HB67.out.size))
          have KO9 := Lib.hid (KEEP.out w9 HBB.out).2.2.1
          have KB9 := Lib.hid (KEEP.out w9 HBB.out).1
          have HZC : Hid (w.heap.size + 2 ≤ w7.heap.size ∧ w7.heap.size ≤ wc.heap.size) := Lib.hid ⟨by have := HB67.out.size; omega, HB8.out.size⟩
          clear hcl hu9 hx9 hb9 HU HGU HB8
          simp only [V.a]
          go_wp2_with (first
            | (refine wpList_stE (E := eV) rfl rfl infoV11 rfl u9 KO9.out rfl rfl ?_; intro w99 HR99 ho99 hB99)
            | fail)
          refine ret_ct (p := 10) (u := 11) rfl rfl rfl HR99.out (by kernel_rfl) rfl ?_
          rw [HR3.out]
          refine ⟨u9, x9, rfl, (KU9.out.keeps (w' := w99) (fun k hk hs => ho99 k ?_)).more (fun k h => ?_), KX9.out.imp_right fun h => h.far_ ho99 KO9.out (by decide), hB99 _ _ KB9.out (by omega)⟩
          · have q1 := HZC.out
            have q2 := HW0.out.size
            rcases hs with (h | h) | h
            · rcases HS2U.out k h with h | h
              · have := HSB.out k h; omega
              · omega
            · omega
            · omega
          · have q1 := HZC.out
            rcases h with (h | h) | h
            · exact (HS2U.out k h).imp id fun h => by omega
            · exact .inr (by omega)
            · exact .inr (by omega)
end Go.Proofs.YtfcegalckjeafaaGreatDoor
namespace Go.Proofs.YtfcegalckjeafaaGreatDoor
open Go.RowKit Go.BigFrame Go.Shelf
theorem chgL_P {P : T → Prop} (G : GSok P) {d : T → List St → T × Int} {last : Nat} (hdP : ∀ x l, P x → P (d x l).1) : ∀ (l : List St) (x : T) (n : Nat), P x → P (chgL d last x l n).1
  | [], x, n, h => by
    rw [chgL]; split
    · exact hdP x [] h
    · exact G.z
  | s :: l, x, n, h => by
    rw [chgL]
    have h1 := G.getP x s h
    have h2 := chgL_P G (last := last) hdP l (getT x s).1 (n + 1) h1
    have h3 := G.setP x _ s h h2
    split
    · split
      · exact hdP x (s :: l) h
      · exact G.z
    · split
      · exact G.z
      · split
        · exact G.z
        · split
          · exact G.z
          · split
            · exact h3
            · exact G.z
theorem StepsIn.tail {w : World} {ad : Addr} {s : St} {l : List St} (h : StepsIn w (some ad) (s :: l)) : StepsIn w (some (ad.add 3)) l := by
  have := h.drop_ 1
  simpa using this
theorem change_any {P : T → Prop} (G : GSok P) (d : T → List St → T × Int) (last fd : Nat) (env : Array Value) (S : Nat → Prop) (w0 : World) (hS : ∀ k, S k → k < w0.heap.size) (he : ∀ args w, (callFunc fd args).run Tryz.prog w = .ok (.enter fd args) w) (hd : DoOk P d last fd env w0 S) (hdP : ∀ x l, P x → P (d x l).1) :
    ∀ (l : List St) (x : T) (v : V) (A : Option Addr) (m c n : Nat) (w : World), Below w0.heap.size w0 w → P x → IsV w S x v → (A = none → c = 0) → n + m ≤ c → n + m ≤ 1000000 → l.length = m → StepsIn w (A.map (·.add (n * 3))) l → (∀ s ∈ l, s.T.length ≤ 100000) →
    Calls Tryz.prog 67 #[v.a, .slice A (n + m) c, .int .i64 n, .int .i64 last, .func (.func fd) #[] env] w (ToldOut w S (chgL d last x l n))
  | l, x, v, A, m, c, n, w, hw0, hx, hv, hA, hm, hc, hlen, hL, hts => by
    by_cases hl : m ≤ last
    · exact change_end d x v A l m c n last fd env S w0 w hS hw0 hx hv hA hm hc hlen hl hL hts he hd
    · match l, hlen, hL, hts with
      | [], hlen, _, _ => simp at hlen; omega
      | s :: l, hlen, hL, hts =>
        obtain ⟨ad', e, -⟩ := hL (by simp)
        cases A with
        | none => cases e
        | some ad =>
          refine change_go G d x v ad s l m c n last fd env S w0 w hS hw0 hx hv hm hc (by omega) (hts s (by simp)) hL (fun W u hW hu => ?_) (chgL_P G hdP _ _ _ (G.getP x s hx)) (by omega)
          have hll : l.length = m - 1 := by simp at hlen; omega
          have := change_any G d last fd env S w0 hS he hd hdP l (getT x s).1 u (some ad) (m - 1) c (n + 1) W (hw0.trans (hW.mono hw0.size)) (G.getP x s hx) hu (fun h => nomatch h) (by omega) (by omega) hll (by
            have h1 := (StepsIn.tail hL).below hW
            rw [add_of_add] at h1
            simpa [Nat.add_mul] using h1) (fun s' hs' => hts s' (by simp [hs']))
          rw [show n + 1 + (m - 1) = n + m by omega, show ((n + 1 : Nat) : Int) = (n : Int) + 1 by omega] at this
          exact this
termination_by l => l.length
set_option maxRecDepth 100000 in
set_option maxHeartbeats 4000000 in
theorem put_any {P : T → Prop} (G : GSok P) (x y : T) (v u : V) (A : Option Addr) (c : Nat) (l : List St) (S : Nat → Prop) (w : World) (hx : P x) (hy : P y) (hv : IsV w S x v) (hu : IsV w S y u) (hA : A = none → c = 0) (hc : l.length ≤ c) (hn : l.length ≤ 1000000) (hl : StepsIn w A l) (ht : ∀ s ∈ l, s.T.length ≤ 100000) :
    Calls Tryz.prog 40 #[v.a, .slice A l.length c, u.a] w (ToldOut w S (chgL (putD y) 1 x l 0)) := by
  have HV := Lib.hid hv.bound
  have HU := Lib.hid hu.bound
  have HL := Lib.hid hl
  have HT := Lib.hid ht
  have HC : Hid (∀ (w0 : World) (hb : Below w.heap.size w w0), VB w0 (w.heap.size + 1) u → Calls Tryz.prog 67 #[v.a, .slice A l.length c, .int .i64 0, .int .i64 1, .func (.func 80) #[] #[.pointer (some ⟨w.heap.size + 1, 0, none⟩)]] w0 (ToldOut w0 (fun k => S k ∧ k < w.heap.size) (chgL (putD y) 1 x l 0))) := Lib.hid (fun w0 hb hvb => by
    have := change_any G (putD y) 1 80 #[.pointer (some ⟨w.heap.size + 1, 0, none⟩)] (fun k => S k ∧ k < w.heap.size) w0 (fun k h => Nat.lt_of_lt_of_le h.2 hb.size) (enters_of Tryz.func80 (by kernel_rfl) rfl)
      (fun W hW x' v' A' l' c' hx' hv' hl' ht' hl2 => put1_any G x' y v' u (w.heap.size + 1) A' l'.length c' l' (fun k => S k ∧ k < w.heap.size) W rfl hx' hy hv' ((HU.out.keeps (.of_below hb)).keeps (.of_below hW)) (Blk.below hvb hW (Blk.lt hvb)) hl' ht' (by omega))
      (fun x' l' hx' => by cases l' with
        | nil => exact hy
        | cons s l' => exact G.setP x' y s hx' hy) l x v A l.length c 0 w0 (Below.refl _ _) hx (HV.out.keeps (.of_below hb)) hA (by omega) (by omega) rfl (by
          have h1 := HL.out.below hb
          cases A with
          | none => exact h1
          | some ad => simpa [Addr.add] using h1) HT.out
    simpa using this)
  clear hv hu hl ht hx hy
  obtain ⟨R, hR⟩ : ∃ R, R = chgL (putD y) 1 x l 0 := ⟨_, rfl⟩
  rw [← hR] at HC ⊢
  clear hR
  simp only [V.a] at HC ⊢
  go_enter Tryz.func40, Tryz.ntmps40
  go_wp2_with fail
  refine calls_at fun W hW => ?_
  obtain ⟨hB, hz, -, HX, HO⟩ := boxes3 (t3 := 42) (c3 := V.z.l.toArray) hW
  have HZ := Lib.hid hz
  clear hW
  refine (HC.out W hB HX).mono ?_
  rintro e w2 ⟨u2, x2, rfl, hu2, hx2, hb2⟩
  have KU := Lib.hid hu2
  have KX := Lib.hid hx2
  have KO := Lib.hid (HO.below hb2 HO.lt)
  have KB := Lib.hid (hB.trans (hb2.mono hB.size))
  clear HX HO hB hu2 hx2 hb2 HC
  go_wp2_with (first
    | (refine wpList_stE (E := eV) rfl rfl infoV11 rfl u2 KO.out rfl rfl ?_; intro w8 HR8 ho8 hB8)
    | fail)
  exact ret_ct (p := 6) (u := 7) rfl rfl rfl HR8.out (by kernel_rfl) rfl ⟨u2, x2, rfl, (KU.out.keeps (w' := w8) (fun k hk hs => ho8 k (by have := HZ.out; rcases hs with h | h; have := h.2; omega; omega))).more (fun k h => by have := HZ.out; rcases h with h | h; exact .inl h.1; exact .inr (by omega)), KX.out.imp_right fun h => h.far_ ho8 KO.out (by decide), hB8 _ _ KB.out (by omega)⟩
/-- Plain trees, not too large. -/
def PlP (x : T) : Prop := Pl x ∧ x.nodes ≤ 16384 ∧ x.depth ≤ 64
theorem pl_kind {x : T} (h : Pl x) : x.k ≤ 4 := by
  obtain ⟨k, i, t, ks, xs⟩ := x
  rw [Pl] at h
  rcases h with ⟨h, -⟩ | ⟨rfl, -⟩
  · rcases h with h | h | h | h <;> simp only [T.k] <;> omega
  · exact Int.le_refl _
theorem pl_parts {x : T} (h : Pl x) : Pls x.xs := by
  obtain ⟨k, i, t, ks, xs⟩ := x
  rw [Pl] at h
  rcases h with ⟨-, -, rfl⟩ | ⟨-, -, -, -, h⟩
  · rw [T.xs, Pls]; trivial
  · exact h
theorem pl_z : PlP T.z := ⟨by rw [T.z, Pl]; exact .inl ⟨.inl ⟨rfl, rfl, rfl⟩, rfl, rfl⟩, by decide, by decide⟩
theorem Pls.mk' : ∀ {xs : List T}, (∀ (i : Nat) (x : T), xs[i]? = some x → Pl x) → Pls xs
  | [], _ => by rw [Pls]; trivial
  | x :: xs, h => by rw [Pls]; exact ⟨h 0 x rfl, Pls.mk' fun i y hy => h (i + 1) y (by simpa using hy)⟩
theorem pl_get {x : T} (s : St) (h : PlP x) : PlP (getT x s).1 := by
  by_cases hf : fitsT x s = 0
  · cases hi : idxT x s with
    | none => rw [get_none hf hi]; exact pl_z
    | some j =>
      rw [get_some hf hi]
      by_cases hj : j < x.xs.length
      · have hy : x.xs[j]? = some x.xs[j] := List.getElem?_eq_getElem hj
        rw [List.getD_eq_getElem?_getD, hy]
        have h1 := nodesL_mem (List.mem_of_getElem? hy)
        have h2 := depthL_mem (List.mem_of_getElem? hy)
        have h3 := x.nodes_eq
        have h4 := x.depth_eq
        have := h.2
        exact ⟨(pl_parts h.1).at_ hy, by simp only [Option.getD_some]; omega, by simp only [Option.getD_some]; omega⟩
      · rw [List.getD_eq_getElem?_getD, List.getElem?_eq_none (by omega)]; exact pl_z
  · rw [getT, if_pos hf]; exact pl_z
theorem pl_within {x : T} (h : Pl x) : PlP (withinT x).1 := by
  unfold withinT
  split
  · exact pl_z
  · split
    · exact pl_z
    · exact ⟨h, by show x.nodes ≤ 16384; omega, by show x.depth ≤ 64; omega⟩
theorem pl_set {x y : T} (s : St) (h : PlP x) (hy : PlP y) : PlP (setT x s y).1 := by
  by_cases hf : fitsT x s = 0
  · have hk := pl_kind h.1
    have h4 : x.k = 4 := by have := fits_zero hf; omega
    cases hi : idxT x s with
    | none => rw [set_none hf h4 hi]; exact pl_z
    | some j =>
      rw [set_at hf (by omega) hi]
      refine pl_within ?_
      have hp := pl_parts h.1
      obtain ⟨k, i, t, ks, xs⟩ := x
      have h1 := h.1
      rw [Pl] at h1
      rcases h1 with ⟨h1, rfl, rfl⟩ | ⟨rfl, rfl, rfl, rfl, h1⟩
      · simp only [T.k] at h4; subst h4; rcases h1 with h1 | h1 | h1 | h1 <;> omega
      · rw [Pl]
        refine .inr ⟨rfl, rfl, rfl, rfl, Pls.mk' fun i z hz => ?_⟩
        rw [List.getElem?_set] at hz
        split at hz
        · split at hz
          · cases hz; exact hy.1
          · cases hz
        · exact h1.at_ hz
  · rw [setT, if_pos hf]; exact pl_z
theorem gsPl : GSok PlP where
  get x v s S w h hv ht := vget_any x v s S w hv (pl_kind h.1) (by omega) h.2.1
  getP x s h := pl_get s h
  set x y v u s S w h hy hv hu ht := vset_any x y v u s S w hv hu (pl_kind h.1) (by omega) h.2.1 (by have := h.2.2; omega) hy.2.1 (by have := hy.2.2; omega)
  setP x y s h hy := pl_set s h hy
  z := pl_z
end Go.Proofs.YtfcegalckjeafaaGreatDoor
