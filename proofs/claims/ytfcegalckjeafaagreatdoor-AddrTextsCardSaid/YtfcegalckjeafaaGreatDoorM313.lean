/-
  Parts of the proof that AddrBegins,AddrTexts calls on: Vn, Wa, Wb, Wc.
-/
import Derived.Test.YtfcegalckjeafaaGreatDoorM310
import Derived.Test.YtfcegalckjeafaaGreatDoorM311
import Derived.Test.YtfcegalckjeafaaGreatDoorM312
namespace Go.Proofs.YtfcegalckjeafaaGreatDoor
open Go.RowKit Go.BigFrame Go.Shelf
theorem nodesL_take {xs : List T} {k : Nat} {x : T} (h : xs[k]? = some x) : nodesL (xs.take (k + 1)) = nodesL (xs.take k) + x.nodes ∧ nodesL (xs.take (k + 1)) ≤ nodesL xs := by
  have e : xs.take (k + 1) = xs.take k ++ [x] := by rw [List.take_add_one, h]; rfl
  refine ⟨by rw [e, nodesL_app]; simp [nodesL], ?_⟩
  have h2 := nodesL_app (xs.take (k + 1)) (xs.drop (k + 1))
  rw [List.take_append_drop] at h2
  omega
set_option maxRecDepth 100000 in
set_option maxHeartbeats 8000000 in
theorem make_vec (xs : List T) (ih : ∀ (i : Nat) (x : T), xs[i]? = some x → MakeOk x) : MakeOk (.mk 4 0 [] [] xs) := by
  intro r S g n d cs cb w ht hSg hg hn hd
  have htb := ht.bound
  rw [IsTr] at htb
  obtain ⟨rk, ri, rt, kA, kn, kc, xA, xn, xc⟩ := r
  obtain ⟨e1, e2, e3, e4, -, -, e5, hxc, rs, hrd, hrs⟩ := htb
  simp only [List.length_nil] at e1 e2 e3 e4 e5 hxc hrd
  subst e1 e2 e3 e4 e5
  have hN : n + (nodesL xs + 1) ≤ 16384 := by simpa [T.nodes] using hn
  have hD : d + (depthL xs + 1) ≤ 65 := by simpa [T.depth] using hd
  have hlen := len_nodesL xs
  have hl1 : xs.length ≤ 16384 := by omega
  have hn1 : (n : Int) + 1 ≤ 16384 := by omega
  have hd1 : (d : Int) ≤ 64 := by omega
  have HO := Lib.hid (fun W => own_vec kA xA xs.length kc xc W)
  have HRS := Lib.hid hrs
  have HRD := Lib.hid hrd
  have HIH := Lib.hid ih
  have HLN := Lib.hid hlen
  have hgl := hg.lt
  have hgl1 : g < w.heap.size + 1 := by omega
  have hgl2 : g < w.heap.size + 1 + 1 := by omega
  have g0 := hg.cell 0
  have gf := hg.frozen 0
  have HG := Lib.hid hg
  simp only [List.getElem?_toArray, List.getElem?_cons_zero] at g0
  clear hn hd hg ht hrs hrd ih hlen
  simp only [TR.a]
  go_enter Tryz.func86, Tryz.ntmps86
  go_wp2_with fail
  refine calls_at fun W hW => ?_
  obtain ⟨hB, hz, HCf, HT, HO8⟩ := boxes3 hW
  have hsz : (w.setCell ⟨g, 0, none⟩ (.int .i64 ((n : Int) + 1))).heap.size = w.heap.size := by simp
  have hG1 : Blk (w.setCell ⟨g, 0, none⟩ (.int .i64 ((n : Int) + 1))) g 133 #[.int .i64 ((n : Int) + 1)] := by simpa using HG.out.set_ 0 (.int .i64 ((n : Int) + 1))
  have hch := chg_trans (chg_set w g 0 (.int .i64 ((n : Int) + 1))) (chg_below hB)
  have hG2 := hG1.below hB hG1.lt
  rw [hsz] at hz HCf HT HO8
  have KEEP : Hid (∀ W', Below W.heap.size W W' → w.grownBy W' (some g) ∧ Blk W' g 133 #[.int .i64 ((n : Int) + 1)] ∧ Blk W' w.heap.size 24 #[.int .u64 cs, .int .i64 cb] ∧ Blk W' (w.heap.size + 1) 28 #[.int .i64 4, .int .i64 0, .string ⟨#[]⟩, .slice kA 0 kc, .slice xA xs.length xc] ∧ Blk W' (w.heap.size + 1 + 1) 42 V.z.l.toArray) := Lib.hid fun W' h => ⟨chg_trans hch (chg_below h), hG2.below h hG2.lt, HCf.below h HCf.lt, HT.below h HT.lt, HO8.below h HO8.lt⟩
  have HZ := Lib.hid hz
  clear hW hB hz HCf HT HO8 hsz hG1 hch hG2 g0 gf HG hgl1 hgl2
  refine (HO.out _).mono ?_
  rintro e w1 ⟨rfl, hb1⟩
  obtain ⟨kc1, kg, kcf, kt, ko⟩ := KEEP.out _ hb1
  have c0 := kt.cell 0
  have c4 := kt.cell 4
  simp only [List.getElem?_toArray, List.getElem?_cons_succ, List.getElem?_cons_zero] at c0 c4
  have hw1 : w.heap.size + 3 ≤ w1.heap.size := by have := HZ.out; have := hb1.size; omega
  have KT := Lib.hid kt
  have KC := Lib.hid kc1
  have KG := Lib.hid kg
  have KF := Lib.hid kcf
  have KO := Lib.hid ko
  clear kt kc1 kg kcf ko KEEP HO hb1 HZ
  go_wp2_with fail
  go_loopw [11, 55] (fun v i wr => ∃ (k : Nat) (us : List V), k ≤ xs.length ∧ i = .int .i64 k ∧ us.length = k ∧ Hid (wr.ownsRow (w.heap.size + 3) 42 11 v us.length (flat us)) ∧ Hid (IsVs wr (fun b => w.heap.size + 3 ≤ b ∧ b < wr.heap.size ∧ some b ≠ v.ownBlock) (xs.take k) us) ∧ Hid (Blk wr g 133 #[.int .i64 ((n + 1 + nodesL (xs.take k) : Nat) : Int)]) ∧ Hid (w.grownBy wr (some g)) ∧ Hid (w.heap.size + 3 ≤ wr.heap.size) ∧ Hid (Blk wr w.heap.size 24 #[.int .u64 cs, .int .i64 cb] ∧ Blk wr (w.heap.size + 1) 28 #[.int .i64 4, .int .i64 0, .string ⟨#[]⟩, .slice kA 0 kc, .slice xA xs.length xc] ∧ Blk wr (w.heap.size + 1 + 1) 42 V.z.l.toArray)) (fun _ i _ => (xs.length - intOf i).toNat)
  case atStart => exact ⟨0, [], Nat.zero_le _, rfl, rfl, World.ownsRow_nil _ _ _ _, by rw [List.take_zero, Hid, IsVs], by simpa [nodesL] using KG, KC, hw1, KF.out, KT.out, KO.out⟩
  case round =>
    obtain ⟨k, us, hk, rfl, hul, hO, hV, hGk, hC, hsz, hK⟩ := hrel
    subst hul
    by_cases hlt : us.length < xs.length
    · obtain ⟨A0, c0', rfl, hcap⟩ := own_shape hO.out
      obtain ⟨x, hx⟩ : ∃ x, xs[us.length]? = some x := ⟨_, List.getElem?_eq_getElem hlt⟩
      obtain ⟨rl, hrl, htr⟩ := HRS.out.some hx
      have hKS : Keeps (fun k => S k ∧ k < w.heap.size) w wr := .of_grown hC.out (fun k hk e => hSg (by cases e; exact hk.1))
      obtain ⟨ad, rfl, -, hcc⟩ := eT.cells (HRD.out.keeps hKS) hrl (by omega)
      have HCC := Lib.hid hcc
      have HTR := Lib.hid (htr.keeps hKS)
      obtain ⟨hkf, hkt, hko⟩ := hK.out
      have f0 := hkf.cell 0
      have f1 := hkf.cell 1
      simp only [List.getElem?_toArray, List.getElem?_cons_succ, List.getElem?_cons_zero] at f0 f1
      have hwl : w.heap.size < wr.heap.size := by have := hsz.out; omega
      obtain ⟨nt1, nt2⟩ := nodesL_take hx
      have hdx := depthL_mem (List.mem_of_getElem? hx)
      have h00 : (0 : Int) ≤ (us.length : Int) := by omega
      have hMK := Lib.hid (fun W' ht' hg' => HIH.out us.length x hx rl (fun k => S k ∧ k < w.heap.size) g (n + 1 + nodesL (xs.take us.length)) (d + 1) cs cb W' ht' (fun h => hSg h.1) hg' (by omega) (by omega))
      have e64 : ((d + 1 : Nat) : Int) = (d : Int) + 1 := by omega
      rw [e64] at hMK
      have HX := Lib.hid hx
      have HNT := Lib.hid nt1
      clear hx hrl htr hKS hcc hkt hko hkf nt1 nt2 hdx e64 hcap
      go_wp2_with (first
        | (refine wpList_ldl rfl (o := ⟨some 58, _, _, _, _, _⟩) rfl rfl rl.l isT HCC.out ?_)
        | (refine wpList_stE (E := eT) (o := ⟨none, .store 28 _ _, _, _, _, _⟩) rfl rfl infoT rfl rl (Blk.new wr _ TR.z.l.toArray) rfl rfl ?_; intro w2 HR2 ho2 hB2; have hb2 := hB2 _ _ ((Below.refl wr.heap.size wr).alloc (Nat.le_refl _) _) (Nat.le_refl _); have f0' := cb' hb2 f0; have f1' := cb' hb2 f1)
        | (refine wpList_ldl rfl (o := ⟨some 62, _, _, _, _, _⟩) rfl rfl rl.l isT (fun j u hu => by have := Blk.cell HR2.out j; rw [at_zero, this]; simpa using (show (eT.l rl)[j]? = some u from hu)) ?_)
        | fail)
      have hg2 := hGk.out.below hb2 hGk.out.lt
      refine (hMK.out w2 (HTR.out.keeps (.of_below hb2)) hg2).mono ?_
      rintro e w3 ⟨v, rfl, hv3, hg3, hc3⟩
      have hc23 := chg_trans (chg_below (r := some g) hb2) hc3
      have HC3 := Lib.hid (chg_trans hC.out hc23)
      have HV3 := Lib.hid hv3.bound
      have HG3 := Lib.hid hg3
      have HO3 := Lib.hid (own_grown hO.out hc23 (fun j e => by cases e; omega))
      have HVS3 := Lib.hid (hV.out.keeps (w' := w3) (.of_grown hc23 (fun b hb e => by cases e; have := hb.1; omega)))
      have HSZ : Hid (w2.heap.size ≤ w3.heap.size ∧ wr.heap.size < w2.heap.size) := Lib.hid ⟨hc3.size, Blk.lt HR2.out⟩
      have HK3 : Hid (Blk w3 w.heap.size 24 #[.int .u64 cs, .int .i64 cb] ∧ Blk w3 (w.heap.size + 1) 28 #[.int .i64 4, .int .i64 0, .string ⟨#[]⟩, .slice kA 0 kc, .slice (some ad) xs.length xc] ∧ Blk w3 (w.heap.size + 1 + 1) 42 V.z.l.toArray) := Lib.hid ⟨hK.out.1.grown hc23 (fun e => by cases e; omega), hK.out.2.1.grown hc23 (fun e => by have := Option.some.inj e; omega), hK.out.2.2.grown hc23 (fun e => by have := Option.some.inj e; omega)⟩
      have HOL : Hid (∀ j, (Value.slice A0 us.length c0').ownBlock = some j → j < wr.heap.size) := Lib.hid fun j e => own_lt hO.out e
      clear hc23 hv3 hg3 hc3 hg2 hb2 f0 f1 f0' f1' hMK HCC HTR hB2 ho2 HR2 hGk hC hO hV hK
      have hw3 : w.heap.size + 3 ≤ w3.heap.size := by have := HSZ.out; have := hsz.out; omega
      go_wp2_with (first
        | (refine wpList_stE (E := eV) (o := ⟨none, .store 42 _ _, _, _, _, _⟩) rfl rfl infoV11 rfl v (Blk.new w3 _ V.z.l.toArray) rfl rfl ?_; intro w4 HR4 ho4 hB4; have hb4 := hB4 _ _ ((Below.refl w3.heap.size w3).alloc (Nat.le_refl _) _) (Nat.le_refl _))
        | (refine wpList_ldl rfl (o := ⟨some 73, _, _, _, _, _⟩) rfl rfl v.l isV (fun j u hu => by have := Blk.cell HR4.out j; rw [at_zero, this]; simpa using (show (eV.l v)[j]? = some u from hu)) ?_; simp only [V.l, sv])
        | (at_builtin; refine wpList_app3 elV (o := ⟨some 75, _, _, _, _, _⟩) rfl rfl (own_below (own_below HO3.out hb4) ((Below.refl _ _).alloc (Nat.le_refl _) _)) rfl (reads_one_V w4 v) rfl (flat_one [v]) (by simp; omega) (by decide) (by have := hb4.size; simp; omega) ?_; intro v5 w5 HO5 HG5 HK5)
        | fail)
      have hb5 : Below w3.heap.size w3 (w4.alloc (.cells v.l.toArray 42)) := hb4.alloc hb4.size _
      have hz5 := hb5.size
      have hzz : (w4.alloc (.cells v.l.toArray 42)).heap.size ≤ w5.heap.size := HG5.out.size
      replace HG5 : Hid ((w4.alloc (.cells v.l.toArray 42)).grownBy w5 (Value.slice A0 us.length c0').ownBlock) := HG5
      replace HK5 : Hid (v5.ownBlock = (Value.slice A0 us.length c0').ownBlock ∨ v5.ownBlock = some (w4.alloc (.cells v.l.toArray 42)).heap.size) := HK5
      have hsz2 := HSZ.out
      have hwsz := hsz.out
      have hown : ∀ j, (Value.slice A0 us.length c0').ownBlock = some j → w.heap.size + 3 ≤ j ∧ j < wr.heap.size := fun j e => ⟨own_base HO3.out e, HOL.out j e⟩
      have hgo : some g ≠ (Value.slice A0 us.length c0').ownBlock := fun e => by have := hown g e.symm; omega
      have hbo : ∀ k, k < w.heap.size + 3 → some k ≠ (Value.slice A0 us.length c0').ownBlock := fun k hk e => by have := hown k e.symm; omega
      have hC5 : w.grownBy w5 (some g) := chg_tail HC3.out ((hb5.mono (by omega)).grown HG5.out (by omega) (fun k e => by have := hown k e; omega))
      have hg5 : Blk w5 g 133 #[.int .i64 ((n + 1 + nodesL (xs.take (us.length + 1)) : Nat) : Int)] := by
        have := (HG3.out.below hb5 HG3.out.lt).grown HG5.out hgo
        rw [HNT.out, ← Nat.add_assoc]
        exact this
      have hv5 : IsVs w5 (fun b => w.heap.size + 3 ≤ b ∧ b < w5.heap.size ∧ some b ≠ v5.ownBlock) (xs.take (us.length + 1)) (us ++ [v]) := by
        rw [List.take_add_one, HX.out]
        refine IsVs.app ((HVS3.out.keeps (w' := w5) (fun k hk hs => (HG5.out.block k (by omega) hs.2.2).trans (hb5.block k hk))).more (fun b hb => ⟨hb.1, by omega, fun e => ?_⟩)) (IsVs.one ((HV3.out.keeps (w' := w5) (fun k hk hs => (HG5.out.block k (by omega) (fun e => by have := hown k e.symm; omega)).trans (hb5.block k hk))).more (fun b hb => ⟨by omega, by omega, fun e => ?_⟩)))
        · rcases HK5.out with h | h
          · exact hb.2.2 (e.trans h)
          · rw [h] at e; have := Option.some.inj e; omega
        · rcases HK5.out with h | h
          · have := hown b (e.trans h).symm; omega
          · rw [h] at e; have := Option.some.inj e; omega
      obtain ⟨q1, q2, q3⟩ := HK3.out
      exact ⟨⟨us.length + 1, us ++ [v], by omega, by go_num, by simp, by rw [flat_app, List.length_append]; exact HO5, hv5, hg5, hC5, by show _ ≤ _; omega, (q1.below hb5 q1.lt).grown HG5.out (hbo _ (by omega)), (q2.below hb5 q2.lt).grown HG5.out (hbo _ (by omega)), (q3.below hb5 q3.lt).grown HG5.out (hbo _ (by omega))⟩, by simp [intOf]; omega⟩
    · have hel : us.length = xs.length := by omega
      obtain ⟨A0, c0', rfl, hcap⟩ := own_shape hO.out
      obtain ⟨hkf, hkt, hko⟩ := hK.out
      have t0 := hkt.cell 0
      simp only [List.getElem?_toArray, List.getElem?_cons_zero] at t0
      have hnlt : ¬ us.length < xs.length := hlt
      have HOF := Lib.hid (fun W' hW' => of_any A0 c0' us (fun b => w.heap.size + 3 ≤ b) W' (((Reads.of_own hO.out).more (fun _ h => h.1)).keeps (.of_below (w' := W') hW')) hcap (by omega))
      have HKO := Lib.hid hko
      have hv' := hV.out
      rw [hel, List.take_length] at hv'
      have hg' := hGk.out
      rw [hel, List.take_length] at hg'
      have HV := Lib.hid hv'
      have HGK := Lib.hid hg'
      have HD : Hid (depthL xs ≤ 64) := Lib.hid (by omega)
      have HNL : Hid (nodesL xs ≤ 16384) := Lib.hid (by omega)
      have HEL := Lib.hid hel
      clear hkf hkt hko hO hV hGk hv' hg' hK hlt hcap hel
      go_wp2_with fail
      refine (HOF.out wr (Below.refl _ _)).mono ?_
      rintro e w2 ⟨p, rfl, hp, hb2⟩
      have HP := Lib.hid (show IsRope w2 (fun b => w.heap.size + 3 ≤ b) us p from hp.more (fun b hb => by have := hsz.out; rcases hb with h | h <;> omega))
      have HV2 := Lib.hid (HV.out.keeps (w' := w2) (.of_below hb2))
      have HB2 := Lib.hid hb2
      clear hp hb2 HOF HV t0
      go_wp2_with fail
      obtain ⟨sm1, sm2⟩ := smalls_of HV2.out (by have := HD.out; omega) HNL.out
      refine (vector_any us xs p (fun _ => True) w2 (HP.out.more (fun _ _ => trivial)) (HV2.out.more (fun _ _ => trivial)) sm1 sm2).mono ?_
      rintro e w3 ⟨rfl, hb3⟩
      have hb23 := HB2.out.trans (hb3.mono HB2.out.size)
      have HB3 := Lib.hid hb3
      have HB23 := Lib.hid hb23
      have KO3 := Lib.hid (HKO.out.below hb23 HKO.out.lt)
      clear hb3 hb23 sm1 sm2
      go_wp2_with (refine wpList_stE (E := eV) rfl rfl infoV11 rfl ⟨0, 0, [], 4, p, 0, 0, 0, none, depthL xs, nodesL xs⟩ KO3.out rfl rfl ?_; intro w8 HR8 ho8 hB8)
      have hkeep : ∀ k, w.heap.size + 3 ≤ k → k < w2.heap.size → w8.heap[k]? = w2.heap[k]? := fun k h1 h2 => (ho8 k (by omega)).trans (HB3.out.block k h2)
      have hres : IsV w8 (fun k => w.heap.size ≤ k) (.mk 4 0 [] [] xs) ⟨0, 0, [], 4, p, 0, 0, 0, none, depthL xs, nodesL xs⟩ := by
        rw [IsV]
        exact .inr (.inl ⟨rfl, rfl, rfl, rfl, us, p, (HP.out.keeps (w' := w8) (fun k hk hs => hkeep k hs hk)).more (fun b hb => by omega), rfl, (HV2.out.keeps (w' := w8) (fun k hk hs => hkeep k hs.1 hk)).more (fun b hb => by omega)⟩)
      have hgf : Blk w8 g 133 #[.int .i64 ((n + (T.mk 4 0 [] [] xs).nodes : Nat) : Int)] := by
        rw [show n + (T.mk 4 0 [] [] xs).nodes = n + 1 + nodesL xs by simp [T.nodes]; omega]
        exact (ho8 g (by omega)).trans ((HB23.out.block g HGK.out.lt).trans HGK.out)
      exact ret_ct (p := 8) (u := 9) rfl rfl rfl HR8.out (by kernel_rfl) rfl ⟨_, rfl, hres, hgf, chg_tail hC.out (hB8 _ _ (HB23.out.mono (by have := hsz.out; omega)) (by omega))⟩
end Go.Proofs.YtfcegalckjeafaaGreatDoor
namespace Go.Proofs.YtfcegalckjeafaaGreatDoor
open Go.RowKit Go.BigFrame Go.Shelf
mutual
theorem makeOk : ∀ (x : T), Pl x → MakeOk x
  | .mk k i t ks xs, h => by
    rw [Pl] at h
    rcases h with ⟨h, rfl, rfl⟩ | ⟨rfl, rfl, rfl, rfl, h⟩
    · exact make_leaf k i t h
    · exact make_vec xs (makesOk xs h)
theorem makesOk : ∀ (xs : List T), Pls xs → ∀ (i : Nat) (x : T), xs[i]? = some x → MakeOk x
  | [], _, i, x, h => by simp at h
  | y :: xs, h, i, x, hx => by
    rw [Pls] at h
    cases i with
    | zero => simp at hx; subst hx; exact makeOk y h.1
    | succ i => exact makesOk xs h.2 i x (by simpa using hx)
end
set_option maxRecDepth 100000 in
set_option maxHeartbeats 4000000 in
theorem vof_any (x : T) (r : TR) (S : Nat → Prop) (cs cb : Int) (w : World) (hm : MakeOk x) (ht : IsTr w S x r) (hn : x.nodes ≤ 16384) (hd : x.depth ≤ 64) :
    Calls Tryz.prog 46 #[.agg #[.int .u64 cs, .int .i64 cb], r.a] w fun e w' => ∃ v, e = .returned (.tuple #[V.a v, .int .i64 0]) ∧ IsV w' (fun k => w.heap.size ≤ k) x v ∧ Below w.heap.size w w' := by
  have HT := Lib.hid ht.bound
  have HM := Lib.hid hm
  clear ht hm
  obtain ⟨rk, ri, rt, kA, kn, kc, xA, xn, xc⟩ := r
  simp only [TR.a]
  go_enter Tryz.func46, Tryz.ntmps46
  go_wp2_with fail
  refine calls_at fun W hW => ?_
  obtain ⟨hB, hz, -, -, HO, HG⟩ := boxes4 (t3 := 42) (c3 := V.z.l.toArray) hW
  have HB := Lib.hid hB
  have HZ := Lib.hid hz
  clear hW
  refine (HM.out ⟨rk, ri, rt, kA, kn, kc, xA, xn, xc⟩ _ (w.heap.size + 1 + 1 + 1) 0 1 cs cb W (HT.out.keeps (.of_below hB)) (fun h => by have := h.2; omega) HG (by omega) (by omega)).mono ?_
  rintro e w2 ⟨v, rfl, hv, -, hc⟩
  have HV := Lib.hid hv.bound
  have HO2 := Lib.hid (HO.grown hc (fun e => by have := Option.some.inj e; omega))
  have HB2 := Lib.hid (hB.grown hc (by omega) (fun r e => by cases e; omega))
  have hz2 := hc.size
  clear hv hc HO hB HG HT HM
  simp only [V.a]
  go_wp2_with (first
    | (refine wpList_stE (E := eV) rfl rfl infoV11 rfl v HO2.out rfl rfl ?_; intro w8 HR8 ho8 hB8)
    | fail)
  refine ret_ct (p := 4) (u := 5) rfl rfl rfl HR8.out (by kernel_rfl) rfl ⟨v, rfl, (HV.out.keeps (w' := w8) (fun k hk hs => ho8 k (by have := hs.1; omega))).more (fun k h => by have := h.1; omega), hB8 _ _ HB2.out (by omega)⟩
set_option maxRecDepth 100000 in
set_option maxHeartbeats 4000000 in
theorem lof_any (x : T) (r : TR) (S : Nat → Prop) (cs cb : Int) (w : World) (hm : MakeOk x) (ht : IsTr w S x r) (hn : x.nodes ≤ 16384) (hd : x.depth ≤ 64) :
    Calls Tryz.prog 14 #[.agg #[.int .u64 cs, .int .i64 cb], r.a] w fun e w' => ∃ v, e = .returned (V.a v) ∧ IsV w' (fun k => w.heap.size ≤ k) x v ∧ Below w.heap.size w w' := by
  have HT := Lib.hid ht.bound
  have HM := Lib.hid hm
  clear ht hm
  obtain ⟨rk, ri, rt, kA, kn, kc, xA, xn, xc⟩ := r
  simp only [TR.a]
  go_enter Tryz.func14, Tryz.ntmps14
  go_wp2_with fail
  refine calls_at fun W hW => ?_
  obtain ⟨hB, hz, -, -, HO⟩ := boxes3 (t3 := 42) (c3 := V.z.l.toArray) hW
  have HB := Lib.hid hB
  have HZ := Lib.hid hz
  clear hW
  refine (vof_any x ⟨rk, ri, rt, kA, kn, kc, xA, xn, xc⟩ _ cs cb W HM.out (HT.out.keeps (.of_below hB)) hn hd).mono ?_
  rintro e w2 ⟨v, rfl, hv, hb2⟩
  have HV := Lib.hid hv.bound
  have HO2 := Lib.hid (HO.below hb2 HO.lt)
  have HB2 := Lib.hid (hB.trans (hb2.mono hB.size))
  have hz2 := hb2.size
  clear hv hb2 HO hB HT HM
  simp only [V.a]
  go_wp2_with (first
    | (refine wpList_stE (E := eV) (o := ⟨none, .store 42 (.tmp 5) _, _, _, _, _⟩) rfl rfl infoV11 rfl v (Blk.new' (by simp)) rfl rfl ?_; intro w6 HR6 ho6 hB6)
    | (refine wpList_ldl rfl (o := ⟨some 13, _, _, _, _, _⟩) rfl rfl v.l isV (fun j u hu => by have := Blk.cell HR6.out j; rw [at_zero, this]; simpa using (show (eV.l v)[j]? = some u from hu)) ?_)
    | (have HO6 := HO2.out.below (hB6 _ _ ((Below.refl w2.heap.size w2).alloc (Nat.le_refl _) (.cells V.z.l.toArray 42)) (Nat.le_refl _)) HO2.out.lt; refine wpList_stE (E := eV) (o := ⟨none, .store 42 (.tmp 4) _, _, _, _, _⟩) rfl rfl infoV11 rfl v HO6 rfl rfl ?_; intro w8 HR8 ho8 hB8)
    | fail)
  have hb6 := hB6 _ _ ((Below.refl w2.heap.size w2).alloc (Nat.le_refl _) (.cells V.z.l.toArray 42)) (Nat.le_refl _)
  refine ret_c (p := 4) rfl rfl rfl HR8.out (by kernel_rfl) ⟨v, rfl, (HV.out.keeps (w' := w8) (fun k hk hs => (ho8 k (by have := hs.1; omega)).trans (hb6.block k hk))).more (fun k h => by have := h.1; omega), hB8 _ _ (HB2.out.trans (hb6.mono HB2.out.size)) (by omega)⟩
end Go.Proofs.YtfcegalckjeafaaGreatDoor
namespace Go.Proofs.YtfcegalckjeafaaGreatDoor
open Go.RowKit Go.BigFrame Go.Shelf
set_option maxRecDepth 100000 in
set_option maxHeartbeats 4000000 in
theorem hget_nil (seed b n : Int) (k : List UInt8) (w : World) (hs : U seed) (hk : k.length ≤ 1152921504606846968) :
    Calls Tryz.prog 101 #[.agg #[.int .u64 seed, .int .i64 b, .int .i64 n, .pointer none], sv k] w (GotOut w V.z false) := by
  have HC := Lib.hid (fun W => hsum_any seed b n none k W hs hk)
  clear hs hk
  simp only [sv] at HC ⊢
  go_enter Tryz.func101, Tryz.ntmps101
  go_wp2_with fail
  refine wp_at fun W hW => ?_
  obtain ⟨hB, hz, HM, HO, HX⟩ := boxes3 (t2 := 42) (c2 := V.z.l.toArray) (t3 := 42) (c3 := V.z.l.toArray) hW
  have HZ := Lib.hid hz
  have KEEP : Hid (∀ W', Below W.heap.size W W' → Below w.heap.size w W' ∧ Blk W' w.heap.size 40 #[.int .u64 seed, .int .i64 b, .int .i64 n, .pointer none] ∧ VB W' (w.heap.size + 1) V.z ∧ VB W' (w.heap.size + 1 + 1) V.z) := Lib.hid fun W' h => ⟨hB.trans (h.mono hB.size), HM.below h HM.lt, Blk.below HO h HO.lt, Blk.below HX h HX.lt⟩
  clear hW hB HM HO HX
  have K0 := KEEP.out W.drew (Below.refl _ _).drew
  refine wp_region_sq 6 [(0, true), (1, true), (3, true), (4, true), (2, false), (5, true)] (fun w' => Blk w' w.heap.size 40 #[.int .u64 seed, .int .i64 b, .int .i64 n, .pointer none] ∧ w'.cell? ⟨w.heap.size, 3, none⟩ = some (.pointer none)) (by kernel_rfl) (by kernel_rfl) ⟨K0.2.1, K0.2.1.cell 3⟩ (fun hS => ?_)
  refine sq_t (o := ⟨_, _, _, _, _, _⟩) (v := .agg #[.int .u64 seed, .int .i64 b, .int .i64 n, .pointer none]) rfl (by rfl) (fun w' hw' => exec_load_list (cs := [.int .u64 seed, .int .i64 b, .int .i64 n, .pointer none]) (by kernel_rfl) rfl (by simp [Act.eval]; rfl) (fun j u hu => by have := hw'.1.cell j; rw [at_zero, this]; simpa using hu)) ?_
  try simp only [Act.put, List.setIfInBounds_toArray, List.set_cons_zero, List.set_cons_succ]
  iterate 3 (refine sq_t (o := ⟨_, _, _, _, _, _⟩) (v := ?_) rfl (by rfl) ?_ ?_; rotate_left; (· (intro w hSw; (try dsimp only at hSw); obtain ⟨-, hS1⟩ := hSw; go_simp; try with_reducible rfl)); try simp only [Act.put, List.setIfInBounds_toArray, List.set_cons_zero, List.set_cons_succ])
  refine sq_c rfl (fun K hK => ?_)
  go_simp
  refine (HC.out _).mono ?_
  rintro e w4 ⟨rfl, hb4⟩
  obtain ⟨k1, k2, k3, k4⟩ := KEEP.out w4 ((Below.refl _ _).drew.trans hb4)
  refine hK.out _ _ ⟨k2, k2.cell 3⟩ (fun hS => ?_)
  clear hK K
  have KB := Lib.hid k1
  have KO := Lib.hid k3
  have KX := Lib.hid k4
  clear k1 k2 k3 k4 hS K0 KEEP hb4
  try simp only [Act.put, List.setIfInBounds_toArray, List.set_cons_zero, List.set_cons_succ]
  iterate 1 (refine sq_t (o := ⟨_, _, _, _, _, _⟩) (v := ?_) rfl (by rfl) ?_ ?_; rotate_left; (· (intro w hSw; (try dsimp only at hSw); obtain ⟨-, hS1⟩ := hSw; go_simp; try with_reducible rfl)); try simp only [Act.put, List.setIfInBounds_toArray, List.set_cons_zero, List.set_cons_succ])
  simp only [wpSq, List.drop_succ_cons, List.drop_zero]
  go_wp2_with fail
  refine NoPanic.normal ?_
  go_wp2_with fail
  refine wp_loop_rounds 1 ?_
  rw [rounds_succ]
  go_wp2_with (first
    | (refine wpList_ldl rfl (o := ⟨some 57, _, _, _, _, _⟩) rfl rfl V.z.l isV (fun j u hu => by have := Blk.cell KX.out j; rw [at_zero, this]; simpa using hu) ?_)
    | (refine wpList_stE (E := eV) rfl rfl infoV11 rfl V.z KO.out rfl rfl ?_; intro w8 HR8 ho8 hB8)
    | fail)
  exact ret_ct (p := 4) (u := 5) rfl rfl rfl HR8.out (by kernel_rfl) rfl ⟨rfl, hB8 _ _ KB.out (by omega)⟩
set_option maxRecDepth 100000 in
set_option maxHeartbeats 2000000 in
theorem within_any (x : T) (v : V) (w : World) (hb : v.bel = (depthL x.xs : Int)) (hm : v.mor = (nodesL x.xs : Int)) (h1 : Cn v.bel) (h2 : Cn v.mor) :
    Calls Tryz.prog 110 #[v.a] w fun e w' => e = .returned (.tuple #[(if (withinT x).2 = 0 then v else V.z).a, .int .i64 (withinT x).2]) ∧ Below w.heap.size w w' := by
  have HD := Lib.hid (fun W => depth_any v W h1)
  have HN := Lib.hid (fun W => nodes_any v W h2)
  obtain ⟨R, hR⟩ : ∃ R, R = (withinT x).2 := ⟨_, rfl⟩
  rw [← hR]
  have hdx := x.depth_eq
  have hnx := x.nodes_eq
  by_cases c1 : 64 < v.bel + 1
  · obtain rfl : R = 7 := by rw [hR, withinT, if_pos (by omega)]
    clear hR hdx hnx hb hm h1 h2
    rw [if_neg (by decide)]
    obtain ⟨sk, si, st, kd, vec, seed, bits, n, dic, bel, mor⟩ := v
    simp only [V.a] at HD HN c1 ⊢
    go_enter Tryz.func110, Tryz.ntmps110
    go_wp2_with fail
    refine calls_at fun W hW => ?_
    obtain ⟨hB, hz, HV, HO⟩ := boxes2 (t2 := 42) (c2 := V.z.l.toArray) hW
    refine (HD.out W).mono ?_
    rintro e w2 ⟨rfl, hb2⟩
    have HO2 := Lib.hid (HO.below hb2 HO.lt)
    have HB2 := Lib.hid (hB.trans (hb2.mono hB.size))
    clear hW hb2 hB HO HV HD HN
    go_wp2_with (first
      | (refine wpList_stE (E := eV) rfl rfl infoV11 rfl V.z HO2.out rfl rfl ?_; intro w8 HR8 ho8 hB8)
      | fail)
    exact ret_ct (p := 2) (u := 3) rfl rfl rfl HR8.out (by kernel_rfl) rfl ⟨rfl, hB8 _ _ HB2.out (by omega)⟩
  by_cases c2 : 16384 < v.mor + 1
  · obtain rfl : R = 8 := by rw [hR, withinT, if_neg (by omega), if_pos (by omega)]
    clear hR hdx hnx hb hm h1 h2
    rw [if_neg (by decide)]
    obtain ⟨sk, si, st, kd, vec, seed, bits, n, dic, bel, mor⟩ := v
    simp only [V.a] at HD HN c1 c2 ⊢
    go_enter Tryz.func110, Tryz.ntmps110
    go_wp2_with fail
    refine calls_at fun W hW => ?_
    obtain ⟨hB, hz, HV, HO⟩ := boxes2 (t2 := 42) (c2 := V.z.l.toArray) hW
    refine (HD.out W).mono ?_
    rintro e w2 ⟨rfl, hb2⟩
    have HO2 := HO.below hb2 HO.lt
    have HV2 := Lib.hid (show VB w2 w.heap.size ⟨sk, si, st, kd, vec, seed, bits, n, dic, bel, mor⟩ from Blk.below HV hb2 HV.lt)
    have HB2 := hB.trans (hb2.mono hB.size)
    have KEEP : Hid (∀ W', Below w2.heap.size w2 W' → Below w.heap.size w W' ∧ VB W' (w.heap.size + 1) V.z) := Lib.hid fun W' h => ⟨HB2.trans (h.mono HB2.size), Blk.below HO2 h HO2.lt⟩
    clear hW hb2 hB HO HV HD HO2 HB2
    go_wp2_with (first
      | (refine wpList_ldl rfl (o := ⟨some 8, _, _, _, _, _⟩) rfl rfl (V.l ⟨sk, si, st, kd, vec, seed, bits, n, dic, bel, mor⟩) isV (fun j u hu => by have := Blk.cell HV2.out j; rw [at_zero, this]; simpa using hu) ?_; simp only [V.l, sv])
      | fail)
    refine (HN.out w2).mono ?_
    rintro e w3 ⟨rfl, hb3⟩
    obtain ⟨k1, k2⟩ := KEEP.out _ hb3
    have KO := Lib.hid k2
    have KB := Lib.hid k1
    clear k1 k2 hb3 KEEP
    go_wp2_with (first
      | (refine wpList_stE (E := eV) rfl rfl infoV11 rfl V.z KO.out rfl rfl ?_; intro w8 HR8 ho8 hB8)
      | fail)
    exact ret_ct (p := 2) (u := 3) rfl rfl rfl HR8.out (by kernel_rfl) rfl ⟨rfl, hB8 _ _ KB.out (by omega)⟩
  · obtain rfl : R = 0 := by rw [hR, withinT, if_neg (by omega), if_neg (by omega)]
    clear hR hdx hnx hb hm h1 h2
    rw [if_pos rfl]
    obtain ⟨sk, si, st, kd, vec, seed, bits, n, dic, bel, mor⟩ := v
    simp only [V.a] at HD HN c1 c2 ⊢
    go_enter Tryz.func110, Tryz.ntmps110
    go_wp2_with fail
    refine calls_at fun W hW => ?_
    obtain ⟨hB, hz, HV, HO⟩ := boxes2 (t2 := 42) (c2 := V.z.l.toArray) hW
    refine (HD.out W).mono ?_
    rintro e w2 ⟨rfl, hb2⟩
    have HO2 := HO.below hb2 HO.lt
    have HV2 := Lib.hid (show VB w2 w.heap.size ⟨sk, si, st, kd, vec, seed, bits, n, dic, bel, mor⟩ from Blk.below HV hb2 HV.lt)
    have HB2 := hB.trans (hb2.mono hB.size)
    have KEEP : Hid (∀ W', Below w2.heap.size w2 W' → Below w.heap.size w W' ∧ VB W' (w.heap.size + 1) V.z ∧ VB W' w.heap.size ⟨sk, si, st, kd, vec, seed, bits, n, dic, bel, mor⟩) := Lib.hid fun W' h => ⟨HB2.trans (h.mono HB2.size), Blk.below HO2 h HO2.lt, Blk.below HV2.out h (Blk.lt HV2.out)⟩
    clear hW hb2 hB HO HV HD HO2 HB2
    go_wp2_with (first
      | (refine wpList_ldl rfl (o := ⟨some 8, _, _, _, _, _⟩) rfl rfl (V.l ⟨sk, si, st, kd, vec, seed, bits, n, dic, bel, mor⟩) isV (fun j u hu => by have := Blk.cell HV2.out j; rw [at_zero, this]; simpa using hu) ?_; simp only [V.l, sv])
      | fail)
    refine (HN.out w2).mono ?_
    rintro e w3 ⟨rfl, hb3⟩
    obtain ⟨k1, k2, k3⟩ := KEEP.out _ hb3
    have KO := Lib.hid k2
    have KB := Lib.hid k1
    have KV := Lib.hid k3
    clear k1 k2 k3 hb3 KEEP HV2
    go_wp2_with (first
      | (refine wpList_ldl rfl (o := ⟨some 12, _, _, _, _, _⟩) rfl rfl (V.l ⟨sk, si, st, kd, vec, seed, bits, n, dic, bel, mor⟩) isV (fun j u hu => by have := Blk.cell KV.out j; rw [at_zero, this]; simpa using hu) ?_)
      | (refine wpList_stE (E := eV) rfl rfl infoV11 rfl ⟨sk, si, st, kd, vec, seed, bits, n, dic, bel, mor⟩ KO.out rfl rfl ?_; intro w8 HR8 ho8 hB8)
      | fail)
    exact ret_ct (p := 2) (u := 3) rfl rfl rfl HR8.out (by kernel_rfl) rfl ⟨rfl, hB8 _ _ KB.out (by omega)⟩
end Go.Proofs.YtfcegalckjeafaaGreatDoor
namespace Go.Proofs.YtfcegalckjeafaaGreatDoor
open Go.RowKit Go.BigFrame Go.Shelf
def GetOut (w : World) (S : Nat → Prop) (x : T × Int) (e : Ending) (w' : World) : Prop := ∃ u, e = .returned (.tuple #[V.a u, .int .i64 x.2]) ∧ IsV w' S x.1 u ∧ Below w.heap.size w w'
theorem isV_z (w : World) (S : Nat → Prop) : IsV w S T.z V.z := by
  rw [T.z, IsV]
  exact .inl ⟨by decide, .inl ⟨rfl, rfl, rfl⟩, rfl, rfl, rfl⟩
theorem U.zero : U 0 := by unfold U; omega
set_option maxRecDepth 100000 in
set_option maxHeartbeats 4000000 in
theorem vget_bad (x : T) (v : V) (s : St) (S : Nat → Prop) (w : World) (hv : v.kd = x.k) (hk : 0 ≤ x.k ∧ x.k ≤ 6) (hf : fitsT x s ≠ 0) :
    Calls Tryz.prog 56 #[v.a, s.a] w (GetOut w S (getT x s)) := by
  have HF := Lib.hid (fun W => fits_any v x s W hv hk)
  have hg : getT x s = (T.z, fitsT x s) := by rw [getT, if_pos hf]
  rw [hg]
  generalize fitsT x s = c at *
  have hc : (c == 0) = false := by simpa using hf
  clear hg hf hv hk
  obtain ⟨sk, si, st, kd, vec, seed, bits, n, dic, bel, mor⟩ := v
  obtain ⟨K, I, TT⟩ := s
  simp only [V.a, St.a] at HF ⊢
  go_enter Tryz.func56, Tryz.ntmps56
  go_wp2_with fail
  refine calls_at fun W hW => ?_
  obtain ⟨hB, hz, -, -, HO⟩ := boxes3 (t3 := 42) (c3 := V.z.l.toArray) hW
  refine (HF.out W).mono ?_
  rintro e w2 ⟨rfl, hb2⟩
  have HO2 := Lib.hid (HO.below hb2 HO.lt)
  have HB2 := Lib.hid (hB.trans (hb2.mono hB.size))
  clear hW hb2 hB HO HF
  go_wp2_with (first
    | (refine wpList_stE (E := eV) rfl rfl infoV11 rfl V.z HO2.out rfl rfl ?_; intro w8 HR8 ho8 hB8)
    | fail)
  exact ret_ct (p := 4) (u := 5) rfl rfl rfl HR8.out (by kernel_rfl) rfl ⟨V.z, rfl, isV_z _ _, hB8 _ _ HB2.out (by omega)⟩
set_option maxRecDepth 100000 in
set_option maxHeartbeats 4000000 in
theorem vget_vec (i : Int) (TT : List UInt8) (p : Option Addr) (bel mor : Int) (u : V) (c : Bool) (w : World) (hl : TT.length ≤ 1152921504606846968)
    (hG : ∀ W, Below w.heap.size w W → Calls Tryz.prog 102 #[.agg #[.pointer p], .int .i64 i] W (GotOut W u c)) (hu : c = false → u = V.z) :
    Calls Tryz.prog 56 #[V.a ⟨0, 0, [], 4, p, 0, 0, 0, none, bel, mor⟩, St.a ⟨0, i, TT⟩] w fun e w' => e = .returned (.tuple #[u.a, .int .i64 (if c then 0 else 5)]) ∧ Below w.heap.size w w' := by
  have HF := Lib.hid (fun W => fits_any ⟨0, 0, [], 4, p, 0, 0, 0, none, bel, mor⟩ (.mk 4 0 [] [] []) ⟨0, i, TT⟩ W rfl ⟨by decide, by decide⟩)
  have HH := Lib.hid (fun W => hget_nil 0 0 0 TT W U.zero hl)
  have HG := Lib.hid hG
  clear hl hG
  simp only [sv] at HH
  have e0 : fitsT (.mk 4 0 [] [] []) ⟨0, i, TT⟩ = 0 := rfl
  rw [e0] at HF
  clear e0
  simp only [V.a, St.a] at HF ⊢
  go_enter Tryz.func56, Tryz.ntmps56
  go_wp2_with fail
  refine calls_at fun W hW => ?_
  obtain ⟨hB, hz, HV, HS, HO⟩ := boxes3 (t3 := 42) (c3 := V.z.l.toArray) hW
  have HZ := Lib.hid hz
  have KEEP : Hid (∀ W', Below W.heap.size W W' → Below w.heap.size w W' ∧ Blk W' w.heap.size 42 #[.int .i64 0, .int .i64 0, .string ⟨[].toArray⟩, .int .i64 4, .pointer p, .int .u64 0, .int .i64 0, .int .i64 0, .pointer none, .int .i64 bel, .int .i64 mor] ∧ Blk W' (w.heap.size + 1) 48 #[.int .i64 0, .int .i64 i, .string ⟨TT.toArray⟩] ∧ VB W' (w.heap.size + 1 + 1) V.z) := Lib.hid fun W' h => ⟨hB.trans (h.mono hB.size), HV.below h HV.lt, HS.below h HS.lt, Blk.below HO h HO.lt⟩
  refine (HF.out W).mono ?_
  rintro e w2 ⟨rfl, hb2⟩
  obtain ⟨k1, k2, k3, k4⟩ := KEEP.out w2 hb2
  have c5 := k2.cell 5
  have c6 := k2.cell 6
  have c7 := k2.cell 7
  have c8 := k2.cell 8
  have s2 := k3.cell 2
  simp only [List.getElem?_toArray, List.getElem?_cons_succ, List.getElem?_cons_zero] at c5 c6 c7 c8 s2
  have HB2 := Lib.hid hb2
  clear hW hB HO HF HV HS k1 k2 k3 k4 hb2
  go_wp2_with fail
  refine (HH.out w2).mono ?_
  rintro e w3 ⟨rfl, hb3⟩
  have HB3 := Lib.hid (HB2.out.trans (hb3.mono HB2.out.size))
  clear c5 c6 c7 c8 s2 hb3 HB2
  have hz3 := HB3.out.size
  go_wp2_with (first
    | (refine wpList_stE (E := eV) (o := ⟨none, .store 42 (.tmp 7) (.tmp 22), _, _, _, _⟩) rfl rfl infoV11 rfl V.z (Blk.new w3 42 V.z.l.toArray) rfl rfl ?_; intro w6 HR6 ho6 hB6; have HB6 := Lib.hid (hB6 _ _ (HB3.out.alloc hz3 (.cells V.z.l.toArray 42)) hz3); clear ho6 hB6; obtain ⟨-, k2, k3, -⟩ := KEEP.out w6 HB6.out; have c3 := k2.cell 3; have c4 := k2.cell 4; have s1 := k3.cell 1; simp only [List.getElem?_toArray, List.getElem?_cons_succ, List.getElem?_cons_zero] at c3 c4 s1; clear k2 k3)
    | fail)
  obtain ⟨k1, -, -, -⟩ := KEEP.out w6 HB6.out
  refine (HG.out w6 k1).mono ?_
  rintro e w7 ⟨rfl, hb7⟩
  have HR7 := Lib.hid (Blk.below HR6.out hb7 (Blk.lt HR6.out))
  have HB7 := Lib.hid (HB6.out.trans (hb7.mono HB6.out.size))
  clear k1 hb7 HB6 HR6 c3 c4 s1 HG HH
  have hzz := HZ.out
  cases c with
  | true =>
    go_wp2_with (first
      | (refine wpList_stE (E := eV) (o := ⟨none, .store 42 (.tmp 7) _, _, _, _, _⟩) rfl rfl infoV11 rfl u HR7.out rfl rfl ?_; intro w8 HR8 ho8 hB8; have HB8 := Lib.hid (hB8 _ _ HB7.out hz3); clear ho8 hB8)
      | (refine wpList_ldl rfl (o := ⟨some 38, _, _, _, _, _⟩) rfl rfl u.l isV (fun j u' hu => by have := Blk.cell HR8.out j; rw [at_zero, this]; simpa using (show (eV.l u)[j]? = some u' from hu)) ?_)
      | (have HO8 := (KEEP.out _ HB8.out).2.2.2; refine wpList_stE (E := eV) (o := ⟨none, .store 42 (.tmp 4) _, _, _, _, _⟩) rfl rfl infoV11 rfl u HO8 rfl rfl ?_; intro w9 HR9 ho9 hB9)
      | fail)
    exact ret_ct (p := 4) (u := 5) rfl rfl rfl HR9.out (by kernel_rfl) rfl ⟨rfl, hB9 _ _ (KEEP.out _ HB8.out).1 (by omega)⟩
  | false =>
    obtain rfl := hu rfl
    go_wp2_with (first
      | (refine wpList_stE (E := eV) (o := ⟨none, .store 42 (.tmp 7) _, _, _, _, _⟩) rfl rfl infoV11 rfl V.z HR7.out rfl rfl ?_; intro w8 HR8 ho8 hB8; have HB8 := Lib.hid (hB8 _ _ HB7.out hz3); clear ho8 hB8)
      | (have HO8 := (KEEP.out _ HB8.out).2.2.2; refine wpList_stE (E := eV) (o := ⟨none, .store 42 (.tmp 4) _, _, _, _, _⟩) rfl rfl infoV11 rfl V.z HO8 rfl rfl ?_; intro w9 HR9 ho9 hB9)
      | fail)
    exact ret_ct (p := 4) (u := 5) rfl rfl rfl HR9.out (by kernel_rfl) rfl ⟨rfl, hB9 _ _ (KEEP.out _ HB8.out).1 (by omega)⟩
theorem kind_of {w : World} {S : Nat → Prop} {x : T} {v : V} (h : IsV w S x v) : v.kd = x.k ∧ (0 ≤ x.k ∧ x.k ≤ 6) := by
  refine ⟨h.sums.2.2.1, ?_⟩
  obtain ⟨k, i, t, ks, xs⟩ := x
  rw [IsV] at h
  simp only [T.k]
  rcases h with ⟨h, h2, -⟩ | ⟨rfl, -⟩ | ⟨h, -⟩
  · rcases h2 with h2 | h2 | h2 | h2 <;> omega
  · decide
  · omega
theorem fits_zero {x : T} {s : St} (h : fitsT x s = 0) : 0 ≤ s.K ∧ s.K ≤ 2 ∧ x.k = s.K + 4 := by
  unfold fitsT at h
  split at h
  · cases h
  · split at h
    · cases h
    · omega
theorem get_none {x : T} {s : St} (h : fitsT x s = 0) (hi : idxT x s = none) : getT x s = (T.z, 5) := by rw [getT, if_neg (fun e => e h), hi]
theorem get_some {x : T} {s : St} {j : Nat} (h : fitsT x s = 0) (hi : idxT x s = some j) : getT x s = (x.xs.getD j T.z, 0) := by rw [getT, if_neg (fun e => e h), hi]
theorem idx_vec {x : T} {s : St} (h : x.k = 4) : idxT x s = if 0 ≤ s.I ∧ s.I < (x.xs.length : Int) then some s.I.toNat else none := by rw [idxT, if_pos h]
/-- Get, of a scalar or a vector. -/
theorem vget_any (x : T) (v : V) (s : St) (S : Nat → Prop) (w : World) (h : IsV w S x v) (hk : x.k ≤ 4) (hl : s.T.length ≤ 1152921504606846968) (hn : x.nodes ≤ 16384) :
    Calls Tryz.prog 56 #[v.a, s.a] w (GetOut w S (getT x s)) := by
  obtain ⟨k1, k2⟩ := kind_of h
  by_cases hf : fitsT x s = 0
  · obtain ⟨k, i, t, ks, xs⟩ := x
    obtain ⟨K, I, TT⟩ := s
    have hf3 := fits_zero hf
    simp only [T.k] at hf3 hk k2
    have hk4 := hf3.2.2
    obtain rfl : K = 0 := by omega
    obtain rfl : k = 4 := by omega
    have h0 := h
    rw [IsV] at h
    rcases h with ⟨h, -⟩ | ⟨-, rfl, rfl, rfl, vs, p, hr, rfl, hxs⟩ | ⟨h, -⟩
    · omega
    · have hnn : nodesL xs + 1 ≤ 16384 := by simpa [T.nodes] using hn
      have hln := len_nodesL xs
      have hvl := hxs.len
      have hft : fitsT (.mk 4 0 [] [] xs) ⟨0, I, TT⟩ = 0 := rfl
      by_cases hI : 0 ≤ I ∧ I < (xs.length : Int)
      · obtain ⟨j, rfl⟩ := Int.eq_ofNat_of_zero_le hI.1
        have hj : j < xs.length := by omega
        have hg : getT (.mk 4 0 [] [] xs) ⟨0, (j : Int), TT⟩ = (xs[j], 0) := by
          rw [get_some hft (j := j) ((idx_vec rfl).trans (if_pos hI))]
          simp [T.xs, hj]
        rw [hg]
        have hvj : vs[j]? = some (vs[j]'(by omega)) := List.getElem?_eq_getElem (by omega)
        refine (vget_vec j TT p _ _ (vs[j]'(by omega)) true w hl (fun W hW => get_ok j _ vs p S W (hr.keeps (.of_below hW)) hvj (by omega)) nofun).mono ?_
        rintro e w' ⟨rfl, hb⟩
        exact ⟨_, rfl, (hxs.at_ (List.getElem?_eq_getElem hj) hvj).keeps (.of_below hb), hb⟩
      · have hg : getT (.mk 4 0 [] [] xs) ⟨0, I, TT⟩ = (T.z, 5) := by
          rw [get_none hft ((idx_vec rfl).trans (if_neg hI))]
        rw [hg]
        have hb : inB I vs.length = false := by
          rw [hvl]; simp only [inB, decide_eq_false_iff_not]; exact hI
        refine (vget_vec I TT p _ _ V.z false w hl (fun W hW => get_bad I vs p S W (hr.keeps (.of_below hW)) hb) (fun _ => rfl)).mono ?_
        rintro e w' ⟨rfl, hb⟩
        exact ⟨_, rfl, isV_z _ _, hb⟩
    · omega
  · exact vget_bad x v s S w k1 k2 hf
end Go.Proofs.YtfcegalckjeafaaGreatDoor
