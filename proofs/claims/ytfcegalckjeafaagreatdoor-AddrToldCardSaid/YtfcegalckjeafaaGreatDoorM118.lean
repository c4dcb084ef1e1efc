/-
  Parts of the proof that AddrTold,AddrBegins calls on: Vn.
-/
import Derived.Test.YtfcegalckjeafaaGreatDoorM117
namespace Go.Proofs.YtfcegalckjeafaaGreatDoor
open Go.RowKit Go.BigFrame Go.Shelf
theorem nodesL_take {xs : List T} {k : Nat} {x : T} (h : xs[k]? = some x) : nodesL (xs.take (k + 1)) = nodesL (xs.take k) + x.nodes ∧ nodesL (xs.take (k + 1)) ≤ nodesL xs := by
  have e : xs.take (k + 1) = xs.take k ++ [x] := by rw [List.take_add_one, h]; rfl
  refine ⟨by rw [e, nodesL_app]; simp [nodesL], ?_⟩
  have h2 := nodesL_app (xs.take (k + 1)) (xs.drop (k + 1))
  rw [List.take_append_drop] at h2
  omega
set_option maxRecDepth 100000 in
set_option maxHeartbeats 8000000 in
theorem make_vec (xs : List T) (ih : ∀ (i : Nat) (x : T), xs[i]? = some x → MakeOk x) : MakeOk (.mk 4 0 [] [] xs) := by
  intro r S g n d cs cb w ht hSg hg hn hd
  have htb := ht.bound
  rw [IsTr] at htb
  obtain ⟨rk, ri, rt, kA, kn, kc, xA, xn, xc⟩ := r
  obtain ⟨e1, e2, e3, e4, -, -, e5, hxc, rs, hrd, hrs⟩ := htb
  simp only [List.length_nil] at e1 e2 e3 e4 e5 hxc hrd
  subst e1 e2 e3 e4 e5
  have hN : n + (nodesL xs + 1) ≤ 16384 := by simpa [T.nodes] using hn
  have hD : d + (depthL xs + 1) ≤ 65 := by simpa [T.depth] using hd
  have hlen := len_nodesL xs
  have hl1 : xs.length ≤ 16384 := by omega
  have hn1 : (n : Int) + 1 ≤ 16384 := by omega
  have hd1 : (d : Int) ≤ 64 := by omega
  have HO := Lib.hid (fun W => own_vec kA xA xs.length kc xc W)
  have HRS := Lib.hid hrs
  have HRD := Lib.hid hrd
  have HIH := Lib.hid ih
  have HLN := Lib.hid hlen
  have hgl := hg.lt
  have hgl1 : g < w.heap.size + 1 := by omega
  have hgl2 : g < w.heap.size + 1 + 1 := by omega
  have g0 := hg.cell 0
  have gf := hg.frozen 0
  have HG := Lib.hid hg
  simp only [List.getElem?_toArray, List.getElem?_cons_zero] at g0
  clear hn hd hg ht hrs hrd ih hlen
  simp only [TR.a]
  go_enter Tryz.func86, Tryz.ntmps86
  go_wp2_with fail
  refine calls_at fun W hW => ?_
  obtain ⟨hB, hz, HCf, HT, HO8⟩ := boxes3 hW
  have hsz : (w.setCell ⟨g, 0, none⟩ (.int .i64 ((n : Int) + 1))).heap.size = w.heap.size := by simp
  have hG1 : Blk (w.setCell ⟨g, 0, none⟩ (.int .i64 ((n : Int) + 1))) g 133 #[.int .i64 ((n : Int) + 1)] := by simpa using HG.out.set_ 0 (.int .i64 ((n : Int) + 1))
  have hch := chg_trans (chg_set w g 0 (.int .i64 ((n : Int) + 1))) (chg_below hB)
  have hG2 := hG1.below hB hG1.lt
  rw [hsz] at hz HCf HT HO8
  have KEEP : Hid (∀ W', Below W.heap.size W W' → w.grownBy W' (some g) ∧ Blk W' g 133 #[.int .i64 ((n : Int) + 1)] ∧ Blk W' w.heap.size 24 #[.int .u64 cs, .int .i64 cb] ∧ Blk W' (w.heap.size + 1) 28 #[.int .i64 4, .int .i64 0, .string ⟨#[]⟩, .slice kA 0 kc, .slice xA xs.length xc] ∧ Blk W' (w.heap.size + 1 + 1) 42 V.z.l.toArray) := Lib.hid fun W' h => ⟨chg_trans hch (chg_below h), hG2.below h hG2.lt, HCf.below h HCf.lt, HT.below h HT.lt, HO8.below h HO8.lt⟩
  have HZ := Lib.hid hz
  clear hW hB hz HCf HT HO8 hsz hG1 hch hG2 g0 gf HG hgl1 hgl2
  refine (HO.out _).mono ?_
  rintro e w1 ⟨rfl, hb1⟩
  obtain ⟨kc1, kg, kcf, kt, ko⟩ := KEEP.out _ hb1
  have c0 := kt.cell 0
  have c4 := kt.cell 4
  simp only [List.getElem?_toArray, List.getElem?_cons_succ, List.getElem?_cons_zero] at c0 c4
  have hw1 : w.heap.size + 3 ≤ w1.heap.size := by have := HZ.out; have := hb1.size; omega
  have KT := Lib.hid kt
  have KC := Lib.hid kc1
  have KG := Lib.hid kg
  have KF := Lib.hid kcf
  have KO := Lib.hid ko
  clear kt kc1 kg kcf ko KEEP HO hb1 HZ
  go_wp2_with fail
  go_loopw [11, 55] (fun v i wr => ∃ (k : Nat) (us : List V), k ≤ xs.length ∧ i = .int .i64 k ∧ us.length = k ∧ Hid (wr.ownsRow (w.heap.size + 3) 42 11 v us.length (flat us)) ∧ Hid (IsVs wr (fun b => w.heap.size + 3 ≤ b ∧ b < wr.heap.size ∧ some b ≠ v.ownBlock) (xs.take k) us) ∧ Hid (Blk wr g 133 #[.int .i64 ((n + 1 + nodesL (xs.take k) : Nat) : Int)]) ∧ Hid (w.grownBy wr (some g)) ∧ Hid (w.heap.size + 3 ≤ wr.heap.size) ∧ Hid (Blk wr w.heap.size 24 #[.int .u64 cs, .int .i64 cb] ∧ Blk wr (w.heap.size + 1) 28 #[.int .i64 4, .int .i64 0, .string ⟨#[]⟩, .slice kA 0 kc, .slice xA xs.length xc] ∧ Blk wr (w.heap.size + 1 + 1) 42 V.z.l.toArray)) (fun _ i _ => (xs.length - intOf i).toNat)
  case atStart => exact ⟨0, [], Nat.zero_le _, rfl, rfl, World.ownsRow_nil _ _ _ _, by rw [List.take_zero, Hid, IsVs], by simpa [nodesL] using KG, KC, hw1, KF.out, KT.out, KO.out⟩
  case round =>
    obtain ⟨k, us, hk, rfl, hul, hO, hV, hGk, hC, hsz, hK⟩ := hrel
    subst hul
    by_cases hlt : us.length < xs.length
    · obtain ⟨A0, c0', rfl, hcap⟩ := own_shape hO.out
      obtain ⟨x, hx⟩ : ∃ x, xs[us.length]? = some x := ⟨_, List.getElem?_eq_getElem hlt⟩
      obtain ⟨rl, hrl, htr⟩ := HRS.out.some hx
      have hKS : Keeps (fun k => S k ∧ k < w.heap.size) w wr := .of_grown hC.out (fun k hk e => hSg (by cases e; exact hk.1))
      obtain ⟨ad, rfl, -, hcc⟩ := eT.cells (HRD.out.keeps hKS) hrl (by omega)
      have HCC := Lib.hid hcc
      have HTR := Lib.hid (htr.keeps hKS)
      obtain ⟨hkf, hkt, hko⟩ := hK.out
      have f0 := hkf.cell 0
      have f1 := hkf.cell 1
      simp only [List.getElem?_toArray, List.getElem?_cons_succ, List.getElem?_cons_zero] at f0 f1
      have hwl : w.heap.size < wr.heap.size := by have := hsz.out; omega
      obtain ⟨nt1, nt2⟩ := nodesL_take hx
      have hdx := depthL_mem (List.mem_of_getElem? hx)
      have h00 : (0 : Int) ≤ (us.length : Int) := by omega
      have hMK := Lib.hid (fun W' ht' hg' => HIH.out us.length x hx rl (fun k => S k ∧ k < w.heap.size) g (n + 1 + nodesL (xs.take us.length)) (d + 1) cs cb W' ht' (fun h => hSg h.1) hg' (by omega) (by omega))
      have e64 : ((d + 1 : Nat) : Int) = (d : Int) + 1 := by omega
      rw [e64] at hMK
      have HX := Lib.hid hx
      have HNT := Lib.hid nt1
      clear hx hrl htr hKS hcc hkt hko hkf nt1 nt2 hdx e64 hcap
      go_wp2_with (first
        | (refine wpList_ldl rfl (o := ⟨some 58, _, _, _, _, _⟩) rfl rfl rl.l isT HCC.out ?_)
        | (refine wpList_stE (E := eT) (o := ⟨none, .store 28 _ _, _, _, _, _⟩) rfl rfl infoT rfl rl (Blk.new wr _ TR.z.l.toArray) rfl rfl ?_; intro w2 HR2 ho2 hB2; have hb2 := hB2 _ _ ((Below.refl wr.heap.size wr).alloc (Nat.le_refl _) _) (Nat.le_refl _); have f0' := cb' hb2 f0; have f1' := cb' hb2 f1)
        | (refine wpList_ldl rfl (o := ⟨some 62, _, _, _, _, _⟩) rfl rfl rl.l isT (fun j u hu => by have := Blk.cell HR2.out j; rw [at_zero, this]; simpa using (show (eT.l rl)[j]? = some u from hu)) ?_)
        | fail)
      have hg2 := hGk.out.below hb2 hGk.out.lt
      refine (hMK.out w2 (HTR.out.keeps (.of_below hb2)) hg2).mono ?_
      rintro e w3 ⟨v, rfl, hv3, hg3, hc3⟩
      have hc23 := chg_trans (chg_below (r := some g) hb2) hc3
      have HC3 := Lib.hid (chg_trans hC.out hc23)
      have HV3 := Lib.hid hv3.bound
      have HG3 := Lib.hid hg3
      have HO3 := Lib.hid (own_grown hO.out hc23 (fun j e => by cases e; omega))
      have HVS3 := Lib.hid (hV.out.keeps (w' := w3) (.of_grown hc23 (fun b hb e => by cases e; have := hb.1; omega)))
      have HSZ : Hid (w2.heap.size ≤ w3.heap.size ∧ wr.heap.size < w2.heap.size) := Lib.hid ⟨hc3.size, Blk.lt HR2.out⟩
      have HK3 : Hid (Blk w3 w.heap.size 24 #[.int .u64 cs, .int .i64 cb] ∧ Blk w3 (w.heap.size + 1) 28 #[.int .i64 4, .int .i64 0, .string ⟨#[]⟩, .slice kA 0 kc, .slice (some ad) xs.length xc] ∧ Blk w3 (w.heap.size + 1 + 1) 42 V.z.l.toArray) := Lib.hid ⟨hK.out.1.grown hc23 (fun e => by cases e; omega), hK.out.2.1.grown hc23 (fun e => by have := Option.some.inj e; omega), hK.out.2.2.grown hc23 (fun e => by have := Option.some.inj e; omega)⟩
      have HOL : Hid (∀ j, (Value.slice A0 us.length c0').ownBlock = some j → j < wr.heap.size) := Lib.hid fun j e => own_lt hO.out e
      clear hc23 hv3 hg3 hc3 hg2 hb2 f0 f1 f0' f1' hMK HCC HTR hB2 ho2 HR2 hGk hC hO hV hK
      have hw3 : w.heap.size + 3 ≤ w3.heap.size := by have := HSZ.out; have := hsz.out; omega
      go_wp2_with (first
        | (refine wpList_stE (E := eV) (o := ⟨none, .store 42 _ _, _, _, _, _⟩) rfl rfl infoV11 rfl v (Blk.new w3 _ V.z.l.toArray) rfl rfl ?_; intro w4 HR4 ho4 hB4; have hb4 := hB4 _ _ ((Below.refl w3.heap.size w3).alloc (Nat.le_refl _) _) (Nat.le_refl _))
        | (refine wpList_ldl rfl (o := ⟨some 73, _, _, _, _, _⟩) rfl rfl v.l isV (fun j u hu => by have := Blk.cell HR4.out j; rw [at_zero, this]; simpa using (show (eV.l v)[j]? = some u from hu)) ?_; simp only [V.l, sv])
        | (at_builtin; refine wpList_app3 elV (o := ⟨some 75, _, _, _, _, _⟩) rfl rfl (own_below (own_below HO3.out hb4) ((Below.refl _ _).alloc (Nat.le_refl _) _)) rfl (reads_one_V w4 v) rfl (flat_one [v]) (by simp; omega) (by decide) (by have := hb4.size; simp; omega) ?_; intro v5 w5 HO5 HG5 HK5)
        | fail)
      have hb5 : Below w3.heap.size w3 (w4.alloc (.cells v.l.toArray 42)) := hb4.alloc hb4.size _
      have hz5 := hb5.size
      have hzz : (w4.alloc (.cells v.l.toArray 42)).heap.size ≤ w5.heap.size := HG5.out.size
      replace HG5 : Hid ((w4.alloc (.cells v.l.toArray 42)).grownBy w5 (Value.slice A0 us.length c0').ownBlock) := HG5
      replace HK5 : Hid (v5.ownBlock = (Value.slice A0 us.length c0').ownBlock ∨ v5.ownBlock = some (w4.alloc (.cells v.l.toArray 42)).heap.size) := HK5
      have hsz2 := HSZ.out
      have hwsz := hsz.out
      have hown : ∀ j, (Value.slice A0 us.length c0').ownBlock = some j → w.heap.size + 3 ≤ j ∧ j < wr.heap.size := fun j e => ⟨own_base HO3.out e, HOL.out j e⟩
      have hgo : some g ≠ (Value.slice A0 us.length c0').ownBlock := fun e => by have := hown g e.symm; omega
      have hbo : ∀ k, k < w.heap.size + 3 → some k ≠ (Value.slice A0 us.length c0').ownBlock := fun k hk e => by have := hown k e.symm; omega
      have hC5 : w.grownBy w5 (some g) := chg_tail HC3.out ((hb5.mono (by omega)).grown HG5.out (by omega) (fun k e => by have := hown k e; omega))
      have hg5 : Blk w5 g 133 #[.int .i64 ((n + 1 + nodesL (xs.take (us.length + 1)) : Nat) : Int)] := by
        have := (HG3.out.below hb5 HG3.out.lt).grown HG5.out hgo
        rw [HNT.out, ← Nat.add_assoc]
        exact this
      have hv5 : IsVs w5 (fun b => w.heap.size + 3 ≤ b ∧ b < w5.heap.size ∧ some b ≠ v5.ownBlock) (xs.take (us.length + 1)) (us ++ [v]) := by
        rw [List.take_add_one, HX.out]
        refine IsVs.app ((HVS3.out.keeps (w' := w5) (fun k hk hs => (HG5.out.block k (by omega) hs.2.2).trans (hb5.block k hk))).more (fun b hb => ⟨hb.1, by omega, fun e => ?_⟩)) (IsVs.one ((HV3.out.keeps (w' := w5) (fun k hk hs => (HG5.out.block k (by omega) (fun e => by have := hown k e.symm; omega)).trans (hb5.block k hk))).more (fun b hb => ⟨by omega, by omega, fun e => ?_⟩)))
        · rcases HK5.out with h | h
          · exact hb.2.2 (e.trans h)
          · rw [h] at e; have := Option.some.inj e; omega
        · rcases HK5.out with h | h
          · have := hown b (e.trans h).symm; omega
          · rw [h] at e; have := Option.some.inj e; omega
      obtain ⟨q1, q2, q3⟩ := HK3.out
      exact ⟨⟨us.length + 1, us ++ [v], by omega, by go_num, by simp, by rw [flat_app, List.length_append]; exact HO5, hv5, hg5, hC5, by show _ ≤ _; omega, (q1.below hb5 q1.lt).grown HG5.out (hbo _ (by omega)), (q2.below hb5 q2.lt).grown HG5.out (hbo _ (by omega)), (q3.below hb5 q3.lt).grown HG5.out (hbo _ (by omega))⟩, by simp [intOf]; omega⟩
    · have hel : us.length = xs.length := by omega
      obtain ⟨A0, c0', rfl, hcap⟩ := own_shape hO.out
      obtain ⟨hkf, hkt, hko⟩ := hK.out
      have t0 := hkt.cell 0
      simp only [List.getElem?_toArray, List.getElem?_cons_zero] at t0
      have hnlt : ¬ us.length < xs.length := hlt
      have HOF := Lib.hid (fun W' hW' => of_any A0 c0' us (fun b => w.heap.size + 3 ≤ b) W' (((Reads.of_own hO.out).more (fun _ h => h.1)).keeps (.of_below (w' := W') hW')) hcap (by omega))
      have HKO := Lib.hid hko
      have hv' := hV.out
      rw [hel, List.take_length] at hv'
      have hg' := hGk.out
      rw [hel, List.take_length] at hg'
      have HV := Lib.hid hv'
      have HGK := Lib.hid hg'
      have HD : Hid (depthL xs ≤ 64) := Lib.hid (by omega)
      have HNL : Hid (nodesL xs ≤ 16384) := Lib.hid (by omega)
      have HEL := Lib.hid hel
      clear hkf hkt hko hO hV hGk hv' hg' hK hlt hcap hel
      go_wp2_with fail
      refine (HOF.out wr (Below.refl _ _)).mono ?_
      rintro e w2 ⟨p, rfl, hp, hb2⟩
      have HP := Lib.hid (show IsRope w2 (fun b => w.heap.size + 3 ≤ b) us p from hp.more (fun b hb => by have := hsz.out; rcases hb with h | h <;> omega))
      have HV2 := Lib.hid (HV.out.keeps (w' := w2) (.of_below hb2))
      have HB2 := Lib.hid hb2
      clear hp hb2 HOF HV t0
      go_wp2_with fail
      obtain ⟨sm1, sm2⟩ := smalls_of HV2.out (by have := HD.out; omega) HNL.out
      refine (vector_any us xs p (fun _ => True) w2 (HP.out.more (fun _ _ => trivial)) (HV2.out.more (fun _ _ => trivial)) sm1 sm2).mono ?_
      rintro e w3 ⟨rfl, hb3⟩
      have hb23 := HB2.out.trans (hb3.mono HB2.out.size)
      have HB3 := Lib.hid hb3
      have HB23 := Lib.hid hb23
      have KO3 := Lib.hid (HKO.out.below hb23 HKO.out.lt)
      clear hb3 hb23 sm1 sm2
      go_wp2_with (refine wpList_stE (E := eV) rfl rfl infoV11 rfl ⟨0, 0, [], 4, p, 0, 0, 0, none, depthL xs, nodesL xs⟩ KO3.out rfl rfl ?_; intro w8 HR8 ho8 hB8)
      have hkeep : ∀ k, w.heap.size + 3 ≤ k → k < w2.heap.size → w8.heap[k]? = w2.heap[k]? := fun k h1 h2 => (ho8 k (by omega)).trans (HB3.out.block k h2)
      have hres : IsV w8 (fun k => w.heap.size ≤ k) (.mk 4 0 [] [] xs) ⟨0, 0, [], 4, p, 0, 0, 0, none, depthL xs, nodesL xs⟩ := by
        rw [IsV]
        exact .inr (.inl ⟨rfl, rfl, rfl, rfl, us, p, (HP.out.keeps (w' := w8) (fun k hk hs => hkeep k hs hk)).more (fun b hb => by omega), rfl, (HV2.out.keeps (w' := w8) (fun k hk hs => hkeep k hs.1 hk)).more (fun b hb => by omega)⟩)
      have hgf : Blk w8 g 133 #[.int .i64 ((n + (T.mk 4 0 [] [] xs).nodes : Nat) : Int)] := by
        rw [show n + (T.mk 4 0 [] [] xs).nodes = n + 1 + nodesL xs by simp [T.nodes]; omega]
        exact (ho8 g (by omega)).trans ((HB23.out.block g HGK.out.lt).trans HGK.out)
      exact ret_ct (p := 8) (u := 9) rfl rfl rfl HR8.out (by kernel_rfl) rfl ⟨_, rfl, hres, hgf, chg_tail hC.out (hB8 _ _ (HB23.out.mono (by have := hsz.out; omega)) (by omega))⟩
end Go.Proofs.YtfcegalckjeafaaGreatDoor
