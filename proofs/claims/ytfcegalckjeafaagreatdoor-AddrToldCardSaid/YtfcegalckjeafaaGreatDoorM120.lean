/-
  Parts of the proof that AddrTold,AddrBegins calls on: Wc.
-/
import Derived.Test.YtfcegalckjeafaaGreatDoorM119
namespace Go.Proofs.YtfcegalckjeafaaGreatDoor
open Go.RowKit Go.BigFrame Go.Shelf
def GetOut (w : World) (S : Nat → Prop) (x : T × Int) (e : Ending) (w' : World) : Prop := ∃ u, e = .returned (.tuple #[V.a u, .int .i64 x.2]) ∧ IsV w' S x.1 u ∧ Below w.heap.size w w'
theorem isV_z (w : World) (S : Nat → Prop) : IsV w S T.z V.z := by
  rw [T.z, IsV]
  exact .inl ⟨by decide, .inl ⟨rfl, rfl, rfl⟩, rfl, rfl, rfl⟩
theorem U.zero : U 0 := by unfold U; omega
set_option maxRecDepth 100000 in
set_option maxHeartbeats 4000000 in
theorem vget_bad (x : T) (v : V) (s : St) (S : Nat → Prop) (w : World) (hv : v.kd = x.k) (hk : 0 ≤ x.k ∧ x.k ≤ 6) (hf : fitsT x s ≠ 0) :
    Calls Tryz.prog 56 #[v.a, s.a] w (GetOut w S (getT x s)) := by
  have HF := Lib.hid (fun W => fits_any v x s W hv hk)
  have hg : getT x s = (T.z, fitsT x s) := by rw [getT, if_pos hf]
  rw [hg]
  generalize fitsT x s = c at *
  have hc : (c == 0) = false := by simpa using hf
  clear hg hf hv hk
  obtain ⟨sk, si, st, kd, vec, seed, bits, n, dic, bel, mor⟩ := v
  obtain ⟨K, I, TT⟩ := s
  simp only [V.a, St.a] at HF ⊢
  go_enter Tryz.func56, Tryz.ntmps56
  go_wp2_with fail
  refine calls_at fun W hW => ?_
  obtain ⟨hB, hz, -, -, HO⟩ := boxes3 (t3 := 42) (c3 := V.z.l.toArray) hW
  refine (HF.out W).mono ?_
  rintro e w2 ⟨rfl, hb2⟩
  have HO2 := Lib.hid (HO.below hb2 HO.lt)
  have HB2 := Lib.hid (hB.trans (hb2.mono hB.size))
  clear hW hb2 hB HO HF
  go_wp2_with (first
    | (refine wpList_stE (E := eV) rfl rfl infoV11 rfl V.z HO2.out rfl rfl ?_; intro w8 HR8 ho8 hB8)
    | fail)
  exact ret_ct (p := 4) (u := 5) rfl rfl rfl HR8.out (by kernel_rfl) rfl ⟨V.z, rfl, isV_z _ _, hB8 _ _ HB2.out (by omega)⟩
set_option maxRecDepth 100000 in
set_option maxHeartbeats 4000000 in
theorem vget_vec (i : Int) (TT : List UInt8) (p : Option Addr) (bel mor : Int) (u : V) (c : Bool) (w : World) (hl : TT.length ≤ 1152921504606846968)
    (hG : ∀ W, Below w.heap.size w W → Calls Tryz.prog 102 #[.agg #[.pointer p], .int .i64 i] W (GotOut W u c)) (hu : c = false → u = V.z) :
    Calls Tryz.prog 56 #[V.a ⟨0, 0, [], 4, p, 0, 0, 0, none, bel, mor⟩, St.a ⟨0, i, TT⟩] w fun e w' => e = .returned (.tuple #[u.a, .int .i64 (if c then 0 else 5)]) ∧ Below w.heap.size w w' := by
  have HF := Lib.hid (fun W => fits_any ⟨0, 0, [], 4, p, 0, 0, 0, none, bel, mor⟩ (.mk 4 0 [] [] []) ⟨0, i, TT⟩ W rfl ⟨by decide, by decide⟩)
  have HH := Lib.hid (fun W => hget_nil 0 0 0 TT W U.zero hl)
  have HG := Lib.hid hG
  clear hl hG
  simp only [sv] at HH
  have e0 : fitsT (.mk 4 0 [] [] []) ⟨0, i, TT⟩ = 0 := rfl
  rw [e0] at HF
  clear e0
  simp only [V.a, St.a] at HF ⊢
  go_enter Tryz.func56, Tryz.ntmps56
  go_wp2_with fail
  refine calls_at fun W hW => ?_
  obtain ⟨hB, hz, HV, HS, HO⟩ := boxes3 (t3 := 42) (c3 := V.z.l.toArray) hW
  have HZ := Lib.hid hz
  have KEEP : Hid (∀ W', Below W.heap.size W W' → Below w.heap.size w W' ∧ Blk W' w.heap.size 42 #[.int .i64 0, .int .i64 0, .string ⟨[].toArray⟩, .int .i64 4, .pointer p, .int .u64 0, .int .i64 0, .int .i64 0, .pointer none, .int .i64 bel, .int .i64 mor] ∧ Blk W' (w.heap.size + 1) 48 #[.int .i64 0, .int .i64 i, .string ⟨TT.toArray⟩] ∧ VB W' (w.heap.size + 1 + 1) V.z) := Lib.hid fun W' h => ⟨hB.trans (h.mono hB.size), HV.below h HV.lt, HS.below h HS.lt, Blk.below HO h HO.lt⟩
  refine (HF.out W).mono ?_
  rintro e w2 ⟨rfl, hb2⟩
  obtain ⟨k1, k2, k3, k4⟩ := KEEP.out w2 hb2
  have c5 := k2.cell 5
  have c6 := k2.cell 6
  have c7 := k2.cell 7
  have c8 := k2.cell 8
  have s2 := k3.cell 2
  simp only [List.getElem?_toArray, List.getElem?_cons_succ, List.getElem?_cons_zero] at c5 c6 c7 c8 s2
  have HB2 := Lib.hid hb2
  clear hW hB HO HF HV HS k1 k2 k3 k4 hb2
  go_wp2_with fail
  refine (HH.out w2).mono ?_
  rintro e w3 ⟨rfl, hb3⟩
  have HB3 := Lib.hid (HB2.out.trans (hb3.mono HB2.out.size))
  clear c5 c6 c7 c8 s2 hb3 HB2
  have hz3 := HB3.out.size
  go_wp2_with (first
    | (refine wpList_stE (E := eV) (o := ⟨none, .store 42 (.tmp 7) (.tmp 22), _, _, _, _⟩) rfl rfl infoV11 rfl V.z (Blk.new w3 42 V.z.l.toArray) rfl rfl ?_; intro w6 HR6 ho6 hB6; have HB6 := Lib.hid (hB6 _ _ (HB3.out.alloc hz3 (.cells V.z.l.toArray 42)) hz3); clear ho6 hB6; obtain ⟨-, k2, k3, -⟩ := KEEP.out w6 HB6.out; have c3 := k2.cell 3; have c4 := k2.cell 4; have s1 := k3.cell 1; simp only [List.getElem?_toArray, List.getElem?_cons_succ, List.getElem?_cons_zero] at c3 c4 s1; clear k2 k3)
    | fail)
  obtain ⟨k1, -, -, -⟩ := KEEP.out w6 HB6.out
  refine (HG.out w6 k1).mono ?_
  rintro e w7 ⟨rfl, hb7⟩
  have HR7 := Lib.hid (Blk.below HR6.out hb7 (Blk.lt HR6.out))
  have HB7 := Lib.hid (HB6.out.trans (hb7.mono HB6.out.size))
  clear k1 hb7 HB6 HR6 c3 c4 s1 HG HH
  have hzz := HZ.out
  cases c with
  | true =>
    go_wp2_with (first
      | (refine wpList_stE (E := eV) (o := ⟨none, .store 42 (.tmp 7) _, _, _, _, _⟩) rfl rfl infoV11 rfl u HR7.out rfl rfl ?_; intro w8 HR8 ho8 hB8; have HB8 := Lib.hid (hB8 _ _ HB7.out hz3); clear ho8 hB8)
      | (refine wpList_ldl rfl (o := ⟨some 38, _, _, _, _, _⟩) rfl rfl u.l isV (fun j u' hu => by have := Blk.cell HR8.out j; rw [at_zero, this]; simpa using (show (eV.l u)[j]? = some u' from hu)) ?_)
      | (have HO8 := (KEEP.out _ HB8.out).2.2.2; refine wpList_stE (E := eV) (o := ⟨none, .store 42 (.tmp 4) _, _, _, _, _⟩) rfl rfl infoV11 rfl u HO8 rfl rfl ?_; intro w9 HR9 ho9 hB9)
      | fail)
    exact ret_ct (p := 4) (u := 5) rfl rfl rfl HR9.out (by kernel_rfl) rfl ⟨rfl, hB9 _ _ (KEEP.out _ HB8.out).1 (by omega)⟩
  | false =>
    obtain rfl := hu rfl
    go_wp2_with (first
      | (refine wpList_stE (E := eV) (o := ⟨none, .store 42 (.tmp 7) _, _, _, _, _⟩) rfl rfl infoV11 rfl V.z HR7.out rfl rfl ?_; intro w8 HR8 ho8 hB8; have HB8 := Lib.hid (hB8 _ _ HB7.out hz3); clear ho8 hB8)
      | (have HO8 := (KEEP.out _ HB8.out).2.2.2; refine wpList_stE (E := eV) (o := ⟨none, .store 42 (.tmp 4) _, _, _, _, _⟩) rfl rfl infoV11 rfl V.z HO8 rfl rfl ?_; intro w9 HR9 ho9 hB9)
      | fail)
    exact ret_ct (p := 4) (u := 5) rfl rfl rfl HR9.out (by kernel_rfl) rfl ⟨rfl, hB9 _ _ (KEEP.out _ HB8.out).1 (by omega)⟩
theorem kind_of {w : World} {S : Nat → Prop} {x : T} {v : V} (h : IsV w S x v) : v.kd = x.k ∧ (0 ≤ x.k ∧ x.k ≤ 6) := by
  refine ⟨h.sums.2.2.1, ?_⟩
  obtain ⟨k, i, t, ks, xs⟩ := x
  rw [IsV] at h
  simp only [T.k]
  rcases h with ⟨h, h2, -⟩ | ⟨rfl, -⟩ | ⟨h, -⟩
  · rcases h2 with h2 | h2 | h2 | h2 <;> omega
  · decide
  · omega
theorem fits_zero {x : T} {s : St} (h : fitsT x s = 0) : 0 ≤ s.K ∧ s.K ≤ 2 ∧ x.k = s.K + 4 := by
  unfold fitsT at h
  split at h
  · cases h
  · split at h
    · cases h
    · omega
theorem get_none {x : T} {s : St} (h : fitsT x s = 0) (hi : idxT x s = none) : getT x s = (T.z, 5) := by rw [getT, if_neg (fun e => e h), hi]
theorem get_some {x : T} {s : St} {j : Nat} (h : fitsT x s = 0) (hi : idxT x s = some j) : getT x s = (x.xs.getD j T.z, 0) := by rw [getT, if_neg (fun e => e h), hi]
theorem idx_vec {x : T} {s : St} (h : x.k = 4) : idxT x s = if 0 ≤ s.I ∧ s.I < (x.xs.length : Int) then some s.I.toNat else none := by rw [idxT, if_pos h]
/-- Get, of a scalar or a vector. -/
theorem vget_any (x : T) (v : V) (s : St) (S : Nat → Prop) (w : World) (h : IsV w S x v) (hk : x.k ≤ 4) (hl : s.T.length ≤ 1152921504606846968) (hn : x.nodes ≤ 16384) :
    Calls Tryz.prog 56 #[v.a, s.a] w (GetOut w S (getT x s)) := by
  obtain ⟨k1, k2⟩ := kind_of h
  by_cases hf : fitsT x s = 0
  · obtain ⟨k, i, t, ks, xs⟩ := x
    obtain ⟨K, I, TT⟩ := s
    have hf3 := fits_zero hf
    simp only [T.k] at hf3 hk k2
    have hk4 := hf3.2.2
    obtain rfl : K = 0 := by omega
    obtain rfl : k = 4 := by omega
    have h0 := h
    rw [IsV] at h
    rcases h with ⟨h, -⟩ | ⟨-, rfl, rfl, rfl, vs, p, hr, rfl, hxs⟩ | ⟨h, -⟩
    · omega
    · have hnn : nodesL xs + 1 ≤ 16384 := by simpa [T.nodes] using hn
      have hln := len_nodesL xs
      have hvl := hxs.len
      have hft : fitsT (.mk 4 0 [] [] xs) ⟨0, I, TT⟩ = 0 := rfl
      by_cases hI : 0 ≤ I ∧ I < (xs.length : Int)
      · obtain ⟨j, rfl⟩ := Int.eq_ofNat_of_zero_le hI.1
        have hj : j < xs.length := by omega
        have hg : getT (.mk 4 0 [] [] xs) ⟨0, (j : Int), TT⟩ = (xs[j], 0) := by
          rw [get_some hft (j := j) ((idx_vec rfl).trans (if_pos hI))]
          simp [T.xs, hj]
        rw [hg]
        have hvj : vs[j]? = some (vs[j]'(by omega)) := List.getElem?_eq_getElem (by omega)
        refine (vget_vec j TT p _ _ (vs[j]'(by omega)) true w hl (fun W hW => get_ok j _ vs p S W (hr.keeps (.of_below hW)) hvj (by omega)) nofun).mono ?_
        rintro e w' ⟨rfl, hb⟩
        exact ⟨_, rfl, (hxs.at_ (List.getElem?_eq_getElem hj) hvj).keeps (.of_below hb), hb⟩
      · have hg : getT (.mk 4 0 [] [] xs) ⟨0, I, TT⟩ = (T.z, 5) := by
          rw [get_none hft ((idx_vec rfl).trans (if_neg hI))]
        rw [hg]
        have hb : inB I vs.length = false := by
          rw [hvl]; simp only [inB, decide_eq_false_iff_not]; exact hI
        refine (vget_vec I TT p _ _ V.z false w hl (fun W hW => get_bad I vs p S W (hr.keeps (.of_below hW)) hb) (fun _ => rfl)).mono ?_
        rintro e w' ⟨rfl, hb⟩
        exact ⟨_, rfl, isV_z _ _, hb⟩
    · omega
  · exact vget_bad x v s S w k1 k2 hf
end Go.Proofs.YtfcegalckjeafaaGreatDoor
