/-
  Parts of the proof that AddrTold,AddrBegins calls on: We, Sr, Ti.
-/
import Derived.Test.YtfcegalckjeafaaGreatDoorM105
import Derived.Test.YtfcegalckjeafaaGreatDoorM107
import Derived.Test.YtfcegalckjeafaaGreatDoorM121
namespace Go.Proofs.YtfcegalckjeafaaGreatDoor
open Go.RowKit Go.BigFrame Go.Shelf
def SetOut (w : World) (S : Nat → Prop) (x : T × Int) (e : Ending) (w' : World) : Prop := ∃ u, e = .returned (.tuple #[V.a u, .int .i64 x.2]) ∧ IsV w' (up S w.heap.size) x.1 u ∧ Below w.heap.size w w'
set_option maxRecDepth 100000 in
set_option maxHeartbeats 4000000 in
theorem vset_bad (x y : T) (v u : V) (s : St) (S : Nat → Prop) (w : World) (hv : v.kd = x.k) (hk : 0 ≤ x.k ∧ x.k ≤ 6) (hf : fitsT x s ≠ 0) :
    Calls Tryz.prog 81 #[v.a, s.a, u.a] w (SetOut w S (setT x s y)) := by
  have HF := Lib.hid (fun W => fits_any v x s W hv hk)
  have hg : setT x s y = (T.z, fitsT x s) := by rw [setT, if_pos hf]
  rw [hg]
  generalize fitsT x s = c at *
  have hc : (c == 0) = false := by simpa using hf
  clear hg hf hv hk
  simp only [V.a, St.a] at HF ⊢
  go_enter Tryz.func81, Tryz.ntmps81
  go_wp2_with fail
  refine calls_at fun W hW => ?_
  obtain ⟨hB, hz, -, -, -, HO⟩ := boxes4 (t4 := 42) (c4 := V.z.l.toArray) hW
  refine (HF.out W).mono ?_
  rintro e w2 ⟨rfl, hb2⟩
  have HO2 := Lib.hid (HO.below hb2 HO.lt)
  have HB2 := Lib.hid (hB.trans (hb2.mono hB.size))
  clear hW hb2 hB HO HF
  go_wp2_with (first
    | (refine wpList_stE (E := eV) rfl rfl infoV11 rfl V.z HO2.out rfl rfl ?_; intro w8 HR8 ho8 hB8)
    | fail)
  exact ret_ct (p := 6) (u := 7) rfl rfl rfl HR8.out (by kernel_rfl) rfl ⟨V.z, rfl, isV_z _ _, hB8 _ _ HB2.out (by omega)⟩
set_option maxRecDepth 100000 in
set_option maxHeartbeats 8000000 in
theorem vset_oob (i : Int) (TT : List UInt8) (vs : List V) (p : Option Addr) (bel mor : Int) (u : V) (S : Nat → Prop) (w : World) (hl : TT.length ≤ 1152921504606846968) (hr : IsRope w S vs p) (hi : inB i vs.length = false) :
    Calls Tryz.prog 81 #[V.a ⟨0, 0, [], 4, p, 0, 0, 0, none, bel, mor⟩, St.a ⟨0, i, TT⟩, u.a] w (SetOut w S (T.z, 5)) := by
  have HF := Lib.hid (fun W => fits_any ⟨0, 0, [], 4, p, 0, 0, 0, none, bel, mor⟩ (.mk 4 0 [] [] []) ⟨0, i, TT⟩ W rfl ⟨by decide, by decide⟩)
  have e0 : fitsT (.mk 4 0 [] [] []) ⟨0, i, TT⟩ = 0 := rfl
  rw [e0] at HF
  have HG := Lib.hid (fun W (hW : Below w.heap.size w W) => vget_vec i TT p bel mor V.z false W hl (fun W' hW' => get_bad i vs p S W' ((hr.keeps (.of_below hW)).keeps (.of_below hW')) hi) (fun _ => rfl))
  have HRS := Lib.hid (fun W (hW : Below w.heap.size w W) => rset_bad i u vs p S W (hr.keeps (.of_below hW)) hi)
  clear hl hr hi e0
  simp only [V.a, St.a] at HF ⊢
  go_enter Tryz.func81, Tryz.ntmps81
  go_wp2_with fail
  refine calls_at fun W hW => ?_
  obtain ⟨hB, hz, HV, HS, HU2, HO⟩ := boxes4 (t4 := 42) (c4 := V.z.l.toArray) hW
  have HZ := Lib.hid hz
  have KEEP : Hid (∀ W', Below W.heap.size W W' → Below w.heap.size w W' ∧ VB W' w.heap.size ⟨0, 0, [], 4, p, 0, 0, 0, none, bel, mor⟩ ∧ Blk W' (w.heap.size + 1) 48 #[.int .i64 0, .int .i64 i, .string ⟨TT.toArray⟩] ∧ VB W' (w.heap.size + 1 + 1) u ∧ VB W' (w.heap.size + 1 + 1 + 1) V.z) := Lib.hid fun W' h => ⟨hB.trans (h.mono hB.size), Blk.below HV h HV.lt, HS.below h HS.lt, Blk.below HU2 h HU2.lt, Blk.below HO h HO.lt⟩
  refine (HF.out W).mono ?_
  rintro e w2 ⟨rfl, hb2⟩
  obtain ⟨k1, k2, k3, k4, k5⟩ := KEEP.out w2 hb2
  have c3 := k2.cells.2.2.2.1
  have s0 := k3.cell 0
  have s1 := k3.cell 1
  have s2 := k3.cell 2
  simp only [List.getElem?_toArray, List.getElem?_cons_succ, List.getElem?_cons_zero] at s0 s1 s2
  have HB2 := Lib.hid hb2
  have KV2 := Lib.hid k2
  clear hW hB HO HF HV HS HU2 k1 k2 k3 k4 k5 hb2
  go_wp2_with (first
    | (refine wpList_ldl rfl (o := ⟨some 23, _, _, _, _, _⟩) rfl rfl (V.l ⟨0, 0, [], 4, p, 0, 0, 0, none, bel, mor⟩) isV (fun j u hu => by have := Blk.cell KV2.out j; rw [at_zero, this]; simpa using hu) ?_; simp only [V.l, sv])
    | fail)
  refine (HG.out w2 (KEEP.out w2 HB2.out).1).mono ?_
  rintro e w4 ⟨rfl, hb4⟩
  have HB4 := Lib.hid (HB2.out.trans (hb4.mono HB2.out.size))
  have hz4 := HB4.out.size
  have HW4 : Hid (w.heap.size + 4 ≤ w4.heap.size) := Lib.hid (by have := HZ.out; omega)
  clear hb4 HB2 KV2 c3 s0 s1 s2 HG
  simp only [Bool.false_eq_true, if_false]
  go_wp2_with (first
    | (refine wpList_stE (E := eV) (o := ⟨none, .store 42 (.tmp 9) _, _, _, _, _⟩) rfl rfl infoV11 rfl V.z (Blk.new w4 42 V.z.l.toArray) rfl rfl ?_; intro w5 HR5 ho5 hB5; have HB5 := Lib.hid (hB5 _ _ (HB4.out.alloc hz4 (.cells V.z.l.toArray 42)) hz4); have hz5 := Blk.lt HR5.out; clear ho5 hB5; have c3 := (KEEP.out w5 HB5.out).2.1.cells.2.2.2.1; have c4 := (KEEP.out w5 HB5.out).2.1.cells.2.2.2.2.1; have s1 := (KEEP.out w5 HB5.out).2.2.1.cell 1; simp only [List.getElem?_toArray, List.getElem?_cons_succ, List.getElem?_cons_zero] at c3 c4 s1; have KU5 := Lib.hid (KEEP.out w5 HB5.out).2.2.2.1)
    | (refine wpList_ldl rfl (o := ⟨some 43, _, _, _, _, _⟩) rfl rfl u.l isV (fun j u' hu => by have := Blk.cell KU5.out j; rw [at_zero, this]; simpa using hu) ?_)
    | fail)
  refine (HRS.out w5 (KEEP.out w5 HB5.out).1).mono ?_
  rintro e w6 ⟨p', rfl, -, hb6⟩
  have HB6 := Lib.hid (HB5.out.trans (hb6.mono HB5.out.size))
  have c4' := (KEEP.out w6 HB6.out).2.1.cells.2.2.2.2.1
  have f4' := (KEEP.out w6 HB6.out).2.1.frozen 4
  have KO6 : Hid (VB (w6.setCell ⟨w.heap.size, 4, none⟩ (.pointer p')) (w.heap.size + 1 + 1 + 1) V.z) := Lib.hid (Blk.far (KEEP.out w6 HB6.out).2.2.2.2 (p := ⟨w.heap.size, 4, none⟩) (by simp; omega) _)
  have HBB : Hid (Below w.heap.size w (w6.setCell ⟨w.heap.size, 4, none⟩ (.pointer p'))) := Lib.hid ((KEEP.out w6 HB6.out).1.setCell (Nat.le_refl _) _)
  clear hb6 HB5 HR5 c3 c4 s1 KU5 HRS
  go_wp2_with (first
    | (refine wpList_stE (E := eV) rfl rfl infoV11 rfl V.z KO6.out rfl rfl ?_; intro w8 HR8 ho8 hB8)
    | fail)
  exact ret_ct (p := 6) (u := 7) rfl rfl rfl HR8.out (by kernel_rfl) rfl ⟨V.z, rfl, isV_z _ _, hB8 _ _ HBB.out (by omega)⟩
theorem set_at {x y : T} {s : St} {j : Nat} (h : fitsT x s = 0) (h6 : x.k ≠ 6) (hi : idxT x s = some j) : setT x s y = withinT (.mk x.k x.i x.t x.ks (x.xs.set j y)) := by rw [setT, if_neg (fun e => e h), if_neg h6, hi]
theorem set_none {x y : T} {s : St} (h : fitsT x s = 0) (h4 : x.k = 4) (hi : idxT x s = none) : setT x s y = (T.z, 5) := by rw [setT, if_neg (fun e => e h), if_neg (by omega), hi]; exact if_pos h4
/-- Set, of a scalar or a vector. -/
theorem vset_any (x y : T) (v u : V) (s : St) (S : Nat → Prop) (w : World) (h : IsV w S x v) (hy : IsV w S y u) (hk : x.k ≤ 4) (hl : s.T.length ≤ 1152921504606846968) (hn : x.nodes ≤ 16384) (hd : x.depth ≤ 100000) (hyn : y.nodes ≤ 16384) (hyd : y.depth ≤ 100000) :
    Calls Tryz.prog 81 #[v.a, s.a, u.a] w (SetOut w S (setT x s y)) := by
  obtain ⟨k1, k2⟩ := kind_of h
  by_cases hf : fitsT x s = 0
  · obtain ⟨k, i, t, ks, xs⟩ := x
    obtain ⟨K, I, TT⟩ := s
    have hf3 := fits_zero hf
    simp only [T.k] at hf3 hk k2
    have hk4 := hf3.2.2
    obtain rfl : K = 0 := by omega
    obtain rfl : k = 4 := by omega
    rw [IsV] at h
    rcases h with ⟨h, -⟩ | ⟨-, rfl, rfl, rfl, vs, p, hr, rfl, hxs⟩ | ⟨h, -⟩
    · omega
    · have hnn : nodesL xs + 1 ≤ 16384 := by simpa [T.nodes] using hn
      have hdd : depthL xs + 1 ≤ 100000 := by simpa [T.depth] using hd
      have hln := len_nodesL xs
      have hvl := hxs.len
      by_cases hI : 0 ≤ I ∧ I < (xs.length : Int)
      · obtain ⟨j, rfl⟩ := Int.eq_ofNat_of_zero_le hI.1
        have hj : j < xs.length := by omega
        rw [set_at (y := y) hf (by simp [T.k]) ((idx_vec rfl).trans (if_pos hI))]
        exact vset_in j TT xs vs p xs[j] y (vs[j]'(by omega)) u S w hl hr hxs hy (List.getElem?_eq_getElem hj) (List.getElem?_eq_getElem (by omega)) (by omega) (by omega) hyn hyd
      · rw [set_none (y := y) hf rfl ((idx_vec rfl).trans (if_neg hI))]
        exact vset_oob I TT vs p _ _ u S w hl hr (by rw [hvl]; simp only [inB, decide_eq_false_iff_not]; exact hI)
    · omega
  · exact vset_bad x y v u s S w k1 k2 hf
end Go.Proofs.YtfcegalckjeafaaGreatDoor
namespace Go.Proofs.YtfcegalckjeafaaGreatDoor
open Go
section
variable {P : Program} {ops : Array Oper} {Q : Exit → Act → World → Prop} {md : Region.Mode} {S : World → Prop} {T T' : Act → World → Prop} {n g : Nat}
def listedOf : List Nat → Array Bool → Array Bool
  | [], l => l
  | i :: r, l => listedOf r (l.setIfInBounds i true)
def preB (md : Region.Mode) (ops : Array Oper) (n : Nat) : List Nat → Array Bool → Bool
  | [], _ => true
  | i :: r, l => takeB md ops n l i && preB md ops n r (l.setIfInBounds i true)
theorem wpAnyT_pre (hst : htB md ops n = true) (hQ : ∀ c a d v w, Q (.panic c) (Act.put a d v) w → Q (.panic c) a w) (m : Nat) : ∀ (r : List Nat) (listed : Array Bool) (a : Act) (w : World), preB md ops n r listed = true → S w → wpSq P ops Q S T (r.map (·, true)) a w →
    (∀ a w, S w → T a w → wpAnyT P md ops Q S n g T' m (listedOf r listed) a w) → wpAnyT P md ops Q S n g T' (m + r.length) listed a w
  | [], _, a, w, _, hS, h, hT => hT a w hS h
  | i :: r, listed, a, w, ho, hS, h, hT => by
    simp only [preB, Bool.and_eq_true] at ho
    obtain ⟨o, v, h1, h2, h3⟩ := h
    exact wpAnyT_take i hst h1 ho.1 (fun c a w h => hQ c a _ _ w h) h2 hS (wpAnyT_pre hst hQ m r _ _ _ ho.2 hS h3 hT)
/-- Both orders. -/
def wpBoth (P : Program) (ops : Array Oper) (Q : Exit → Act → World → Prop) (S : World → Prop) (T : Act → World → Prop) (i j : Nat) (r1 r2 : List (Nat × Bool)) (a : Act) (w : World) : Prop :=
  wpSq P ops Q S T ((i, false) :: r1) a w ∧ wpSq P ops Q S T ((j, false) :: r2) a w
theorem wpAnyT_both (hst : htB md ops n = true) (hQ : ∀ c a d v w, Q (.panic c) (Act.put a d v) w → Q (.panic c) a w) (i j : Nat) (r1 r2 : List (Nat × Bool)) (listed : Array Bool) (a : Act) (w : World) (hl : r1.length = r2.length)
    (hr : ((Region.ready md ops listed == [i, j]) && (decide (i < n) && decide (j < n)) && ordB md ops n g r1 (listed.setIfInBounds i true) && ordB md ops n g r2 (listed.setIfInBounds j true)) = true)
    (h : wpBoth P ops Q S T i j r1 r2 a w) : wpAnyT P md ops Q S n g T (r1.length + 1) listed a w := by
  simp only [Bool.and_eq_true, beq_iff_eq] at hr
  obtain ⟨⟨⟨h1, h2⟩, h3⟩, h4⟩ := hr
  obtain ⟨⟨o, ho, hk⟩, ⟨o', ho', hk'⟩⟩ := h
  refine wpAnyT_two i j h1 (by simpa using h2) ho ho' (fun K' hK => hk K' ?_) (fun K' hK => hk' K' ?_)
  · have hK' := hK.out
    exact fun a w hS hW => hK' a w hS fun hS => wpAnyT_sq hst hQ r1 _ _ _ h3 hS (hW hS)
  · have hK' := hK.out
    exact fun a w hS hW => hK' a w hS fun hS => by rw [hl]; exact wpAnyT_sq hst hQ r2 _ _ _ h4 hS (hW hS)
/-- The beginning. -/
theorem wp_region_both {id : Nat} {l : List Oper} {a : Act} {w : World} (n : Nat) (r : List Nat) (i j : Nat) (r1 r2 : List (Nat × Bool)) (S : World → Prop) (hm : P.follows .mixedOrders = true)
    (hst : (htB .any l.toArray n && preB .any l.toArray n r (Array.replicate l.length false) && decide (r1.length + 1 + r.length = n) && decide (r1.length = r2.length)) = true)
    (hrd : ((Region.ready .any l.toArray (listedOf r (Array.replicate l.length false)) == [i, j]) && (decide (i < n) && decide (j < n)) && ordB .any l.toArray n (l.length - n) r1 ((listedOf r (Array.replicate l.length false)).setIfInBounds i true) && ordB .any l.toArray n (l.length - n) r2 ((listedOf r (Array.replicate l.length false)).setIfInBounds j true)) = true) (hS : S w.drew)
    (h : S w.drew → wpSq P l.toArray (NoPanic Q) S (fun a w => S w ∧ wpBoth P l.toArray (NoPanic Q) S (fun a w => wpList P l.toArray (NoPanic Q) (l.drop n) a w) i j r1 r2 a w) (r.map (·, true)) a w.drew) : (Code.region id l.toArray true).wp P Q a w := by
  refine wp_region_noPanic ?_
  simp only [Bool.and_eq_true, decide_eq_true_eq] at hst
  obtain ⟨⟨⟨h1, h2⟩, h3⟩, h4⟩ := hst
  refine wp_region_ht n S hm h1 hS fun hst' hS' => ?_
  have := wpAnyT_pre (T' := fun a w => wpList P l.toArray (NoPanic Q) (l.drop n) a w) (g := l.length - n) hst' (fun _ _ _ _ _ h => h) (r1.length + 1) r (Array.replicate l.length false) a w.drew h2 hS' (h hS')
    (fun a w _ hT => wpAnyT_both hst' (fun _ _ _ _ _ h => h) i j r1 r2 _ a w h4 hrd hT.2)
  rwa [h3] at this
end
end Go.Proofs.YtfcegalckjeafaaGreatDoor
namespace Go.Proofs.YtfcegalckjeafaaGreatDoor
open Go.RowKit Go.BigFrame
/-- The token of a text in quotes. -/
def textTok (l : List UInt8) (p : Nat) : Tok ⊕ (Nat × Int) := match unqL l with
  | .inl r => .inl ⟨4, p, (p + r.2 : Nat), 0, r.1⟩
  | .inr r => .inr (p + r.1, r.2)
theorem bytes_ext (s : ByteArray) (p : Nat) : bytes (s.extract p s.size) = (bytes s).drop p := by
  show (s.extract p s.size).data.toList = _
  rw [Lib.extract_data, List.take_of_length_le (by rw [List.length_drop]; show s.data.toList.length - p ≤ _; rw [← Lib.size_eq]; exact Nat.le_refl _)]
theorem ext_size (s : ByteArray) (p : Nat) : (s.extract p s.size).size = s.size - p := by
  rw [← bytes_len, bytes_ext, List.length_drop, bytes_len]
theorem unqB_err : ∀ (n : Nat) (l : List UInt8) (p : Nat) (r : Nat × Int), l.length ≤ n → unqB l p = .inr r → (r.2 = 10 ∨ r.2 = 2) ∧ r.1 ≤ p + l.length
  | _, [], p, r, _, h => by simp [unqB] at h; subst h; simp
  | 0, c :: t, _, _, h, _ => by simp at h
  | n + 1, c :: t, p, r, hn, h => by
    unfold unqB at h
    have key : ∀ (x : UInt8) (t' : List UInt8) (k : Nat), t'.length + k ≤ (c :: t).length → 0 < k → consU x (unqB t' (p + k)) = .inr r → (r.2 = 10 ∨ r.2 = 2) ∧ r.1 ≤ p + (c :: t).length := fun x t' k hk h0 h => by
      cases hu : unqB t' (p + k) with
      | inl q => rw [hu] at h; simp [consU] at h
      | inr q =>
        rw [hu] at h
        simp [consU] at h
        subst h
        have := unqB_err n t' (p + k) q (by simp at hn hk; omega) hu
        exact ⟨this.1, by have := this.2; simp at hk ⊢; omega⟩
    split at h
    · cases h
    split at h
    · cases h; simp
    split at h
    · exact key _ _ _ (by simp) (by omega) h
    split at h
    · cases h; simp
    split at h
    · split at h
      · cases h; simp
      split at h
      · cases h; simp
      split at h
      · cases h; simp
      split at h
      · cases h; simp
      exact key _ _ _ (by simp) (by omega) h
    · split at h
      · cases h; simp
      exact key _ _ _ (by simp) (by omega) h
theorem unqL_err {l : List UInt8} {r : Nat × Int} (h : unqL l = .inr r) : (r.2 = 10 ∨ r.2 = 2) ∧ r.1 ≤ l.length := by
  cases l with
  | nil => simp [unqL] at h; subst h; simp
  | cons c t =>
    rw [unqL] at h
    split at h
    · have := unqB_err _ t 1 r (Nat.le_refl _) h
      exact ⟨this.1, by have := this.2; simp; omega⟩
    · cases h; simp
set_option maxRecDepth 100000 in
set_option maxHeartbeats 4000000 in
theorem text_any2 (s : ByteArray) (p : Nat) (w : World) (hp : p ≤ s.size) (hs : s.size ≤ 8388608) : Calls Tryz.prog 93 #[.string s, .int .i64 p] w (NextOut (textTok ((bytes s).drop p) p) w) := by
  have hq := fun W => unq_any (s.extract p s.size) W (by rw [ext_size]; omega)
  rw [bytes_ext] at hq
  have hpi : (p : Int) ≤ (s.size : Int) := by omega
  have hpn : p ≤ s.size := hp
  cases hu : unqL ((bytes s).drop p) with
  | inl r =>
    rw [hu] at hq
    obtain ⟨r1, r2⟩ := r
    have hle := unqL_le _ _ hu
    rw [List.length_drop, bytes_len] at hle
    simp only at hle
    have hR : Hid (textTok ((bytes s).drop p) p = .inl ⟨4, p, (p + r2 : Nat), 0, r1⟩) := Lib.hid (by rw [textTok, hu])
    rw [hR.out]
    have HQ : Hid (∀ W, Calls Tryz.prog 144 #[.string (s.extract p s.size)] W fun e w' => e = .returned (.tuple #[.string ⟨r1.toArray⟩, .int .i64 r2, .int .i64 0]) ∧ Below W.heap.size W w') := Lib.hid hq
    have hi2 : (r2 : Int) ≤ 8388608 := by omega
    clear hq hu hR hle
    go_enter Tryz.func93, Tryz.ntmps93
    go_wp2_with fail
    refine (HQ.out _).mono ?_
    rintro e w1 ⟨rfl, hb⟩
    have hB0 := (Below.refl w.heap.size w).alloc (Nat.le_refl _) (.cells (Tok.l Tok.z).toArray 93)
    have HO := Lib.hid ((Blk.new w 93 (Tok.l Tok.z).toArray).below hb (Blk.new w 93 (Tok.l Tok.z).toArray).lt)
    have HB := Lib.hid (hB0.trans (hb.mono hB0.size))
    clear hb hB0
    go_wp2_with (refine wpList_stE (E := eTk) rfl rfl infoTk rfl ⟨4, p, (p + r2 : Nat), 0, r1⟩ HO.out rfl rfl ?_; intro w8 HR8 ho8 hB8)
    exact ret_ct (p := 4) (u := 5) rfl rfl rfl HR8.out (by kernel_rfl) rfl ⟨hB8 _ _ HB.out (Nat.le_refl _), rfl⟩
  | inr r =>
    rw [hu] at hq
    obtain ⟨r1, r2⟩ := r
    have hle := unqL_err hu
    rw [List.length_drop, bytes_len] at hle
    simp only at hle
    have hR : Hid (textTok ((bytes s).drop p) p = .inr (p + r1, r2)) := Lib.hid (by rw [textTok, hu])
    rw [hR.out]
    have HQ : Hid (∀ W, Calls Tryz.prog 144 #[.string (s.extract p s.size)] W fun e w' => e = .returned (.tuple #[.string ⟨#[]⟩, .int .i64 r1, .int .i64 r2]) ∧ Below W.heap.size W w') := Lib.hid hq
    have hi2 : (r1 : Int) ≤ 8388608 := by omega
    have hne : (r2 == 0) = false := by simp; omega
    have hn0 : r2 ≠ 0 := by omega
    clear hq hu hR hle
    go_enter Tryz.func93, Tryz.ntmps93
    go_wp2_with fail
    refine (HQ.out _).mono ?_
    rintro e w1 ⟨rfl, hb⟩
    have hB0 := (Below.refl w.heap.size w).alloc (Nat.le_refl _) (.cells (Tok.l Tok.z).toArray 93)
    have HO := Lib.hid ((Blk.new w 93 (Tok.l Tok.z).toArray).below hb (Blk.new w 93 (Tok.l Tok.z).toArray).lt)
    have HB := Lib.hid (hB0.trans (hb.mono hB0.size))
    clear hb hB0
    go_wp2_with fail
    refine (new_err r2 _ w1 hn0).mono ?_
    rintro e w9 ⟨v, rfl, hv, hb⟩
    have HV := Lib.hid hv
    have HB9 := Lib.hid (HB.out.trans (hb.mono HB.out.size))
    have HO9 := Lib.hid (HO.out.below hb HO.out.lt)
    clear hv hb HB HO
    go_wp2_with (refine wpList_stE (E := eTk) rfl rfl infoTk rfl Tok.z HO9.out rfl rfl ?_; intro w8 HR8 ho8 hB8)
    refine ret_ct (p := 4) (u := 5) rfl rfl rfl HR8.out (by kernel_rfl) rfl ⟨hB8 _ _ HB9.out (Nat.le_refl _), ?_⟩
    obtain ⟨h1, b, h2, h3⟩ := HV.out
    refine ⟨v, rfl, h1, b, h2, (ho8 b (fun e => ?_)).trans h3⟩
    rw [e] at h3
    exact absurd (blk_type h3 HO9.out) (by decide)
end Go.Proofs.YtfcegalckjeafaaGreatDoor
