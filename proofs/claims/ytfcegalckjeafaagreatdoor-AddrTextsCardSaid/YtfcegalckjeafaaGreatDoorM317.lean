/-
  Parts of the proof that AddrBegins,AddrTexts calls on: Tk, Tl, Wf, Wg.
-/
import Derived.Test.YtfcegalckjeafaaGreatDoorM314
import Derived.Test.YtfcegalckjeafaaGreatDoorM315
import Derived.Test.YtfcegalckjeafaaGreatDoorM316
namespace Go.Proofs.YtfcegalckjeafaaGreatDoor
open Go.RowKit Go.BigFrame
set_option maxRecDepth 100000 in
set_option maxHeartbeats 2000000 in
theorem wrong_any (s : ByteArray) (t : Tok) (w : World) (h0 : 0 ≤ t.a) (_hs : s.size ≤ 8388608) : Calls Tryz.prog 52 #[.string s, t.v] w fun e w' => ∃ v, e = .returned v ∧ ErrAt w' v (wrongL (bytes s) t).1 (wrongL (bytes s) t).2 ∧ Below w.heap.size w w' := by
  obtain ⟨R, hR⟩ : ∃ R, R = wrongL (bytes s) t := ⟨_, rfl⟩
  rw [← hR]
  obtain ⟨tk, ta, te, ti, tt⟩ := t
  simp only at h0
  simp only [Tok.v]
  by_cases hk : tk = 0
  · obtain rfl : R = (s.size, 10) := by rw [hR, wrongL, if_pos hk, bytes_len]
    subst hk
    clear hR
    go_enter Tryz.func52, Tryz.ntmps52
    go_wp2_with fail
    refine (new_err 10 _ _ (by decide)).mono ?_
    rintro e w9 ⟨v, rfl, hv, hb⟩
    have HV := Lib.hid hv
    have HB := Lib.hid (((Below.refl w.heap.size w).alloc (Nat.le_refl _) (.cells _ _)).trans (hb.mono (by simp)))
    clear hv hb
    go_wp2
    go_ret
    exact ⟨_, rfl, HV.out, HB.out⟩
  · obtain rfl : R = (ta.toNat, 2) := by rw [hR, wrongL, if_neg hk]
    have hne : (tk == 0) = false := by simpa using hk
    have hat := Lib.hid (show (ta.toNat : Int) = ta by omega)
    clear hR
    go_enter Tryz.func52, Tryz.ntmps52
    go_wp2_with fail
    refine (new_err 2 _ _ (by decide)).mono ?_
    rintro e w9 ⟨v, rfl, hv, hb⟩
    have HV := Lib.hid hv
    have HB := Lib.hid (((Below.refl w.heap.size w).alloc (Nat.le_refl _) (.cells _ _)).trans (hb.mono (by simp)))
    clear hv hb
    go_wp2
    go_ret
    exact ⟨_, rfl, by rw [hat.out]; exact HV.out, HB.out⟩
/-- A place, or an error. -/
def AtRes (R : Nat ⊕ (Nat × Int)) (n : Int) (v : Value) (w : World) : Prop := match R with | .inl a => n = a ∧ v = .nilIface | .inr r => ErrAt w v r.1 r.2
def AtOut (R : Nat ⊕ (Nat × Int)) (w : World) (e : Ending) (w' : World) : Prop := ∃ n v, e = .returned (.tuple #[.int .i64 n, v]) ∧ Below w.heap.size w w' ∧ AtRes R n v w'
set_option maxRecDepth 100000 in
set_option maxHeartbeats 4000000 in
theorem asign_any (s x : ByteArray) (p : Nat) (w : World) (hp : p ≤ s.size) (hs : s.size ≤ 8388608) (hT : SgT w) (hg : 0 < w.heap.size) :
    Calls Tryz.prog 50 #[.string s, .int .i64 p, .string x] w (AtOut (signL (bytes s) p (bytes x)) w) := by
  obtain ⟨R, hR⟩ : ∃ R, R = signL (bytes s) p (bytes x) := ⟨_, rfl⟩
  rw [← hR]
  have HN := Lib.hid (next_any s p w hp hs hT hg)
  have hnl : ∀ t, nextL (bytes s) p = .inl t → 0 ≤ t.a ∧ 0 ≤ t.e := fun t ht => by
    have := nextL_le (bytes s) p (by rw [bytes_len]; exact hp) t ht
    omega
  go_enter Tryz.func50, Tryz.ntmps50
  go_wp2_with fail
  refine HN.out.mono ?_
  rintro e w1 hno
  cases hnx : nextL (bytes s) p with
  | inr r =>
    rw [signL, hnx] at hR
    subst hR
    rw [hnx] at hno
    obtain ⟨hb, v, rfl, hv⟩ := hno
    obtain ⟨h1, b, rfl, hbk⟩ := hv
    have HB := Lib.hid hb
    have HBK := Lib.hid hbk
    clear hb hbk hnl hnx HN
    simp only [Tok.v, Tok.z]
    go_wp2
    go_ret2
    exact ⟨_, _, rfl, HB.out.alloc HB.out.size _, h1, b, rfl, HBK.out.alloc _⟩
  | inl t =>
    rw [signL, hnx] at hR
    rw [hnx] at hno
    obtain ⟨hb, rfl⟩ := hno
    obtain ⟨ha, he⟩ := hnl t hnx
    have HW := Lib.hid (fun W => wrong_any s t W ha hs)
    obtain ⟨tk, ta, te, ti, tt⟩ := t
    simp only at ha he hR
    simp only [Tok.v] at HW ⊢
    have HB := Lib.hid hb
    clear hb hnl hnx HN
    have hl : (⟨tt.toArray⟩ : ByteArray).toList = tt := by rw [Lib.toList_data]
    have hx : x.toList = bytes x := Lib.toList_data x
    have hq : ((⟨tt.toArray⟩ : ByteArray).toList == x.toList) = decide (tt = bytes x) := by rw [hl, hx, Bool.eq_iff_iff]; simp
    clear hl hx
    generalize (⟨tt.toArray⟩ : ByteArray) = tb at *
    by_cases hk : tk = 1
    · subst hk
      by_cases ht : tt = bytes x
      · rw [if_pos ⟨rfl, ht⟩] at hR
        subst hR
        have heq : (tb.toList == x.toList) = true := by rw [hq]; exact decide_eq_true ht
        have hte := Lib.hid (show (te.toNat : Int) = te by omega)
        clear ht hq HW
        go_wp2
        go_ret2
        exact ⟨_, _, rfl, HB.out.alloc HB.out.size _, hte.out.symm, rfl⟩
      · rw [if_neg (fun h => ht h.2)] at hR
        subst hR
        have heq : (tb.toList == x.toList) = false := by rw [hq]; exact decide_eq_false ht
        clear ht hq
        go_wp2_with fail
        refine (HW.out _).mono ?_
        rintro e w2 ⟨v, rfl, hv, hb⟩
        have HV := Lib.hid hv
        have hal : Below w1.heap.size w1 (w1.alloc (.cells #[.int .i64 1, .int .i64 ta, .int .i64 te, .int .i64 ti, .string tb] 93)) := (Below.refl _ _).alloc (Nat.le_refl _) _
        have hbb := hal.trans (hb.mono hal.size)
        have HB2 := Lib.hid (HB.out.trans (hbb.mono HB.out.size))
        have c2 := (Blk.new w1 93 #[.int .i64 1, .int .i64 ta, .int .i64 te, .int .i64 ti, .string tb]).below hb (Blk.new w1 93 _).lt |>.cell 2
        simp only [List.getElem?_toArray, List.getElem?_cons_succ, List.getElem?_cons_zero] at c2
        clear hv hal hbb hb HB
        go_wp2
        go_ret2
        exact ⟨_, _, rfl, HB2.out, HV.out⟩
    · rw [if_neg (fun h => hk h.1)] at hR
      subst hR
      have hne : (tk == 1) = false := by simpa using hk
      clear hq
      go_wp2_with fail
      refine (HW.out _).mono ?_
      rintro e w2 ⟨v, rfl, hv, hb⟩
      have HV := Lib.hid hv
      have hal : Below w1.heap.size w1 (w1.alloc (.cells #[.int .i64 tk, .int .i64 ta, .int .i64 te, .int .i64 ti, .string tb] 93)) := (Below.refl _ _).alloc (Nat.le_refl _) _
      have hbb := hal.trans (hb.mono hal.size)
      have HB2 := Lib.hid (HB.out.trans (hbb.mono HB.out.size))
      have c2 := (Blk.new w1 93 #[.int .i64 tk, .int .i64 ta, .int .i64 te, .int .i64 ti, .string tb]).below hb (Blk.new w1 93 _).lt |>.cell 2
      simp only [List.getElem?_toArray, List.getElem?_cons_succ, List.getElem?_cons_zero] at c2
      clear hv hal hbb hb HB
      go_wp2
      go_ret2
      exact ⟨_, _, rfl, HB2.out, HV.out⟩
end Go.Proofs.YtfcegalckjeafaaGreatDoor
namespace Go.Proofs.YtfcegalckjeafaaGreatDoor
open Go.RowKit Go.BigFrame
def eSt : Enc St := ⟨fun s => [.int .i64 s.K, .int .i64 s.I, sv s.T], 3, fun _ => rfl, fun s u hu => by
  simp only [List.mem_cons, List.not_mem_nil, or_false] at hu
  rcases hu with rfl | rfl | rfl <;> rfl⟩
theorem isSt : structB 48 3 = true := by kernel_rfl
theorem infoSt : (Tryz.prog.info? 48).map (·.size) = some 3 := by kernel_rfl
def St.v (s : St) : Value := .agg #[.int .i64 s.K, .int .i64 s.I, .string ⟨s.T.toArray⟩]
def St.z : St := ⟨0, 0, []⟩
/-- A step and where it ends, or an error. -/
def StRes (R : (St × Nat) ⊕ (Nat × Int)) (x : St) (n : Int) (v : Value) (w : World) : Prop := match R with | .inl r => x = r.1 ∧ n = r.2 ∧ v = .nilIface | .inr r => ErrAt w v r.1 r.2
def StOut (R : (St × Nat) ⊕ (Nat × Int)) (w : World) (e : Ending) (w' : World) : Prop := ∃ x n v, e = .returned (.tuple #[St.v x, .int .i64 n, v]) ∧ Below w.heap.size w w' ∧ StRes R x n v w'
theorem ret_ctt {fn : Func} {a : Act} {w : World} {R : Ending → World → Prop} {g : Nat} {t : TypeId} {cs : Array Value} {p q u : Tmp} {ty : TypeId} {v1 v2 : Value} (h : fn.results = #[.cell p ty, .tmp q, .tmp u]) (hd : a.defers = []) (hp : a.tmps.getD p undef = .pointer (some ⟨g, 0, none⟩)) (hg : Blk w g t cs) (hb : structB ty cs.size = true) (h1 : a.tmps.getD q undef = v1) (hv : a.tmps.getD u undef = v2)
    (hR : R (.returned (.tuple #[.agg cs, v1, v2])) w) : bodyPost Tryz.prog fn R .ret a w := by
  refine bodyPost_ret (v := .tuple #[.agg cs, v1, v2]) ?_ hd hR
  rw [Array.getD_eq_getD_getElem?] at hp h1 hv
  simp only [results, h]
  simp [asAddr, hp, h1, hv, structB_run hb rfl hg]
theorem ErrAt.far_ {w w8 : World} {v : Value} {a c : Int} {g : Nat} {cs : Array Value} {t : TypeId} (h : ErrAt w v a c) (hk : ∀ k, k ≠ g → w8.heap[k]? = w.heap[k]?) (hg : Blk w g t cs) (ht : t ≠ 154) : ErrAt w8 v a c := by
  obtain ⟨h1, b, h2, h3⟩ := h
  refine ⟨h1, b, h2, (hk b (fun e => ?_)).trans h3⟩
  rw [e] at h3
  exact absurd (blk_type h3 hg).symm ht
theorem wp_named {P : Program} {c : Code} {Q : Exit → Act → World → Prop} {a : Act} {w : World} (h : ∀ W, W = w → c.wp P Q a W) : c.wp P Q a w := h w rfl
set_option maxRecDepth 100000 in
set_option maxHeartbeats 8000000 in
theorem astep_any (s : ByteArray) (f : Tok) (w : World) (hf : f.t = [91] ∨ f.t = [60]) (h0 : 0 ≤ f.e) (h1 : f.e ≤ s.size) (hs : s.size ≤ 8388608) (hT : SgT w) (hg : 0 < w.heap.size) :
    Calls Tryz.prog 53 #[.string s, f.v] w (StOut (stepL (bytes s) f.t f.e.toNat) w) := by
  obtain ⟨R, hR⟩ : ∃ R, R = stepL (bytes s) f.t f.e.toNat := ⟨_, rfl⟩
  rw [← hR]
  obtain ⟨fk, fa, fe, fi, ft⟩ := f
  simp only at hf h0 h1 hR
  obtain ⟨p, rfl⟩ := Int.eq_ofNat_of_zero_le h0
  rw [Int.toNat_natCast] at hR
  have hps : p ≤ s.size := by omega
  have HN := Lib.hid (fun W hT hg => next_any s p W hps hs hT hg)
  have hnl : Hid (∀ t, nextL (bytes s) p = .inl t → 0 ≤ t.a ∧ 0 ≤ t.e ∧ t.e ≤ s.size) := Lib.hid fun t ht => by
    have := nextL_le (bytes s) p (by rw [bytes_len]; exact hps) t ht
    rw [bytes_len] at this
    omega
  have HT := Lib.hid hT
  have HR := Lib.hid hR
  simp only [Tok.v]
  clear hT hR
  rcases hf with rfl | rfl
  · go_enter Tryz.func53, Tryz.ntmps53
    go_wp2_with fail
    refine calls_at fun W hW => ?_
    obtain ⟨hB, hz, -, HO⟩ := boxes2 hW
    refine (HN.out W (HT.out.below hB hg) (Nat.lt_of_lt_of_le hg hB.size)).mono ?_
    rintro e w1 hno
    clear hW
    cases hnx : nextL (bytes s) p with
    | inr r =>
      have hRX : Hid (R = .inr r) := Lib.hid (by rw [HR.out, stepL, hnx])
      rw [hnx] at hno
      obtain ⟨hb, v, rfl, hv⟩ := hno
      obtain ⟨hv1, b, rfl, hbk⟩ := hv
      have HBK := Lib.hid hbk
      have HB1 := Lib.hid (hB.trans (hb.mono hB.size))
      have HO1 := Lib.hid ((HO.below hb HO.lt).alloc (.cells (Tok.l Tok.z).toArray 93))
      have HB2 := Lib.hid (HB1.out.alloc HB1.out.size (.cells (Tok.l Tok.z).toArray 93))
      have HBK2 := Lib.hid (HBK.out.alloc (.cells (Tok.l Tok.z).toArray 93))
      clear hB hb hbk hnx HN HO
      simp only [Tok.v, Tok.z]
      go_wp2_with (first
        | (refine wpList_stE (E := eSt) (o := ⟨none, .store 48 (.tmp 4) _, _, _, _, _⟩) rfl rfl infoSt rfl St.z HO1.out rfl rfl ?_; intro w8 HR8 ho8 hB8)
        | fail)
      refine ret_ctt (p := 4) (q := 5) (u := 6) rfl rfl rfl HR8.out (by kernel_rfl) rfl rfl ⟨St.z, 0, _, rfl, hB8 _ _ HB2.out (by omega), ?_⟩
      rw [hRX.out]
      exact ErrAt.far_ (a := r.1) (c := r.2) ⟨hv1, b, rfl, HBK2.out⟩ ho8 HO1.out (by decide)
    | inl t =>
      obtain ⟨ht0, ht1, ht2⟩ := hnl.out t hnx
      rw [hnx] at hno
      obtain ⟨hb, rfl⟩ := hno
      have HW := Lib.hid (fun W => wrong_any s t W ht0 hs)
      obtain ⟨tk, ta, te, ti, tt⟩ := t
      simp only at ht0 ht1 ht2
      obtain ⟨te, rfl⟩ := Int.eq_ofNat_of_zero_le ht1
      have hts : te ≤ s.size := by omega
      have HB1 := Lib.hid (hB.trans (hb.mono hB.size))
      have HO1 := Lib.hid (HO.below hb HO.lt)
      have HT1 := Lib.hid (HT.out.below HB1.out hg)
      have hg1 : 0 < w1.heap.size := Nat.lt_of_lt_of_le hg HB1.out.size
      clear hB hb HO
      simp only [Tok.v] at HW ⊢
      by_cases h4 : tk = 4
      · subst h4
        go_wp2_with fail
        refine (asign_any s ⟨#[93]⟩ te _ hts hs (HT1.out.below (((Below.refl _ _).alloc (Nat.le_refl _) _).alloc (by simp) _) hg1) (Nat.lt_of_lt_of_le hg1 (by simp; omega))).mono ?_
        rintro e w2 ⟨n, v, rfl, hb2, hres⟩
        have HS := Lib.hid hres
        have hXX := Lib.hid (((show Blk ((w1.alloc (.cells #[.int .i64 4, .int .i64 ta, .int .i64 (te : Int), .int .i64 ti, .string ⟨tt.toArray⟩] 93)).alloc (.cells #[.int .i64 1, .int .i64 0, .string ⟨tt.toArray⟩] 48)) (w1.heap.size + 1) 48 #[.int .i64 1, .int .i64 0, .string ⟨tt.toArray⟩] from Blk.new' (by simp))).below hb2 ((show Blk ((w1.alloc (.cells #[.int .i64 4, .int .i64 ta, .int .i64 (te : Int), .int .i64 ti, .string ⟨tt.toArray⟩] 93)).alloc (.cells #[.int .i64 1, .int .i64 0, .string ⟨tt.toArray⟩] 48)) (w1.heap.size + 1) 48 #[.int .i64 1, .int .i64 0, .string ⟨tt.toArray⟩] from Blk.new' (by simp))).lt)
        have hal : Below w1.heap.size w1 ((w1.alloc (.cells #[.int .i64 4, .int .i64 ta, .int .i64 (te : Int), .int .i64 ti, .string ⟨tt.toArray⟩] 93)).alloc (.cells #[.int .i64 1, .int .i64 0, .string ⟨tt.toArray⟩] 48)) := ((Below.refl _ _).alloc (Nat.le_refl _) _).alloc (by simp) _
        have hbb := hal.trans (hb2.mono hal.size)
        have HO2 := Lib.hid (HO1.out.below hbb HO1.out.lt)
        have HB2 := Lib.hid (HB1.out.trans (hbb.mono HB1.out.size))
        clear hb2 hres hal hbb HN HW
        have x0 := hXX.out.cell 0
        have x1 := hXX.out.cell 1
        have x2 := hXX.out.cell 2
        simp only [List.getElem?_toArray, List.getElem?_cons_succ, List.getElem?_cons_zero] at x0 x1 x2
        go_wp2_with (first
          | (refine wpList_stE (E := eSt) (o := ⟨none, .store 48 (.tmp 4) _, _, _, _, _⟩) rfl rfl infoSt rfl (⟨1, 0, tt⟩ : St) HO2.out rfl rfl ?_; intro w8 HR8 ho8 hB8)
          | fail)
        refine ret_ctt (p := 4) (q := 5) (u := 6) rfl rfl rfl HR8.out (by kernel_rfl) rfl rfl ⟨(⟨1, 0, tt⟩ : St), n, v, rfl, hB8 _ _ HB2.out (by omega), ?_⟩
        have hs2 := HS.out
        have hRX : R = match signL (bytes s) te [93] with | .inr r => .inr r | .inl a => .inl ((⟨1, 0, tt⟩ : St), a) := by rw [HR.out, stepL, hnx]; simp [saysL, endL, Int.toNat_natCast]; cases signL (bytes s) te [93] <;> rfl
        rw [hRX]
        cases hsg : signL (bytes s) te [93] with
        | inl a => rw [show bytes ⟨#[93]⟩ = [93] from rfl, hsg] at hs2; exact ⟨rfl, hs2.1, hs2.2⟩
        | inr r => rw [show bytes ⟨#[93]⟩ = [93] from rfl, hsg] at hs2; exact ErrAt.far_ hs2 ho8 HO2.out (by decide)
      by_cases h3 : tk = 3
      · subst h3
        go_wp2_with fail
        refine (asign_any s ⟨#[93]⟩ te _ hts hs (HT1.out.below (((Below.refl _ _).alloc (Nat.le_refl _) _).alloc (by simp) _) hg1) (Nat.lt_of_lt_of_le hg1 (by simp; omega))).mono ?_
        rintro e w2 ⟨n, v, rfl, hb2, hres⟩
        have HS := Lib.hid hres
        have hXX := Lib.hid (((show Blk ((w1.alloc (.cells #[.int .i64 3, .int .i64 ta, .int .i64 (te : Int), .int .i64 ti, .string ⟨tt.toArray⟩] 93)).alloc (.cells #[.int .i64 0, .int .i64 ti, .string ⟨#[]⟩] 48)) (w1.heap.size + 1) 48 #[.int .i64 0, .int .i64 ti, .string ⟨#[]⟩] from Blk.new' (by simp))).below hb2 ((show Blk ((w1.alloc (.cells #[.int .i64 3, .int .i64 ta, .int .i64 (te : Int), .int .i64 ti, .string ⟨tt.toArray⟩] 93)).alloc (.cells #[.int .i64 0, .int .i64 ti, .string ⟨#[]⟩] 48)) (w1.heap.size + 1) 48 #[.int .i64 0, .int .i64 ti, .string ⟨#[]⟩] from Blk.new' (by simp))).lt)
        have hal : Below w1.heap.size w1 ((w1.alloc (.cells #[.int .i64 3, .int .i64 ta, .int .i64 (te : Int), .int .i64 ti, .string ⟨tt.toArray⟩] 93)).alloc (.cells #[.int .i64 0, .int .i64 ti, .string ⟨#[]⟩] 48)) := ((Below.refl _ _).alloc (Nat.le_refl _) _).alloc (by simp) _
        have hbb := hal.trans (hb2.mono hal.size)
        have HO2 := Lib.hid (HO1.out.below hbb HO1.out.lt)
        have HB2 := Lib.hid (HB1.out.trans (hbb.mono HB1.out.size))
        clear hb2 hres hal hbb HN HW
        have x0 := hXX.out.cell 0
        have x1 := hXX.out.cell 1
        have x2 := hXX.out.cell 2
        simp only [List.getElem?_toArray, List.getElem?_cons_succ, List.getElem?_cons_zero] at x0 x1 x2
        go_wp2_with (first
          | (refine wpList_stE (E := eSt) (o := ⟨none, .store 48 (.tmp 4) _, _, _, _, _⟩) rfl rfl infoSt rfl (⟨0, ti, []⟩ : St) HO2.out rfl rfl ?_; intro w8 HR8 ho8 hB8)
          | fail)
        refine ret_ctt (p := 4) (q := 5) (u := 6) rfl rfl rfl HR8.out (by kernel_rfl) rfl rfl ⟨(⟨0, ti, []⟩ : St), n, v, rfl, hB8 _ _ HB2.out (by omega), ?_⟩
        have hs2 := HS.out
        have hRX : R = match signL (bytes s) te [93] with | .inr r => .inr r | .inl a => .inl ((⟨0, ti, []⟩ : St), a) := by rw [HR.out, stepL, hnx]; simp [saysL, endL, Int.toNat_natCast]; cases signL (bytes s) te [93] <;> rfl
        rw [hRX]
        cases hsg : signL (bytes s) te [93] with
        | inl a => rw [show bytes ⟨#[93]⟩ = [93] from rfl, hsg] at hs2; exact ⟨rfl, hs2.1, hs2.2⟩
        | inr r => rw [show bytes ⟨#[93]⟩ = [93] from rfl, hsg] at hs2; exact ErrAt.far_ hs2 ho8 HO2.out (by decide)
      · have n4 : (tk == 4) = false := by simpa using h4
        have n3 : (tk == 3) = false := by simpa using h3
        have hRX : Hid (R = .inr (wrongL (bytes s) ⟨tk, ta, te, ti, tt⟩)) := Lib.hid (by rw [HR.out, stepL, hnx]; simp [saysL , h4, h3])
        go_wp2_with fail
        refine wp_named fun W3 hW3 => ?_
        obtain ⟨hB3, hz3, bT, bX⟩ := boxes2 hW3
        have HO3 := Lib.hid (HO1.out.below hB3 HO1.out.lt)
        have HB3 := Lib.hid (HB1.out.trans (hB3.mono HB1.out.size))
        clear hW3 HN
        refine wp_region_sq 4 [(0, true), (1, true), (2, true), (3, false)] (fun w' => Blk w' (w1.heap.size + 1) 48 #[.int .i64 0, .int .i64 0, .string ⟨#[]⟩] ∧ Blk w' w1.heap.size 93 #[.int .i64 tk, .int .i64 ta, .int .i64 (te : Int), .int .i64 ti, .string ⟨tt.toArray⟩]) (by kernel_rfl) (by kernel_rfl) ⟨bX.drew, bT.drew⟩ (fun hS => ?_)
        refine sq_t (o := ⟨_, _, _, _, _, _⟩) (v := .agg #[.int .i64 0, .int .i64 0, .string ⟨#[]⟩]) rfl (by rfl) (fun w' hw' => exec_load_list (cs := [.int .i64 0, .int .i64 0, .string ⟨#[]⟩]) (ad := ⟨w1.heap.size + 1, 0, none⟩) isSt rfl (by simp [Act.eval]) (fun j u hu => by have := Blk.cell hw'.1 j; rw [addr_plain, this, ← hu]; exact List.getElem?_toArray)) ?_
        try simp only [Act.put, List.setIfInBounds_toArray, List.set_cons_zero, List.set_cons_succ]
        iterate 1 (refine sq_t (o := ⟨_, _, _, _, _, _⟩) (v := ?_) rfl (by rfl) ?_ ?_; rotate_left; (· (intro w hSw; (try dsimp only at hSw); go_simp; try with_reducible rfl)); try simp only [Act.put, List.setIfInBounds_toArray, List.set_cons_zero, List.set_cons_succ])
        refine sq_t (o := ⟨_, _, _, _, _, _⟩) (v := .agg #[.int .i64 tk, .int .i64 ta, .int .i64 (te : Int), .int .i64 ti, .string ⟨tt.toArray⟩]) rfl (by rfl) (fun w' hw' => exec_load_list (cs := [.int .i64 tk, .int .i64 ta, .int .i64 (te : Int), .int .i64 ti, .string ⟨tt.toArray⟩]) (ad := ⟨w1.heap.size, 0, none⟩) isTok rfl (by simp [Act.eval]) (fun j u hu => by have := Blk.cell hw'.2 j; rw [addr_plain, this, ← hu]; exact List.getElem?_toArray)) ?_
        try simp only [Act.put, List.setIfInBounds_toArray, List.set_cons_zero, List.set_cons_succ]
        refine sq_c rfl (fun K hK => ?_)
        go_simp
        refine (HW.out _).mono ?_
        rintro e w4 ⟨v, rfl, hv, hb4⟩
        have hb34 : Below W3.heap.size W3 w4 := (Below.refl _ _).drew.trans hb4
        refine hK.out _ _ ⟨bX.below hb34 bX.lt, bT.below hb34 bT.lt⟩ (fun hS => ?_)
        clear hK K hS
        have HO4 := Lib.hid (HO3.out.below hb34 HO3.out.lt)
        have HB4 := Lib.hid (HB3.out.trans (hb34.mono HB3.out.size))
        have HV := Lib.hid hv
        try simp only [Act.put, List.setIfInBounds_toArray, List.set_cons_zero, List.set_cons_succ]
        simp only [wpSq, List.drop_succ_cons, List.drop_zero]
        clear hv hb4 hb34 bX bT
        go_wp2_with (first
          | (refine wpList_stE (E := eSt) (o := ⟨none, .store 48 (.tmp 4) _, _, _, _, _⟩) rfl rfl infoSt rfl St.z HO4.out rfl rfl ?_; intro w8 HR8 ho8 hB8)
          | fail)
        refine NoPanic.normal ?_
        go_wp2
        refine ret_ctt (p := 4) (q := 5) (u := 6) rfl rfl rfl HR8.out (by kernel_rfl) rfl rfl ⟨St.z, 0, v, rfl, hB8 _ _ HB4.out (by omega), ?_⟩
        rw [hRX.out]
        exact ErrAt.far_ HV.out ho8 HO4.out (by decide)
  · go_enter Tryz.func53, Tryz.ntmps53
    go_wp2_with fail
    refine calls_at fun W hW => ?_
    obtain ⟨hB, hz, -, HO⟩ := boxes2 hW
    refine (HN.out W (HT.out.below hB hg) (Nat.lt_of_lt_of_le hg hB.size)).mono ?_
    rintro e w1 hno
    clear hW
    cases hnx : nextL (bytes s) p with
    | inr r =>
      have hRX : Hid (R = .inr r) := Lib.hid (by rw [HR.out, stepL, hnx])
      rw [hnx] at hno
      obtain ⟨hb, v, rfl, hv⟩ := hno
      obtain ⟨hv1, b, rfl, hbk⟩ := hv
      have HBK := Lib.hid hbk
      have HB1 := Lib.hid (hB.trans (hb.mono hB.size))
      have HO1 := Lib.hid ((HO.below hb HO.lt).alloc (.cells (Tok.l Tok.z).toArray 93))
      have HB2 := Lib.hid (HB1.out.alloc HB1.out.size (.cells (Tok.l Tok.z).toArray 93))
      have HBK2 := Lib.hid (HBK.out.alloc (.cells (Tok.l Tok.z).toArray 93))
      clear hB hb hbk hnx HN HO
      simp only [Tok.v, Tok.z]
      go_wp2_with (first
        | (refine wpList_stE (E := eSt) (o := ⟨none, .store 48 (.tmp 4) _, _, _, _, _⟩) rfl rfl infoSt rfl St.z HO1.out rfl rfl ?_; intro w8 HR8 ho8 hB8)
        | fail)
      refine ret_ctt (p := 4) (q := 5) (u := 6) rfl rfl rfl HR8.out (by kernel_rfl) rfl rfl ⟨St.z, 0, _, rfl, hB8 _ _ HB2.out (by omega), ?_⟩
      rw [hRX.out]
      exact ErrAt.far_ (a := r.1) (c := r.2) ⟨hv1, b, rfl, HBK2.out⟩ ho8 HO1.out (by decide)
    | inl t =>
      obtain ⟨ht0, ht1, ht2⟩ := hnl.out t hnx
      rw [hnx] at hno
      obtain ⟨hb, rfl⟩ := hno
      have HW := Lib.hid (fun W => wrong_any s t W ht0 hs)
      obtain ⟨tk, ta, te, ti, tt⟩ := t
      simp only at ht0 ht1 ht2
      obtain ⟨te, rfl⟩ := Int.eq_ofNat_of_zero_le ht1
      have hts : te ≤ s.size := by omega
      have HB1 := Lib.hid (hB.trans (hb.mono hB.size))
      have HO1 := Lib.hid (HO.below hb HO.lt)
      have HT1 := Lib.hid (HT.out.below HB1.out hg)
      have hg1 : 0 < w1.heap.size := Nat.lt_of_lt_of_le hg HB1.out.size
      clear hB hb HO
      simp only [Tok.v] at HW ⊢
      by_cases h4 : tk = 4
      · subst h4
        go_wp2_with fail
        refine (asign_any s ⟨#[62]⟩ te _ hts hs (HT1.out.below (((Below.refl _ _).alloc (Nat.le_refl _) _).alloc (by simp) _) hg1) (Nat.lt_of_lt_of_le hg1 (by simp; omega))).mono ?_
        rintro e w2 ⟨n, v, rfl, hb2, hres⟩
        have HS := Lib.hid hres
        have hXX := Lib.hid (((show Blk ((w1.alloc (.cells #[.int .i64 4, .int .i64 ta, .int .i64 (te : Int), .int .i64 ti, .string ⟨tt.toArray⟩] 93)).alloc (.cells #[.int .i64 2, .int .i64 0, .string ⟨tt.toArray⟩] 48)) (w1.heap.size + 1) 48 #[.int .i64 2, .int .i64 0, .string ⟨tt.toArray⟩] from Blk.new' (by simp))).below hb2 ((show Blk ((w1.alloc (.cells #[.int .i64 4, .int .i64 ta, .int .i64 (te : Int), .int .i64 ti, .string ⟨tt.toArray⟩] 93)).alloc (.cells #[.int .i64 2, .int .i64 0, .string ⟨tt.toArray⟩] 48)) (w1.heap.size + 1) 48 #[.int .i64 2, .int .i64 0, .string ⟨tt.toArray⟩] from Blk.new' (by simp))).lt)
        have hal : Below w1.heap.size w1 ((w1.alloc (.cells #[.int .i64 4, .int .i64 ta, .int .i64 (te : Int), .int .i64 ti, .string ⟨tt.toArray⟩] 93)).alloc (.cells #[.int .i64 2, .int .i64 0, .string ⟨tt.toArray⟩] 48)) := ((Below.refl _ _).alloc (Nat.le_refl _) _).alloc (by simp) _
        have hbb := hal.trans (hb2.mono hal.size)
        have HO2 := Lib.hid (HO1.out.below hbb HO1.out.lt)
        have HB2 := Lib.hid (HB1.out.trans (hbb.mono HB1.out.size))
        clear hb2 hres hal hbb HN HW
        have x0 := hXX.out.cell 0
        have x1 := hXX.out.cell 1
        have x2 := hXX.out.cell 2
        simp only [List.getElem?_toArray, List.getElem?_cons_succ, List.getElem?_cons_zero] at x0 x1 x2
        go_wp2_with (first
          | (refine wpList_stE (E := eSt) (o := ⟨none, .store 48 (.tmp 4) _, _, _, _, _⟩) rfl rfl infoSt rfl (⟨2, 0, tt⟩ : St) HO2.out rfl rfl ?_; intro w8 HR8 ho8 hB8)
          | fail)
        refine ret_ctt (p := 4) (q := 5) (u := 6) rfl rfl rfl HR8.out (by kernel_rfl) rfl rfl ⟨(⟨2, 0, tt⟩ : St), n, v, rfl, hB8 _ _ HB2.out (by omega), ?_⟩
        have hs2 := HS.out
        have hRX : R = match signL (bytes s) te [62] with | .inr r => .inr r | .inl a => .inl ((⟨2, 0, tt⟩ : St), a) := by rw [HR.out, stepL, hnx]; simp [saysL, endL, Int.toNat_natCast]; cases signL (bytes s) te [62] <;> rfl
        rw [hRX]
        cases hsg : signL (bytes s) te [62] with
        | inl a => rw [show bytes ⟨#[62]⟩ = [62] from rfl, hsg] at hs2; exact ⟨rfl, hs2.1, hs2.2⟩
        | inr r => rw [show bytes ⟨#[62]⟩ = [62] from rfl, hsg] at hs2; exact ErrAt.far_ hs2 ho8 HO2.out (by decide)
      by_cases h3 : tk = 3
      · subst h3
        have hRX : Hid (R = .inr (wrongL (bytes s) ⟨3, ta, te, ti, tt⟩)) := Lib.hid (by rw [HR.out, stepL, hnx]; simp [saysL ])
        go_wp2_with fail
        refine wp_named fun W3 hW3 => ?_
        obtain ⟨hB3, hz3, bT, bX⟩ := boxes2 hW3
        have HO3 := Lib.hid (HO1.out.below hB3 HO1.out.lt)
        have HB3 := Lib.hid (HB1.out.trans (hB3.mono HB1.out.size))
        clear hW3 HN
        refine wp_region_sq 4 [(0, true), (1, true), (2, true), (3, false)] (fun w' => Blk w' (w1.heap.size + 1) 48 #[.int .i64 0, .int .i64 0, .string ⟨#[]⟩] ∧ Blk w' w1.heap.size 93 #[.int .i64 3, .int .i64 ta, .int .i64 (te : Int), .int .i64 ti, .string ⟨tt.toArray⟩]) (by kernel_rfl) (by kernel_rfl) ⟨bX.drew, bT.drew⟩ (fun hS => ?_)
        refine sq_t (o := ⟨_, _, _, _, _, _⟩) (v := .agg #[.int .i64 0, .int .i64 0, .string ⟨#[]⟩]) rfl (by rfl) (fun w' hw' => exec_load_list (cs := [.int .i64 0, .int .i64 0, .string ⟨#[]⟩]) (ad := ⟨w1.heap.size + 1, 0, none⟩) isSt rfl (by simp [Act.eval]) (fun j u hu => by have := Blk.cell hw'.1 j; rw [addr_plain, this, ← hu]; exact List.getElem?_toArray)) ?_
        try simp only [Act.put, List.setIfInBounds_toArray, List.set_cons_zero, List.set_cons_succ]
        iterate 1 (refine sq_t (o := ⟨_, _, _, _, _, _⟩) (v := ?_) rfl (by rfl) ?_ ?_; rotate_left; (· (intro w hSw; (try dsimp only at hSw); go_simp; try with_reducible rfl)); try simp only [Act.put, List.setIfInBounds_toArray, List.set_cons_zero, List.set_cons_succ])
        refine sq_t (o := ⟨_, _, _, _, _, _⟩) (v := .agg #[.int .i64 3, .int .i64 ta, .int .i64 (te : Int), .int .i64 ti, .string ⟨tt.toArray⟩]) rfl (by rfl) (fun w' hw' => exec_load_list (cs := [.int .i64 3, .int .i64 ta, .int .i64 (te : Int), .int .i64 ti, .string ⟨tt.toArray⟩]) (ad := ⟨w1.heap.size, 0, none⟩) isTok rfl (by simp [Act.eval]) (fun j u hu => by have := Blk.cell hw'.2 j; rw [addr_plain, this, ← hu]; exact List.getElem?_toArray)) ?_
        try simp only [Act.put, List.setIfInBounds_toArray, List.set_cons_zero, List.set_cons_succ]
        refine sq_c rfl (fun K hK => ?_)
        go_simp
        refine (HW.out _).mono ?_
        rintro e w4 ⟨v, rfl, hv, hb4⟩
        have hb34 : Below W3.heap.size W3 w4 := (Below.refl _ _).drew.trans hb4
        refine hK.out _ _ ⟨bX.below hb34 bX.lt, bT.below hb34 bT.lt⟩ (fun hS => ?_)
        clear hK K hS
        have HO4 := Lib.hid (HO3.out.below hb34 HO3.out.lt)
        have HB4 := Lib.hid (HB3.out.trans (hb34.mono HB3.out.size))
        have HV := Lib.hid hv
        try simp only [Act.put, List.setIfInBounds_toArray, List.set_cons_zero, List.set_cons_succ]
        simp only [wpSq, List.drop_succ_cons, List.drop_zero]
        clear hv hb4 hb34 bX bT
        go_wp2_with (first
          | (refine wpList_stE (E := eSt) (o := ⟨none, .store 48 (.tmp 4) _, _, _, _, _⟩) rfl rfl infoSt rfl St.z HO4.out rfl rfl ?_; intro w8 HR8 ho8 hB8)
          | fail)
        refine NoPanic.normal ?_
        go_wp2
        refine ret_ctt (p := 4) (q := 5) (u := 6) rfl rfl rfl HR8.out (by kernel_rfl) rfl rfl ⟨St.z, 0, v, rfl, hB8 _ _ HB4.out (by omega), ?_⟩
        rw [hRX.out]
        exact ErrAt.far_ HV.out ho8 HO4.out (by decide)
      · have n4 : (tk == 4) = false := by simpa using h4
        have n3 : (tk == 3) = false := by simpa using h3
        have hRX : Hid (R = .inr (wrongL (bytes s) ⟨tk, ta, te, ti, tt⟩)) := Lib.hid (by rw [HR.out, stepL, hnx]; simp [saysL , h4, h3])
        go_wp2_with fail
        refine wp_named fun W3 hW3 => ?_
        obtain ⟨hB3, hz3, bT, bX⟩ := boxes2 hW3
        have HO3 := Lib.hid (HO1.out.below hB3 HO1.out.lt)
        have HB3 := Lib.hid (HB1.out.trans (hB3.mono HB1.out.size))
        clear hW3 HN
        refine wp_region_sq 4 [(0, true), (1, true), (2, true), (3, false)] (fun w' => Blk w' (w1.heap.size + 1) 48 #[.int .i64 0, .int .i64 0, .string ⟨#[]⟩] ∧ Blk w' w1.heap.size 93 #[.int .i64 tk, .int .i64 ta, .int .i64 (te : Int), .int .i64 ti, .string ⟨tt.toArray⟩]) (by kernel_rfl) (by kernel_rfl) ⟨bX.drew, bT.drew⟩ (fun hS => ?_)
        refine sq_t (o := ⟨_, _, _, _, _, _⟩) (v := .agg #[.int .i64 0, .int .i64 0, .string ⟨#[]⟩]) rfl (by rfl) (fun w' hw' => exec_load_list (cs := [.int .i64 0, .int .i64 0, .string ⟨#[]⟩]) (ad := ⟨w1.heap.size + 1, 0, none⟩) isSt rfl (by simp [Act.eval]) (fun j u hu => by have := Blk.cell hw'.1 j; rw [addr_plain, this, ← hu]; exact List.getElem?_toArray)) ?_
        try simp only [Act.put, List.setIfInBounds_toArray, List.set_cons_zero, List.set_cons_succ]
        iterate 1 (refine sq_t (o := ⟨_, _, _, _, _, _⟩) (v := ?_) rfl (by rfl) ?_ ?_; rotate_left; (· (intro w hSw; (try dsimp only at hSw); go_simp; try with_reducible rfl)); try simp only [Act.put, List.setIfInBounds_toArray, List.set_cons_zero, List.set_cons_succ])
        refine sq_t (o := ⟨_, _, _, _, _, _⟩) (v := .agg #[.int .i64 tk, .int .i64 ta, .int .i64 (te : Int), .int .i64 ti, .string ⟨tt.toArray⟩]) rfl (by rfl) (fun w' hw' => exec_load_list (cs := [.int .i64 tk, .int .i64 ta, .int .i64 (te : Int), .int .i64 ti, .string ⟨tt.toArray⟩]) (ad := ⟨w1.heap.size, 0, none⟩) isTok rfl (by simp [Act.eval]) (fun j u hu => by have := Blk.cell hw'.2 j; rw [addr_plain, this, ← hu]; exact List.getElem?_toArray)) ?_
        try simp only [Act.put, List.setIfInBounds_toArray, List.set_cons_zero, List.set_cons_succ]
        refine sq_c rfl (fun K hK => ?_)
        go_simp
        refine (HW.out _).mono ?_
        rintro e w4 ⟨v, rfl, hv, hb4⟩
        have hb34 : Below W3.heap.size W3 w4 := (Below.refl _ _).drew.trans hb4
        refine hK.out _ _ ⟨bX.below hb34 bX.lt, bT.below hb34 bT.lt⟩ (fun hS => ?_)
        clear hK K hS
        have HO4 := Lib.hid (HO3.out.below hb34 HO3.out.lt)
        have HB4 := Lib.hid (HB3.out.trans (hb34.mono HB3.out.size))
        have HV := Lib.hid hv
        try simp only [Act.put, List.setIfInBounds_toArray, List.set_cons_zero, List.set_cons_succ]
        simp only [wpSq, List.drop_succ_cons, List.drop_zero]
        clear hv hb4 hb34 bX bT
        go_wp2_with (first
          | (refine wpList_stE (E := eSt) (o := ⟨none, .store 48 (.tmp 4) _, _, _, _, _⟩) rfl rfl infoSt rfl St.z HO4.out rfl rfl ?_; intro w8 HR8 ho8 hB8)
          | fail)
        refine NoPanic.normal ?_
        go_wp2
        refine ret_ctt (p := 4) (q := 5) (u := 6) rfl rfl rfl HR8.out (by kernel_rfl) rfl rfl ⟨St.z, 0, v, rfl, hB8 _ _ HB4.out (by omega), ?_⟩
        rw [hRX.out]
        exact ErrAt.far_ HV.out ho8 HO4.out (by decide)
end Go.Proofs.YtfcegalckjeafaaGreatDoor
namespace Go.Proofs.YtfcegalckjeafaaGreatDoor
open Go.RowKit Go.BigFrame Go.Shelf
/-- A value, or an error's place and code: (tree, code, place). -/
def ToldOut (w : World) (S : Nat → Prop) (x : T × Int × Nat) (e : Ending) (w' : World) : Prop := ∃ u v, e = .returned (.tuple #[V.a u, v]) ∧ IsV w' (up S w.heap.size) x.1 u ∧ ((x.2.1 = 0 ∧ v = .nilIface) ∨ ErrAt w' v x.2.2 x.2.1) ∧ Below w.heap.size w w'
set_option maxRecDepth 100000 in
set_option maxHeartbeats 4000000 in
theorem told_ok (v : V) (n : Int) (w : World) : Calls Tryz.prog 108 #[v.a, .int .i64 0, .int .i64 n] w fun e w' => e = .returned (.tuple #[v.a, .nilIface]) ∧ Below w.heap.size w w' := by
  simp only [V.a]
  go_enter Tryz.func108, Tryz.ntmps108
  go_wp2_with fail
  exact ret_ct (p := 6) (u := 7) rfl rfl rfl (Blk.new' (by simp)) (by kernel_rfl) rfl ⟨rfl, ((Below.refl _ _).alloc (Nat.le_refl _) _).alloc (by simp) _⟩
set_option maxRecDepth 100000 in
set_option maxHeartbeats 4000000 in
theorem told_err (v : V) (c : Int) (n : Nat) (w : World) (hc : c ≠ 0) : Calls Tryz.prog 108 #[v.a, .int .i64 c, .int .i64 n] w fun e w' => ∃ x, e = .returned (.tuple #[V.z.a, x]) ∧ ErrAt w' x n c ∧ Below w.heap.size w w' := by
  have HE := Lib.hid (fun W => new_err c n W hc)
  have hne : (c == 0) = false := by simpa using hc
  clear hc
  simp only [V.a]
  go_enter Tryz.func108, Tryz.ntmps108
  go_wp2_with fail
  refine calls_at fun W hW => ?_
  obtain ⟨hB, hz, HV, HO⟩ := boxes2 (t2 := 42) (c2 := V.z.l.toArray) hW
  refine (HE.out W).mono ?_
  rintro e w2 ⟨x, rfl, hx, hb2⟩
  have KX := Lib.hid hx
  have KO := Lib.hid (HO.below hb2 HO.lt)
  have KB := Lib.hid (hB.trans (hb2.mono hB.size))
  clear hW HV HO hB hx hb2 HE
  go_wp2_with (first
    | (refine wpList_stE (E := eV) rfl rfl infoV11 rfl V.z KO.out rfl rfl ?_; intro w8 HR8 ho8 hB8)
    | fail)
  exact ret_ct (p := 6) (u := 7) rfl rfl rfl HR8.out (by kernel_rfl) rfl ⟨x, rfl, KX.out.far_ ho8 KO.out (by decide), hB8 _ _ KB.out (by omega)⟩
theorem told_any (v : V) (x : T) (c : Int) (n : Nat) (S : Nat → Prop) (w : World) (h : IsV w S x v) :
    Calls Tryz.prog 108 #[v.a, .int .i64 c, .int .i64 n] w (ToldOut w S (if c = 0 then (x, 0, 0) else (T.z, c, n))) := by
  by_cases hc : c = 0
  · subst hc
    rw [if_pos rfl]
    refine (told_ok v n w).mono ?_
    rintro e w' ⟨rfl, hb⟩
    exact ⟨v, _, rfl, (h.keeps (.of_below hb)).more fun _ => .inl, .inl ⟨rfl, rfl⟩, hb⟩
  · rw [if_neg hc]
    refine (told_err v c n w hc).mono ?_
    rintro e w' ⟨u, rfl, hx, hb⟩
    exact ⟨V.z, _, rfl, isV_z _ _, .inr hx, hb⟩
/-- Trees for which Get and Set are proved. -/
structure GSok (P : T → Prop) : Prop where
  get : ∀ (x : T) (v : V) (s : St) (S : Nat → Prop) (w : World), P x → IsV w S x v → s.T.length ≤ 100000 → Calls Tryz.prog 56 #[v.a, s.a] w (GetOut w S (getT x s))
  getP : ∀ (x : T) (s : St), P x → P (getT x s).1
  set : ∀ (x y : T) (v u : V) (s : St) (S : Nat → Prop) (w : World), P x → P y → IsV w S x v → IsV w S y u → s.T.length ≤ 100000 → Calls Tryz.prog 81 #[v.a, s.a, u.a] w (SetOut w S (setT x s y))
  setP : ∀ (x y : T) (s : St), P x → P y → P (setT x s y).1
  z : P T.z
def putD (y x : T) : List St → T × Int
  | [] => (y, 0)
  | s :: _ => setT x s y
theorem StepsIn.cells {w : World} {A : Option Addr} {l : List St} (h : StepsIn w A l) {k : Nat} {s : St} (hs : l[k]? = some s) : ∃ ad, A = some ad ∧ ∀ j u, (eSt.l s)[j]? = some u → w.cell? ((ad.add (k * 3)).add j) = some u := by
  obtain ⟨ad, e, hb, hc⟩ := h (by have := (List.getElem?_eq_some_iff.1 hs).1; omega)
  obtain ⟨c0, c1, c2⟩ := hc k s hs
  refine ⟨ad, e, fun j u hu => ?_⟩
  match j with
  | 0 => simp [eSt] at hu; subst hu; exact c0
  | 1 => simp [eSt] at hu; subst hu; exact c1
  | 2 => simp [eSt] at hu; subst hu; exact c2
  | j + 3 => simp [eSt] at hu
end Go.Proofs.YtfcegalckjeafaaGreatDoor
namespace Go.Proofs.YtfcegalckjeafaaGreatDoor
open Go.RowKit Go.BigFrame Go.Shelf
set_option maxRecDepth 100000 in
set_option maxHeartbeats 4000000 in
theorem put1_any {P : T → Prop} (G : GSok P) (x y : T) (v u : V) (gx : Nat) (A : Option Addr) (m c : Nat) (l : List St) (S : Nat → Prop) (w : World) (hm : m = l.length) (hx : P x) (hy : P y) (hv : IsV w S x v) (hu : IsV w S y u) (hgx : VB w gx u) (hl : StepsIn w A l) (ht : ∀ s ∈ l, s.T.length ≤ 100000) (hn : l.length ≤ 1000000) :
    Calls Tryz.prog 80 #[v.a, .slice A m c, .pointer (some ⟨gx, 0, none⟩)] w (SetOut w S (putD y x l)) := by
  subst hm
  have HU := Lib.hid hu
  have HGX := Lib.hid hgx
  cases l with
  | nil =>
    clear hv hl ht hgx hu
    simp only [V.a, List.length_nil]
    go_enter Tryz.func80, Tryz.ntmps80
    go_wp2_with (first
      | (refine wpList_ldl rfl (o := ⟨some 10, _, _, _, _, _⟩) rfl rfl u.l isV (fun j u' hu => by rw [at_zero]; exact (Blk.cell (Blk.alloc (Blk.alloc HGX.out _) _) j).trans (by simpa using hu)) ?_)
      | (refine wpList_stE (E := eV) rfl rfl infoV11 rfl u (Blk.new' (cs := V.z.l.toArray) (by simp)) rfl rfl ?_; intro w8 HR8 ho8 hB8)
      | fail)
    exact ret_ct (p := 5) (u := 6) rfl rfl rfl HR8.out (by kernel_rfl) rfl ⟨u, rfl, (HU.out.keeps (w' := w8) (fun k hk hs => (ho8 k (by omega)).trans (((Below.refl _ _).alloc (Nat.le_refl _) _ |>.alloc (by simp) _).block k hk))).more fun _ => .inl, hB8 _ _ (((Below.refl _ _).alloc (Nat.le_refl _) _).alloc (by simp) _) (by omega)⟩
  | cons s l =>
    have HC := Lib.hid (fun W (hW : Below w.heap.size w W) => G.set x y v u s (fun k => S k ∧ k < w.heap.size) W hx hy (hv.bound.keeps (.of_below hW)) (hu.bound.keeps (.of_below hW)) (ht s (by simp)))
    obtain ⟨ad, rfl, hc⟩ := hl.cells (k := 0) rfl
    have hll : 0 < (s :: l).length := by simp
    have hli : (0 : Int) < ((s :: l).length : Int) := by omega
    have HCC := Lib.hid hc
    have HAD : Hid (ad.block < w.heap.size) := Lib.hid (by obtain ⟨ad', e, hb, -⟩ := hl (by simp); cases e; exact hb)
    clear hv hl ht hgx hu hc
    generalize (s :: l).length = m at *
    have hP : putD y x (s :: l) = setT x s y := rfl
    rw [hP]
    clear hP
    simp only [V.a, St.a] at HC ⊢
    go_enter Tryz.func80, Tryz.ntmps80
    go_wp2_with fail
    refine wp_named fun W hW => ?_
    obtain ⟨hB, hz, HV, HO⟩ := boxes2 (t2 := 42) (c2 := V.z.l.toArray) hW
    have HZ := Lib.hid hz
    have KEEP : Hid (∀ W', Below W.heap.size W W' → Below w.heap.size w W' ∧ VB W' w.heap.size v ∧ VB W' (w.heap.size + 1) V.z ∧ VB W' gx u ∧ ∀ j u, (eSt.l s)[j]? = some u → W'.cell? ((ad.add (0 * 3)).add j) = some u) := Lib.hid fun W' h => ⟨hB.trans (h.mono hB.size), Blk.below (show VB W w.heap.size v from HV) h HV.lt, Blk.below HO h HO.lt, Blk.below (Blk.below HGX.out hB (Blk.lt HGX.out)) h (Nat.lt_of_lt_of_le (Blk.lt HGX.out) hB.size), fun j u hu => by
      have hbl : ∀ o, ((ad.add (0 * 3)).add o).block = ad.block := fun o => by simp [Addr.add]; split <;> rfl
      have h1 := HCC.out j u hu
      exact (h.cell (by rw [hbl]; exact Nat.lt_of_lt_of_le HAD.out hB.size)).trans ((hB.cell (by rw [hbl]; exact HAD.out)).trans h1)⟩
    clear hW hB HV HO
    have K0 := KEEP.out W.drew (Below.refl _ _).drew
    refine wp_region_sq 8 [(0, true), (1, true), (2, true), (3, true), (4, true), (5, false), (6, true), (7, true)] (fun w' => VB w' w.heap.size v ∧ VB w' gx u ∧ ∀ j u, (eSt.l s)[j]? = some u → w'.cell? ((ad.add (0 * 3)).add j) = some u) (by kernel_rfl) (by kernel_rfl) ⟨K0.2.1, K0.2.2.2⟩ (fun hS => ?_)
    refine sq_t (o := ⟨_, _, _, _, _, _⟩) (v := V.a v) rfl (by rfl) (fun w' hw' => exec_load_V rfl (by simp [Act.eval]) hw'.1) ?_
    try simp only [Act.put, List.setIfInBounds_toArray, List.set_cons_zero, List.set_cons_succ]
    iterate 2 (refine sq_t (o := ⟨_, _, _, _, _, _⟩) (v := ?_) rfl (by rfl) ?_ ?_; rotate_left; (· (intro w hSw; go_simp; try with_reducible rfl)); try simp only [Act.put, List.setIfInBounds_toArray, List.set_cons_zero, List.set_cons_succ])
    refine sq_t (o := ⟨_, _, _, _, _, _⟩) (v := .agg #[.int .i64 s.K, .int .i64 s.I, .string ⟨s.T.toArray⟩]) rfl (by rfl) (fun w' hw' => exec_load_list (cs := eSt.l s) (by kernel_rfl) rfl (by simp [Act.eval]; rfl) hw'.2.2) ?_
    try simp only [Act.put, List.setIfInBounds_toArray, List.set_cons_zero, List.set_cons_succ]
    refine sq_t (o := ⟨_, _, _, _, _, _⟩) (v := V.a u) rfl (by rfl) (fun w' hw' => exec_load_V rfl (by simp [Act.eval]) hw'.2.1) ?_
    try simp only [Act.put, List.setIfInBounds_toArray, List.set_cons_zero, List.set_cons_succ]
    simp only [V.a]
    refine sq_c rfl (fun K hK => ?_)
    go_simp
    refine (HC.out W.drew K0.1).mono ?_
    rintro e w4 ⟨u', rfl, hu', hb4⟩
    have K4 := KEEP.out w4 ((Below.refl _ _).drew.trans hb4)
    refine hK.out _ _ ⟨K4.2.1, K4.2.2.2⟩ (fun hS => ?_)
    clear hK K
    have KO := Lib.hid K4.2.2.1
    have KB := Lib.hid K4.1
    have KU := Lib.hid hu'.bound
    have hz4 : W.heap.size ≤ W.drew.heap.size := by simp
    try simp only [Act.put, List.setIfInBounds_toArray, List.set_cons_zero, List.set_cons_succ]
    iterate 2 (refine sq_t (o := ⟨_, _, _, _, _, _⟩) (v := ?_) rfl (by rfl) ?_ ?_; rotate_left; (· (intro w hSw; go_simp; try with_reducible rfl)); try simp only [Act.put, List.setIfInBounds_toArray, List.set_cons_zero, List.set_cons_succ])
    simp only [wpSq, List.drop_succ_cons, List.drop_zero]
    clear K4 K0 hS hu' hb4
    simp only [V.a]
    go_wp2_with (first
      | (refine wpList_stE (E := eV) rfl rfl infoV11 rfl u' KO.out rfl rfl ?_; intro w8 HR8 ho8 hB8)
      | fail)
    refine NoPanic.normal ?_
    go_wp2_with fail
    refine ret_ct (p := 5) (u := 6) rfl rfl rfl HR8.out (by kernel_rfl) rfl ⟨u', rfl, (KU.out.keeps (w' := w8) (fun k hk hs => ho8 k (by have := HZ.out; have := Blk.lt HGX.out; rcases hs.1 with h | h <;> omega))).more (fun k h => by have := HZ.out; rcases h.1 with h | h; exact .inl h.1; exact .inr (by omega)), hB8 _ _ KB.out (by omega)⟩
end Go.Proofs.YtfcegalckjeafaaGreatDoor
