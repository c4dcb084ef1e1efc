/-
  Parts of the proof that AddrBegins,AddrTexts calls on: Uc, Ud.
-/
import Derived.Test.YtfcegalckjeafaaGreatDoorM320
import Derived.Test.YtfcegalckjeafaaGreatDoorM327
namespace Go.Proofs.YtfcegalckjeafaaGreatDoor
open Go.RowKit Go.BigFrame
set_option maxRecDepth 100000 in
set_option maxHeartbeats 4000000 in
theorem rsign_any (s x : ByteArray) (r : RS) (g : Nat) (w : World) (h : RdAt w g s r) (hp : r.p ≤ s.size) (hs : s.size ≤ 8388608) : Calls Tryz.prog 59 #[.pointer (some ⟨g, 0, none⟩), .string x] w (RdOut g s (r.sign (bytes s) (bytes x)) w) := by
  have HN := Lib.hid (rnx_any s r g w h hp hs)
  obtain ⟨N, hN⟩ : ∃ N, N = r.next (bytes s) := ⟨_, rfl⟩
  obtain ⟨R, hR⟩ : ∃ R, R = r.sign (bytes s) (bytes x) := ⟨_, rfl⟩
  rw [← hR]
  unfold RS.sign at hR
  rw [← hN] at hR HN
  obtain ⟨t, r1⟩ := N
  simp only at hR
  have HR := Lib.hid hR
  clear hR hN h
  go_enter Tryz.func59, Tryz.ntmps59
  go_wp2_with fail
  refine HN.out.mono ?_
  rintro e w1 ⟨rfl, hc, hr⟩
  have HC := Lib.hid hc
  have HR1 := Lib.hid hr
  have HNE : Hid (w1.heap.size ≠ g) := Lib.hid (Nat.ne_of_gt hr.lt)
  have HW := Lib.hid (fun W h => rwrong_any s r1 g t W h hs)
  clear HN hc hr
  obtain ⟨tk, ta, te, ti, tt⟩ := t
  simp only [Tok.v] at HW ⊢
  have hl : (⟨tt.toArray⟩ : ByteArray).toList = tt := by rw [Lib.toList_data]
  have hx : x.toList = bytes x := Lib.toList_data x
  have hq : ((⟨tt.toArray⟩ : ByteArray).toList == x.toList) = decide (tt = bytes x) := by rw [hl, hx, Bool.eq_iff_iff]; simp
  clear hl hx
  simp only at HR
  have HC2 := Lib.hid (HC.out.trans (Chg.of_below (F := fun k => k = g) ((Below.refl _ _).alloc (Nat.le_refl _) (.cells #[.int .i64 tk, .int .i64 ta, .int .i64 te, .int .i64 ti, .string ⟨tt.toArray⟩] 93))) (fun _ _ h => h))
  have HR2 := Lib.hid (Blk.alloc HR1.out (.cells #[.int .i64 tk, .int .i64 ta, .int .i64 te, .int .i64 ti, .string ⟨tt.toArray⟩] 93))
  generalize (⟨tt.toArray⟩ : ByteArray) = tb at *
  by_cases hk : tk = 1
  · subst hk
    by_cases ht : tt = bytes x
    · have heq : (tb.toList == x.toList) = true := by rw [hq]; exact decide_eq_true ht
      have hRR : R = r1 := by rw [HR.out, if_pos ⟨rfl, ht⟩]
      clear hq HW ht
      go_wp2_with fail
      exact post_none rfl rfl ⟨rfl, HC2.out, HR2.out⟩
    · have heq : (tb.toList == x.toList) = false := by rw [hq]; exact decide_eq_false ht
      have HRR := Lib.hid (HR.out.trans (if_neg (fun h => ht h.2)))
      clear hq ht HR
      go_wp2_with fail
      refine (HW.out _ HR2.out).mono ?_
      rintro e w2 ⟨rfl, hc, hr⟩
      have HC3 := Lib.hid (HC2.out.one_trans hc)
      have HR3 := Lib.hid hr
      clear hc hr
      go_wp2
      refine post_none rfl rfl ⟨rfl, HC3.out, ?_⟩
      rw [HRR.out]
      exact HR3.out
  · have hne : (tk != 1) = true := by simpa using hk
    have HRR := Lib.hid (HR.out.trans (if_neg (fun h => hk h.1)))
    clear hq hk HR
    go_wp2_with fail
    refine (HW.out _ HR2.out).mono ?_
    rintro e w2 ⟨rfl, hc, hr⟩
    have HC3 := Lib.hid (HC2.out.one_trans hc)
    have HR3 := Lib.hid hr
    clear hc hr
    go_wp2
    refine post_none rfl rfl ⟨rfl, HC3.out, ?_⟩
    rw [HRR.out]
    exact HR3.out
theorem RS.fail_p (r : RS) (a e : Int) : (r.fail a e).p = r.p := by unfold RS.fail; split <;> rfl
theorem RS.wrong_p (r : RS) (s : List UInt8) (t : Tok) : (r.wrong s t).p = r.p := by unfold RS.wrong; rw [RS.fail_p]; split <;> simp [RS.fail_p]
theorem RS.next_p (r : RS) (s : List UInt8) (h : r.p ≤ s.length) : (r.next s).2.p ≤ s.length := by
  unfold RS.next
  split
  · split
    · rename_i t ht
      have := nextL_le s r.p h t ht
      show t.e.toNat ≤ _
      omega
    · show (r.fail _ _).p ≤ _
      rw [RS.fail_p]; exact h
  · exact h
theorem RS.sign_p (r : RS) (s x : List UInt8) (h : r.p ≤ s.length) : (r.sign s x).p ≤ s.length := by
  unfold RS.sign
  split
  · exact RS.next_p r s h
  · rw [RS.wrong_p]; exact RS.next_p r s h
/-- A step behind its first sign. -/
def RS.step (r : RS) (s o : List UInt8) : St × RS :=
  (if (r.next s).1.k = 3 ∧ o = [91] then ⟨0, (r.next s).1.i, []⟩ else ⟨if o = [91] then 1 else 2, 0, (r.next s).1.t⟩,
   (if ((r.next s).1.k = 3 ∧ o = [91]) ∨ (r.next s).1.k = 4 then (r.next s).2 else (r.next s).2.wrong s (r.next s).1).sign s (if o = [91] then [93] else [62]))
def SpOut (g : Nat) (s : ByteArray) (R : St × RS) (w : World) (e : Ending) (w' : World) : Prop := e = .returned R.1.v ∧ Chg (fun k => k = g) w w' ∧ RdAt w' g s R.2
set_option maxRecDepth 100000 in
set_option maxHeartbeats 8000000 in
theorem rstep_any (s o : ByteArray) (r : RS) (g : Nat) (w : World) (h : RdAt w g s r) (hp : r.p ≤ s.size) (hs : s.size ≤ 8388608) : Calls Tryz.prog 62 #[.pointer (some ⟨g, 0, none⟩), .string o] w (SpOut g s (r.step (bytes s) (bytes o)) w) := by
  have HB0 := Lib.hid ((Chg.refl (fun k => k = g) w).trans (.of_below ((Below.refl _ _).alloc (Nat.le_refl _) (.cells (eSt.l St.z).toArray 48))) fun _ _ h => h)
  have HR0 : Hid (RdAt (w.alloc (.cells (eSt.l St.z).toArray 48)) g s r) := Lib.hid (Blk.alloc h (.cells (eSt.l St.z).toArray 48))
  have HT0 := Lib.hid (Blk.new w 48 (eSt.l St.z).toArray)
  have HN := Lib.hid (fun W h => rnx_any s r g W h hp hs)
  have HNE : Hid (w.heap.size ≠ g) := Lib.hid (Nat.ne_of_gt h.lt)
  have hn2 := RS.next_p r (bytes s) (by rw [bytes_len]; exact hp)
  obtain ⟨R, hR⟩ : ∃ R, R = r.step (bytes s) (bytes o) := ⟨_, rfl⟩
  rw [← hR]
  unfold RS.step at hR
  generalize r.next (bytes s) = N at *
  obtain ⟨t, r1⟩ := N
  simp only at hR hn2
  rw [bytes_len] at hn2
  have HR := Lib.hid hR
  have HW := Lib.hid (fun W h => rwrong_any s r1 g t W h hs)
  have HSG := Lib.hid (fun x r W h hp => rsign_any s x r g W h hp hs)
  have ho : o.toList = bytes o := Lib.toList_data o
  have hq : (o.toList == [91]) = decide (bytes o = [91]) := by rw [ho, Bool.eq_iff_iff]; simp
  clear h hR ho
  by_cases h91 : bytes o = [91]
  · rw [decide_eq_true h91] at hq
    go_enter Tryz.func62, Tryz.ntmps62
    go_wp2_with fail
    refine (HN.out _ HR0.out).mono ?_
    rintro e w1 ⟨rfl, hc, hr⟩
    have HZ := Lib.hid (hc.blk HT0.out HNE.out)
    have HC := Lib.hid (HB0.out.one_trans hc)
    have HR1 := Lib.hid hr
    clear hc hr HN HB0 HR0 HT0
    obtain ⟨tk, ta, te, ti, tt⟩ := t
    simp only [Tok.v] at HW ⊢
    simp only at HR
    by_cases h3 : tk = 3
    · subst h3
      go_wp2_with fail
      refine calls_at fun W hW => ?_
      have hbW : Below w1.heap.size w1 W := by subst hW; repeat (first | exact Below.refl _ _ | refine Below.alloc ?_ (by simp) _ | refine Below.setCell ?_ (by simp) _)
      have hX : Blk W (w1.heap.size + 1) 48 #[.int .i64 0, .int .i64 ti, .string ⟨#[]⟩] := by subst hW; exact Blk.new' (by simp)
      have HXL : Hid (w1.heap.size + 1 < W.heap.size) := Lib.hid hX.lt
      have HXG : Hid (w1.heap.size + 1 ≠ g ∧ w.heap.size ≠ w1.heap.size + 1) := Lib.hid ⟨by have := HR1.out.lt; omega, by have := HZ.out.lt; omega⟩
      clear hW
      have HX2 := Lib.hid hX
      have HZ2 := Lib.hid (HZ.out.below hbW HZ.out.lt)
      have HC2 := Lib.hid (HC.out.one_trans (.of_below hbW))
      have HR2 := Lib.hid (show RdAt W g s r1 from HR1.out.below hbW HR1.out.lt)
      clear hbW hX
      refine (HSG.out _ _ _ HR2.out hn2).mono ?_
      rintro e w3 ⟨rfl, hc, hr⟩
      have HX3 := Lib.hid (hc.blk HX2.out HXG.out.1)
      have HZ3 := Lib.hid (hc.blk HZ2.out HNE.out)
      have HC3 := Lib.hid (HC2.out.one_trans hc)
      have HR3 := Lib.hid hr
      clear hc hr
      go_wp2_with (first
        | (refine wpList_ldl (o := ⟨_, .load 48 (.tmp 6), _, _, _, _⟩) (cs := [.int .i64 0, .int .i64 ti, .string ⟨#[]⟩]) rfl rfl rfl isSt (fun j u hu => by rw [addr_plain]; exact (Blk.cell HX3.out j).trans (by simpa using hu)) ?_)
        | (refine wpList_stE (E := eSt) (o := ⟨none, .store 48 (.tmp 4) _, _, _, _, _⟩) rfl rfl infoSt rfl (⟨0, ti, []⟩ : St) HZ3.out rfl rfl ?_; intro w8 HR8 ho8 hB8)
        | fail)
      refine ret_c (p := 4) rfl rfl rfl HR8.out (by kernel_rfl) ?_
      have hRR : R = (⟨0, ti, []⟩, (r1).sign (bytes s) [93]) := by rw [HR.out]; simp [h91]
      rw [hRR]
      exact ⟨rfl, HC3.out.trans (Chg.one (F := fun k => k = w.heap.size) ho8 hB8 rfl) (fun k hk e => absurd hk (by have e' : k = w.heap.size := e; omega)), (ho8 g (Ne.symm HNE.out)).trans HR3.out⟩
    have n3 : (tk == 3) = false := by simpa using h3
    by_cases h4 : tk = 4
    · subst h4
      go_wp2_with fail
      refine calls_at fun W hW => ?_
      have hbW : Below w1.heap.size w1 W := by subst hW; repeat (first | exact Below.refl _ _ | refine Below.alloc ?_ (by simp) _ | refine Below.setCell ?_ (by simp) _)
      have hX : Blk W (w1.heap.size + 1) 48 #[.int .i64 1, .int .i64 0, .string ⟨tt.toArray⟩] := by subst hW; exact Blk.new' (by simp)
      have HXL : Hid (w1.heap.size + 1 < W.heap.size) := Lib.hid hX.lt
      have HXG : Hid (w1.heap.size + 1 ≠ g ∧ w.heap.size ≠ w1.heap.size + 1) := Lib.hid ⟨by have := HR1.out.lt; omega, by have := HZ.out.lt; omega⟩
      clear hW
      have HX2 := Lib.hid hX
      have HZ2 := Lib.hid (HZ.out.below hbW HZ.out.lt)
      have HC2 := Lib.hid (HC.out.one_trans (.of_below hbW))
      have HR2 := Lib.hid (show RdAt W g s r1 from HR1.out.below hbW HR1.out.lt)
      clear hbW hX
      refine (HSG.out _ _ _ HR2.out hn2).mono ?_
      rintro e w3 ⟨rfl, hc, hr⟩
      have HX3 := Lib.hid (hc.blk HX2.out HXG.out.1)
      have HZ3 := Lib.hid (hc.blk HZ2.out HNE.out)
      have HC3 := Lib.hid (HC2.out.one_trans hc)
      have HR3 := Lib.hid hr
      clear hc hr
      go_wp2_with (first
        | (refine wpList_ldl (o := ⟨_, .load 48 (.tmp 6), _, _, _, _⟩) (cs := [.int .i64 1, .int .i64 0, .string ⟨tt.toArray⟩]) rfl rfl rfl isSt (fun j u hu => by rw [addr_plain]; exact (Blk.cell HX3.out j).trans (by simpa using hu)) ?_)
        | (refine wpList_stE (E := eSt) (o := ⟨none, .store 48 (.tmp 4) _, _, _, _, _⟩) rfl rfl infoSt rfl (⟨1, 0, tt⟩ : St) HZ3.out rfl rfl ?_; intro w8 HR8 ho8 hB8)
        | fail)
      refine ret_c (p := 4) rfl rfl rfl HR8.out (by kernel_rfl) ?_
      have hRR : R = (⟨1, 0, tt⟩, (r1).sign (bytes s) [93]) := by rw [HR.out]; simp [h91]
      rw [hRR]
      exact ⟨rfl, HC3.out.trans (Chg.one (F := fun k => k = w.heap.size) ho8 hB8 rfl) (fun k hk e => absurd hk (by have e' : k = w.heap.size := e; omega)), (ho8 g (Ne.symm HNE.out)).trans HR3.out⟩
    · have n4 : (tk != 4) = true := by simpa using h4
      go_wp2_with fail
      refine calls_at fun W hW => ?_
      have hbW : Below w1.heap.size w1 W := by subst hW; repeat (first | exact Below.refl _ _ | refine Below.alloc ?_ (by simp) _ | refine Below.setCell ?_ (by simp) _)
      have hX : Blk W (w1.heap.size + 1) 48 #[.int .i64 1, .int .i64 0, .string ⟨tt.toArray⟩] := by subst hW; exact Blk.new' (by simp)
      have hT : Blk W w1.heap.size 93 #[.int .i64 tk, .int .i64 ta, .int .i64 te, .int .i64 ti, .string ⟨tt.toArray⟩] := by subst hW; repeat (first | exact Blk.new _ _ _ | refine Blk.alloc ?_ _ | refine Blk.far ?_ (by simp) _)
      have HXL : Hid (w1.heap.size + 1 < W.heap.size) := Lib.hid hX.lt
      have HXG : Hid (w1.heap.size + 1 ≠ g ∧ w.heap.size ≠ w1.heap.size + 1) := Lib.hid ⟨by have := HR1.out.lt; omega, by have := HZ.out.lt; omega⟩
      clear hW
      refine (HW.out W (HR1.out.below hbW HR1.out.lt)).mono ?_
      rintro e w2 ⟨rfl, hc, hr⟩
      have HX2 := Lib.hid (hc.blk hX HXG.out.1)
      have HZ2 := Lib.hid (hc.blk (HZ.out.below hbW HZ.out.lt) HNE.out)
      have HC2 := Lib.hid (HC.out.one_trans (Chg.one_trans (.of_below hbW) hc))
      have HR2 := Lib.hid hr
      have HP2 := Lib.hid (show (r1.wrong (bytes s) ⟨tk, ta, te, ti, tt⟩).p ≤ s.size by rw [RS.wrong_p]; exact hn2)
      clear hc hr hbW hX hT
      go_wp2_with fail
      refine (HSG.out _ _ _ HR2.out HP2.out).mono ?_
      rintro e w3 ⟨rfl, hc, hr⟩
      have HX3 := Lib.hid (hc.blk HX2.out HXG.out.1)
      have HZ3 := Lib.hid (hc.blk HZ2.out HNE.out)
      have HC3 := Lib.hid (HC2.out.one_trans hc)
      have HR3 := Lib.hid hr
      clear hc hr
      go_wp2_with (first
        | (refine wpList_ldl (o := ⟨_, .load 48 (.tmp 6), _, _, _, _⟩) (cs := [.int .i64 1, .int .i64 0, .string ⟨tt.toArray⟩]) rfl rfl rfl isSt (fun j u hu => by rw [addr_plain]; exact (Blk.cell HX3.out j).trans (by simpa using hu)) ?_)
        | (refine wpList_stE (E := eSt) (o := ⟨none, .store 48 (.tmp 4) _, _, _, _, _⟩) rfl rfl infoSt rfl (⟨1, 0, tt⟩ : St) HZ3.out rfl rfl ?_; intro w8 HR8 ho8 hB8)
        | fail)
      refine ret_c (p := 4) rfl rfl rfl HR8.out (by kernel_rfl) ?_
      have hRR : R = (⟨1, 0, tt⟩, (r1.wrong (bytes s) ⟨tk, ta, te, ti, tt⟩).sign (bytes s) [93]) := by rw [HR.out]; simp [h91, h3, h4]
      rw [hRR]
      exact ⟨rfl, HC3.out.trans (Chg.one (F := fun k => k = w.heap.size) ho8 hB8 rfl) (fun k hk e => absurd hk (by have e' : k = w.heap.size := e; omega)), (ho8 g (Ne.symm HNE.out)).trans HR3.out⟩
  · rw [decide_eq_false h91] at hq
    go_enter Tryz.func62, Tryz.ntmps62
    go_wp2_with fail
    refine (HN.out _ HR0.out).mono ?_
    rintro e w1 ⟨rfl, hc, hr⟩
    have HZ := Lib.hid (hc.blk HT0.out HNE.out)
    have HC := Lib.hid (HB0.out.one_trans hc)
    have HR1 := Lib.hid hr
    clear hc hr HN HB0 HR0 HT0
    obtain ⟨tk, ta, te, ti, tt⟩ := t
    simp only [Tok.v] at HW ⊢
    simp only at HR
    by_cases h4 : tk = 4
    · subst h4
      go_wp2_with fail
      refine calls_at fun W hW => ?_
      have hbW : Below w1.heap.size w1 W := by subst hW; repeat (first | exact Below.refl _ _ | refine Below.alloc ?_ (by simp) _ | refine Below.setCell ?_ (by simp) _)
      have hX : Blk W (w1.heap.size + 1) 48 #[.int .i64 2, .int .i64 0, .string ⟨tt.toArray⟩] := by subst hW; exact Blk.new' (by simp)
      have HXL : Hid (w1.heap.size + 1 < W.heap.size) := Lib.hid hX.lt
      have HXG : Hid (w1.heap.size + 1 ≠ g ∧ w.heap.size ≠ w1.heap.size + 1) := Lib.hid ⟨by have := HR1.out.lt; omega, by have := HZ.out.lt; omega⟩
      clear hW
      have HX2 := Lib.hid hX
      have HZ2 := Lib.hid (HZ.out.below hbW HZ.out.lt)
      have HC2 := Lib.hid (HC.out.one_trans (.of_below hbW))
      have HR2 := Lib.hid (show RdAt W g s r1 from HR1.out.below hbW HR1.out.lt)
      clear hbW hX
      refine (HSG.out _ _ _ HR2.out hn2).mono ?_
      rintro e w3 ⟨rfl, hc, hr⟩
      have HX3 := Lib.hid (hc.blk HX2.out HXG.out.1)
      have HZ3 := Lib.hid (hc.blk HZ2.out HNE.out)
      have HC3 := Lib.hid (HC2.out.one_trans hc)
      have HR3 := Lib.hid hr
      clear hc hr
      go_wp2_with (first
        | (refine wpList_ldl (o := ⟨_, .load 48 (.tmp 6), _, _, _, _⟩) (cs := [.int .i64 2, .int .i64 0, .string ⟨tt.toArray⟩]) rfl rfl rfl isSt (fun j u hu => by rw [addr_plain]; exact (Blk.cell HX3.out j).trans (by simpa using hu)) ?_)
        | (refine wpList_stE (E := eSt) (o := ⟨none, .store 48 (.tmp 4) _, _, _, _, _⟩) rfl rfl infoSt rfl (⟨2, 0, tt⟩ : St) HZ3.out rfl rfl ?_; intro w8 HR8 ho8 hB8)
        | fail)
      refine ret_c (p := 4) rfl rfl rfl HR8.out (by kernel_rfl) ?_
      have hRR : R = (⟨2, 0, tt⟩, (r1).sign (bytes s) [62]) := by rw [HR.out]; simp [h91]
      rw [hRR]
      exact ⟨rfl, HC3.out.trans (Chg.one (F := fun k => k = w.heap.size) ho8 hB8 rfl) (fun k hk e => absurd hk (by have e' : k = w.heap.size := e; omega)), (ho8 g (Ne.symm HNE.out)).trans HR3.out⟩
    · have n4 : (tk != 4) = true := by simpa using h4
      by_cases h3 : tk = 3
      · subst h3
        go_wp2_with fail
        refine calls_at fun W hW => ?_
        have hbW : Below w1.heap.size w1 W := by subst hW; repeat (first | exact Below.refl _ _ | refine Below.alloc ?_ (by simp) _ | refine Below.setCell ?_ (by simp) _)
        have hX : Blk W (w1.heap.size + 1) 48 #[.int .i64 2, .int .i64 0, .string ⟨tt.toArray⟩] := by subst hW; exact Blk.new' (by simp)
        have hT : Blk W w1.heap.size 93 #[.int .i64 3, .int .i64 ta, .int .i64 te, .int .i64 ti, .string ⟨tt.toArray⟩] := by subst hW; repeat (first | exact Blk.new _ _ _ | refine Blk.alloc ?_ _ | refine Blk.far ?_ (by simp) _)
        have HXL : Hid (w1.heap.size + 1 < W.heap.size) := Lib.hid hX.lt
        have HXG : Hid (w1.heap.size + 1 ≠ g ∧ w.heap.size ≠ w1.heap.size + 1) := Lib.hid ⟨by have := HR1.out.lt; omega, by have := HZ.out.lt; omega⟩
        clear hW
        refine (HW.out W (HR1.out.below hbW HR1.out.lt)).mono ?_
        rintro e w2 ⟨rfl, hc, hr⟩
        have HX2 := Lib.hid (hc.blk hX HXG.out.1)
        have HZ2 := Lib.hid (hc.blk (HZ.out.below hbW HZ.out.lt) HNE.out)
        have HC2 := Lib.hid (HC.out.one_trans (Chg.one_trans (.of_below hbW) hc))
        have HR2 := Lib.hid hr
        have HP2 := Lib.hid (show (r1.wrong (bytes s) ⟨3, ta, te, ti, tt⟩).p ≤ s.size by rw [RS.wrong_p]; exact hn2)
        clear hc hr hbW hX hT
        go_wp2_with fail
        refine (HSG.out _ _ _ HR2.out HP2.out).mono ?_
        rintro e w3 ⟨rfl, hc, hr⟩
        have HX3 := Lib.hid (hc.blk HX2.out HXG.out.1)
        have HZ3 := Lib.hid (hc.blk HZ2.out HNE.out)
        have HC3 := Lib.hid (HC2.out.one_trans hc)
        have HR3 := Lib.hid hr
        clear hc hr
        go_wp2_with (first
          | (refine wpList_ldl (o := ⟨_, .load 48 (.tmp 6), _, _, _, _⟩) (cs := [.int .i64 2, .int .i64 0, .string ⟨tt.toArray⟩]) rfl rfl rfl isSt (fun j u hu => by rw [addr_plain]; exact (Blk.cell HX3.out j).trans (by simpa using hu)) ?_)
          | (refine wpList_stE (E := eSt) (o := ⟨none, .store 48 (.tmp 4) _, _, _, _, _⟩) rfl rfl infoSt rfl (⟨2, 0, tt⟩ : St) HZ3.out rfl rfl ?_; intro w8 HR8 ho8 hB8)
          | fail)
        refine ret_c (p := 4) rfl rfl rfl HR8.out (by kernel_rfl) ?_
        have hRR : R = (⟨2, 0, tt⟩, (r1.wrong (bytes s) ⟨3, ta, te, ti, tt⟩).sign (bytes s) [62]) := by rw [HR.out]; simp [h91]
        rw [hRR]
        exact ⟨rfl, HC3.out.trans (Chg.one (F := fun k => k = w.heap.size) ho8 hB8 rfl) (fun k hk e => absurd hk (by have e' : k = w.heap.size := e; omega)), (ho8 g (Ne.symm HNE.out)).trans HR3.out⟩
      · have n3 : (tk == 3) = false := by simpa using h3
        go_wp2_with fail
        refine calls_at fun W hW => ?_
        have hbW : Below w1.heap.size w1 W := by subst hW; repeat (first | exact Below.refl _ _ | refine Below.alloc ?_ (by simp) _ | refine Below.setCell ?_ (by simp) _)
        have hX : Blk W (w1.heap.size + 1) 48 #[.int .i64 2, .int .i64 0, .string ⟨tt.toArray⟩] := by subst hW; exact Blk.new' (by simp)
        have hT : Blk W w1.heap.size 93 #[.int .i64 tk, .int .i64 ta, .int .i64 te, .int .i64 ti, .string ⟨tt.toArray⟩] := by subst hW; repeat (first | exact Blk.new _ _ _ | refine Blk.alloc ?_ _ | refine Blk.far ?_ (by simp) _)
        have HXL : Hid (w1.heap.size + 1 < W.heap.size) := Lib.hid hX.lt
        have HXG : Hid (w1.heap.size + 1 ≠ g ∧ w.heap.size ≠ w1.heap.size + 1) := Lib.hid ⟨by have := HR1.out.lt; omega, by have := HZ.out.lt; omega⟩
        clear hW
        refine (HW.out W (HR1.out.below hbW HR1.out.lt)).mono ?_
        rintro e w2 ⟨rfl, hc, hr⟩
        have HX2 := Lib.hid (hc.blk hX HXG.out.1)
        have HZ2 := Lib.hid (hc.blk (HZ.out.below hbW HZ.out.lt) HNE.out)
        have HC2 := Lib.hid (HC.out.one_trans (Chg.one_trans (.of_below hbW) hc))
        have HR2 := Lib.hid hr
        have HP2 := Lib.hid (show (r1.wrong (bytes s) ⟨tk, ta, te, ti, tt⟩).p ≤ s.size by rw [RS.wrong_p]; exact hn2)
        clear hc hr hbW hX hT
        go_wp2_with fail
        refine (HSG.out _ _ _ HR2.out HP2.out).mono ?_
        rintro e w3 ⟨rfl, hc, hr⟩
        have HX3 := Lib.hid (hc.blk HX2.out HXG.out.1)
        have HZ3 := Lib.hid (hc.blk HZ2.out HNE.out)
        have HC3 := Lib.hid (HC2.out.one_trans hc)
        have HR3 := Lib.hid hr
        clear hc hr
        go_wp2_with (first
          | (refine wpList_ldl (o := ⟨_, .load 48 (.tmp 6), _, _, _, _⟩) (cs := [.int .i64 2, .int .i64 0, .string ⟨tt.toArray⟩]) rfl rfl rfl isSt (fun j u hu => by rw [addr_plain]; exact (Blk.cell HX3.out j).trans (by simpa using hu)) ?_)
          | (refine wpList_stE (E := eSt) (o := ⟨none, .store 48 (.tmp 4) _, _, _, _, _⟩) rfl rfl infoSt rfl (⟨2, 0, tt⟩ : St) HZ3.out rfl rfl ?_; intro w8 HR8 ho8 hB8)
          | fail)
        refine ret_c (p := 4) rfl rfl rfl HR8.out (by kernel_rfl) ?_
        have hRR : R = (⟨2, 0, tt⟩, (r1.wrong (bytes s) ⟨tk, ta, te, ti, tt⟩).sign (bytes s) [62]) := by rw [HR.out]; simp [h91, h4]
        rw [hRR]
        exact ⟨rfl, HC3.out.trans (Chg.one (F := fun k => k = w.heap.size) ho8 hB8 rfl) (fun k hk e => absurd hk (by have e' : k = w.heap.size := e; omega)), (ho8 g (Ne.symm HNE.out)).trans HR3.out⟩
end Go.Proofs.YtfcegalckjeafaaGreatDoor
namespace Go.Proofs.YtfcegalckjeafaaGreatDoor
/-- The reader has failed so. -/
def RS.bad (r : RS) (y : Nat × Int) : Prop := r.e ≠ 0 ∧ r.a = y.1 ∧ r.e = y.2
theorem RS.fail_keep {r : RS} (h : r.e ≠ 0) (a e : Int) : r.fail a e = r := if_neg h
theorem RS.wrong_keep {r : RS} (h : r.e ≠ 0) (s : List UInt8) (t : Tok) : r.wrong s t = r := by
  unfold RS.wrong
  split
  · rw [RS.fail_keep h, RS.fail_keep h]
  · rw [RS.fail_keep h]
theorem RS.next_keep {r : RS} (h : r.e ≠ 0) (s : List UInt8) : r.next s = (Tok.z, r) := if_neg h
theorem RS.sign_keep {r : RS} (h : r.e ≠ 0) (s x : List UInt8) : r.sign s x = r := by
  unfold RS.sign
  rw [RS.next_keep h]
  split
  · rfl
  · exact RS.wrong_keep h s _
theorem RS.step_keep {r : RS} (h : r.e ≠ 0) (s o : List UInt8) : (r.step s o).2 = r := by
  unfold RS.step
  rw [RS.next_keep h]
  simp only
  split
  · exact RS.sign_keep h s _
  · rw [RS.wrong_keep h]; exact RS.sign_keep h s _
theorem RS.wrong_bad {r : RS} (h : r.e = 0) (s : List UInt8) (t : Tok) (ha : 0 ≤ t.a) : (r.wrong s t).bad (wrongL s t) := by
  unfold RS.wrong wrongL
  by_cases hk : t.k = 0
  · rw [if_pos hk, if_pos hk]
    have h2 : (r.fail s.length 10).e ≠ 0 := by rw [RS.fail, if_pos h]; exact (by decide : (10 : Int) ≠ 0)
    rw [RS.fail_keep h2, RS.fail, if_pos h]
    exact ⟨(by decide : (10 : Int) ≠ 0), rfl, rfl⟩
  · rw [if_neg hk, if_neg hk, RS.fail, if_pos h]
    exact ⟨(by decide : (2 : Int) ≠ 0), by show t.a = ((t.a.toNat : Nat) : Int); omega, rfl⟩
theorem RS.bad.wrong {r : RS} {y : Nat × Int} (h : r.bad y) (s : List UInt8) (t : Tok) : (r.wrong s t).bad y := by rw [RS.wrong_keep h.1]; exact h
theorem RS.bad.sign {r : RS} {y : Nat × Int} (h : r.bad y) (s x : List UInt8) : (r.sign s x).bad y := by rw [RS.sign_keep h.1]; exact h
theorem RS.next_inl {r : RS} {s : List UInt8} {t : Tok} (h : r.e = 0) (ht : nextL s r.p = .inl t) : r.next s = (t, ⟨t.e.toNat, r.a, 0⟩) := by
  unfold RS.next
  rw [if_pos h, ht, h]
theorem RS.next_inr {r : RS} {s : List UInt8} {y : Nat × Int} (h : r.e = 0) (ht : nextL s r.p = .inr y) : r.next s = (Tok.z, ⟨r.p, y.1, y.2⟩) := by
  unfold RS.next
  rw [if_pos h, ht]
  show (Tok.z, r.fail y.1 y.2) = _
  rw [RS.fail, if_pos h]
theorem RS.bad_inr {s : List UInt8} {p : Nat} {y : Nat × Int} (ht : nextL s p = .inr y) : RS.bad ⟨p, y.1, y.2⟩ y := ⟨nextL_err ht, rfl, rfl⟩
theorem sign_law {r : RS} (h : r.e = 0) (s x : List UInt8) (hp : r.p ≤ s.length) : match signL s r.p x with | .inl a => r.sign s x = ⟨a, r.a, 0⟩ | .inr y => (r.sign s x).bad y := by
  unfold signL
  cases ht : nextL s r.p with
  | inr y =>
    simp only
    unfold RS.sign
    rw [RS.next_inr h ht, if_neg (by rintro ⟨h, -⟩; exact absurd h (by decide : (0 : Int) ≠ 1))]
    exact (RS.bad_inr ht).wrong _ _
  | inl t =>
    have hl := nextL_le s r.p hp t ht
    simp only
    unfold RS.sign
    rw [RS.next_inl h ht]
    simp only
    by_cases hc : t.k = 1 ∧ t.t = x
    · rw [if_pos hc, if_pos hc]
    · rw [if_neg hc, if_neg hc]
      exact RS.wrong_bad rfl s t (by omega)
theorem step_law {r : RS} (h : r.e = 0) (s o : List UInt8) (ho : o = [91] ∨ o = [60]) (hp : r.p ≤ s.length) : match stepL s o r.p with | .inl x => r.step s o = (x.1, ⟨x.2, r.a, 0⟩) | .inr y => (r.step s o).2.bad y := by
  unfold stepL
  cases ht : nextL s r.p with
  | inr y =>
    simp only
    have hb := RS.bad_inr ht
    unfold RS.step
    rw [RS.next_inr h ht]
    simp only
    split
    · exact hb.sign _ _
    · exact (hb.wrong _ _).sign _ _
  | inl t =>
    have hl := nextL_le s r.p hp t ht
    simp only
    have hend : (if o = [91] then [93] else [62] : List UInt8) = endL o := by rcases ho with rfl | rfl <;> rfl
    unfold RS.step
    rw [RS.next_inl h ht]
    simp only
    rw [hend]
    have hsays : saysL o t = if (t.k = 3 ∧ o = [91]) ∨ t.k = 4 then some (if t.k = 3 ∧ o = [91] then ⟨0, t.i, []⟩ else ⟨if o = [91] then 1 else 2, 0, t.t⟩) else none := by
      unfold saysL
      by_cases h4 : t.k = 4
      · rcases ho with rfl | rfl <;> simp [h4]
      · by_cases h3 : t.k = 3
        · rcases ho with rfl | rfl <;> simp [h3]
        · simp [h3, h4]
    rw [hsays]
    by_cases hc : (t.k = 3 ∧ o = [91]) ∨ t.k = 4
    · rw [if_pos hc, if_pos hc]
      simp only
      have hs := sign_law (r := ⟨t.e.toNat, r.a, 0⟩) rfl s (endL o) (by show t.e.toNat ≤ _; omega)
      simp only at hs
      cases hq : signL s t.e.toNat (endL o) with
      | inl a => rw [hq] at hs; simp only at hs ⊢; rw [hs]
      | inr y => rw [hq] at hs; exact hs
    · rw [if_neg hc, if_neg hc]
      exact (RS.wrong_bad rfl s t (by omega)).sign _ _
/-- What the reader and the steps so far come to. -/
def RS.to (r : RS) (s : List UInt8) (acc : List St) (R : List St ⊕ (Nat × Int)) : Prop := (r.e = 0 ∧ ∃ n, s.length + 1 - r.p ≤ n ∧ goL s n r.p acc = R) ∨ ∃ y, r.bad y ∧ R = .inr y
theorem to_first (s : List UInt8) : (RS.sign ⟨0, 0, 0⟩ s [36]).to s [] (addrL s) := by
  have h := sign_law (r := ⟨0, 0, 0⟩) rfl s [36] (Nat.zero_le _)
  unfold addrL
  simp only at h
  cases hq : signL s 0 [36] with
  | inr y => rw [hq] at h; exact .inr ⟨y, h, rfl⟩
  | inl a =>
    rw [hq] at h
    simp only at h ⊢
    rw [h]
    exact .inl ⟨rfl, s.length + 1, by omega, rfl⟩
theorem to_bad {r : RS} {s : List UInt8} {acc : List St} {R : List St ⊕ (Nat × Int)} (h : r.to s acc R) (h0 : r.e ≠ 0) : ∃ y, r.bad y ∧ R = .inr y := by
  rcases h with ⟨h, -⟩ | h
  · exact absurd h h0
  · exact h
theorem RS.step_p (r : RS) (s o : List UInt8) (h : r.p ≤ s.length) : (r.step s o).2.p ≤ s.length := by
  unfold RS.step
  simp only
  apply RS.sign_p
  split
  · exact RS.next_p r s h
  · rw [RS.wrong_p]; exact RS.next_p r s h
theorem to_end {r : RS} {s : List UInt8} {acc : List St} {R : List St ⊕ (Nat × Int)} (h : r.to s acc R) (h0 : r.e = 0) (hp : r.p ≤ s.length) (hk : (r.next s).1.k = 0) : ((r.next s).2.e = 0 ∧ R = .inl acc) ∨ ∃ y, (r.next s).2.bad y ∧ R = .inr y := by
  rcases h with ⟨-, n, hn, hg⟩ | ⟨y, hb, -⟩
  · obtain ⟨m, rfl⟩ : ∃ m, n = m + 1 := ⟨n - 1, by omega⟩
    rw [goL_succ] at hg
    cases ht : nextL s r.p with
    | inr y =>
      rw [ht] at hg
      rw [RS.next_inr h0 ht]
      exact .inr ⟨y, RS.bad_inr ht, hg.symm⟩
    | inl t =>
      rw [ht] at hg
      rw [RS.next_inl h0 ht] at hk ⊢
      simp only at hk hg
      rw [if_pos hk] at hg
      exact .inl ⟨rfl, hg.symm⟩
  · exact absurd h0 hb.1
theorem to_round {r : RS} {s : List UInt8} {acc : List St} {R : List St ⊕ (Nat × Int)} (h : r.to s acc R) (h0 : r.e = 0) (hp : r.p ≤ s.length) (hk : (r.next s).1.k ≠ 0) (q : St × RS)
    (hq : q = (if (r.next s).1.k = 1 ∧ ((r.next s).1.t = [91] ∨ (r.next s).1.t = [60]) then (r.next s).2 else (r.next s).2.wrong s (r.next s).1).step s (r.next s).1.t) : q.2.to s (acc ++ [q.1]) R ∧ q.2.p ≤ s.length ∧ (q.2.e = 0 → r.p < q.2.p) := by
  rcases h with ⟨-, n, hn, hg⟩ | ⟨y, hb, -⟩
  · obtain ⟨m, rfl⟩ : ∃ m, n = m + 1 := ⟨n - 1, by omega⟩
    rw [goL_succ] at hg
    cases ht : nextL s r.p with
    | inr y =>
      rw [RS.next_inr h0 ht] at hk
      exact absurd rfl hk
    | inl t =>
      have hl := nextL_le s r.p hp t ht
      rw [ht] at hg
      rw [RS.next_inl h0 ht] at hk hq
      simp only at hk hg hq
      have hte : r.p < t.e.toNat := by rcases hl.1 with h | h; exact absurd h hk; omega
      have htl : t.e.toNat ≤ s.length := by omega
      rw [if_neg hk] at hg
      by_cases hc : t.k = 1 ∧ (t.t = [91] ∨ t.t = [60])
      · rw [if_pos hc] at hg hq
        have hs := step_law (r := ⟨t.e.toNat, r.a, 0⟩) rfl s t.t hc.2 htl
        rw [← hq] at hs
        simp only at hs
        cases hst : stepL s t.t t.e.toNat with
        | inl x =>
          obtain ⟨x, a⟩ := x
          rw [hst] at hs hg
          have hla := stepL_le htl hst
          simp only at hs hg
          subst hs
          exact ⟨.inl ⟨rfl, m, by show s.length + 1 - a ≤ m; omega, hg⟩, hla.2, fun _ => by show r.p < a; omega⟩
        | inr y =>
          rw [hst] at hs hg
          exact ⟨.inr ⟨y, hs, hg.symm⟩, by rw [hq]; exact RS.step_p _ s _ htl, fun h => absurd h hs.1⟩
      · rw [if_neg hc] at hg hq
        have hb := RS.wrong_bad (r := ⟨t.e.toNat, r.a, 0⟩) rfl s t (by omega)
        have hs : q.2 = RS.wrong ⟨t.e.toNat, r.a, 0⟩ s t := by rw [hq]; exact RS.step_keep hb.1 s _
        rw [hs]
        exact ⟨.inr ⟨_, hb, hg.symm⟩, by rw [RS.wrong_p]; exact htl, fun h => absurd h hb.1⟩
  · exact absurd h0 hb.1
end Go.Proofs.YtfcegalckjeafaaGreatDoor
