/-
  Parts of the proof that AddrBegins,AddrTexts calls on: Ue, To, Tq, Lx.
-/
import Derived.Test.YtfcegalckjeafaaGreatDoorM302
import Derived.Test.YtfcegalckjeafaaGreatDoorM306
import Derived.Test.YtfcegalckjeafaaGreatDoorM307
import Derived.Test.YtfcegalckjeafaaGreatDoorM310
import Derived.Test.YtfcegalckjeafaaGreatDoorM323
import Derived.Test.YtfcegalckjeafaaGreatDoorM325
import Derived.Test.YtfcegalckjeafaaGreatDoorM328
namespace Go.Proofs.YtfcegalckjeafaaGreatDoor
open Go.RowKit Go.BigFrame
/-- Rounds that are left. -/
def rmeas (g n : Nat) (w : World) : Nat := if intOf ((w.cell? ⟨g, 3, none⟩).getD undef) = 0 then n + 1 - (intOf ((w.cell? ⟨g, 1, none⟩).getD undef)).toNat else 0
theorem rmeas_at {w : World} {g n : Nat} {s : ByteArray} {r : RS} (h : RdAt w g s r) : rmeas g n w = if r.e = 0 then n + 1 - r.p else 0 := by
  obtain ⟨-, h1, -, h3⟩ := h.cells
  unfold rmeas
  rw [h1, h3]
  simp only [Option.getD_some, intOf, Int.toNat_natCast]
  by_cases hh : r.e = 0 <;> simp [hh]
def PRes2 (B : Nat) (R : List St ⊕ (Nat × Int)) (v : Value) (n1 n2 : Int) (w : World) : Prop := match R with
  | .inl l => n1 = 0 ∧ n2 = 0 ∧ ∃ A c, v = .slice A l.length c ∧ l.length ≤ c ∧ Reads w (fun k => B ≤ k) 3 A l.length (eSt.fl l)
  | .inr r => v = .slice none 0 0 ∧ n1 = r.1 ∧ n2 = r.2
def POut2 (R : List St ⊕ (Nat × Int)) (w : World) (e : Ending) (w' : World) : Prop := ∃ v n1 n2, e = .returned (.tuple #[v, .int .i64 n1, .int .i64 n2]) ∧ Below w.heap.size w w' ∧ PRes2 w.heap.size R v n1 n2 w'
set_option maxRecDepth 100000 in
set_option maxHeartbeats 8000000 in
theorem rparse_any (s : ByteArray) (w : World) (hs : s.size ≤ 8388608) : Calls Tryz.prog 28 #[.string s] w (POut2 (addrL (bytes s)) w) := by
  have HR0 := Lib.hid (show RdAt _ _ s ⟨0, 0, 0⟩ from Blk.new w 105 (RS.l ⟨0, 0, 0⟩ s).toArray)
  have HB0 := Lib.hid ((Below.refl w.heap.size w).alloc (Nat.le_refl _) (.cells (RS.l ⟨0, 0, 0⟩ s).toArray 105))
  have HTO := Lib.hid (to_first (bytes s))
  have hp0 := RS.sign_p ⟨0, 0, 0⟩ (bytes s) [36] (Nat.zero_le _)
  obtain ⟨R, hR⟩ : ∃ R, R = addrL (bytes s) := ⟨_, rfl⟩
  rw [← hR] at HTO ⊢
  obtain ⟨r0, hr0⟩ : ∃ r0, r0 = RS.sign ⟨0, 0, 0⟩ (bytes s) [36] := ⟨_, rfl⟩
  rw [← hr0] at HTO hp0
  rw [bytes_len] at hp0
  have HRZ := Lib.hid hr0
  clear hR hr0
  go_enter Tryz.func28, Tryz.ntmps28
  go_wp2_with fail
  refine (rsign_any s ⟨#[36]⟩ ⟨0, 0, 0⟩ w.heap.size _ HR0.out (Nat.zero_le _) hs).mono ?_
  rintro e w1 ⟨rfl, hc, hr⟩
  rw [show bytes ⟨#[36]⟩ = [36] from rfl, ← HRZ.out] at hr
  have HB1 := Lib.hid (hc.below HB0.out (by simp) (fun k h => Nat.le_of_eq h.symm))
  have HR1 := Lib.hid hr
  clear hc hr HR0 HB0 HRZ
  go_wp2_with fail
  go_loopw [6] (fun v wr => ∃ (r : RS) (acc : List St), Hid (wr.ownsRow (w.heap.size + 1) 48 3 v acc.length (eSt.fl acc)) ∧ Hid (RdAt wr w.heap.size s r) ∧ Hid (Below w.heap.size w wr) ∧ r.p ≤ s.size ∧ (r.e = 0 → acc.length ≤ r.p) ∧ acc.length ≤ s.size + 1 ∧ Hid (r.to (bytes s) acc R)) (fun _ wr => rmeas w.heap.size s.size wr)
  case atStart =>
    refine ⟨r0, [], ?_, Lib.hid (Blk.alloc HR1.out _), Lib.hid (HB1.out.alloc HB1.out.size _), hp0, fun _ => Nat.zero_le _, Nat.zero_le _, HTO⟩
    exact Lib.hid ⟨rfl, .inr ⟨w1.heap.size, 0, #[], rfl, HR1.out.lt, Blk.new _ _ _, Nat.le_refl _, Nat.zero_le _, rfl, rfl⟩⟩
  case round =>
    obtain ⟨r, acc, hO, hRd, hB, hp, hal, hal2, hto⟩ := hrel
    obtain ⟨A, cp, rfl, hcap⟩ := own_shape hO.out
    by_cases he : r.e = 0
    · have hend := to_end hto.out he (by rw [bytes_len]; exact hp)
      have hround := to_round hto.out he (by rw [bytes_len]; exact hp)
      have hp1 := RS.next_p r (bytes s) (by rw [bytes_len]; exact hp)
      have HNX := Lib.hid (rnx_any s r w.heap.size wr hRd.out hp hs)
      have hmw := rmeas_at (n := s.size) hRd.out
      rw [if_pos he] at hmw
      have hal' := hal he
      obtain ⟨-, -, -, c3⟩ := hRd.out.cells
      rw [he] at c3
      have HE := Lib.hid hend
      have HD := Lib.hid hround
      rw [bytes_len] at hp1
      clear hal hend hround he hto
      generalize r.next (bytes s) = N at *
      obtain ⟨t, r1⟩ := N
      simp only at hp1
      go_wp2_with fail
      refine HNX.out.mono ?_
      rintro e w2 ⟨rfl, hc, hr⟩
      have HC := Lib.hid hc
      have HR2 := Lib.hid hr
      clear hc hr HNX c3
      obtain ⟨tk, ta, te, ti, tt⟩ := t
      simp only [Tok.v]
      have htb : bytes ⟨tt.toArray⟩ = tt := by simp [bytes]
      have hl : (⟨tt.toArray⟩ : ByteArray).toList = tt := by rw [Lib.toList_data]
      have hq1 : ((⟨tt.toArray⟩ : ByteArray).toList == [91]) = decide (tt = [91]) := by rw [hl, Bool.eq_iff_iff]; simp
      have hq2 : ((⟨tt.toArray⟩ : ByteArray).toList == [60]) = decide (tt = [60]) := by rw [hl, Bool.eq_iff_iff]; simp
      clear hl
      obtain ⟨tb, htw⟩ : ∃ tb : ByteArray, (⟨tt.toArray⟩ : ByteArray) = tb := ⟨_, rfl⟩
      rw [htw] at htb hq1 hq2 ⊢
      by_cases hk : tk = 0
      · subst hk
        have HEE := Lib.hid (HE.out rfl)
        clear HE HD hq1 hq2 htb
        have HR3 := Lib.hid (show RdAt (w2.alloc (.cells #[.int .i64 0, .int .i64 ta, .int .i64 te, .int .i64 ti, .string tb] 93)) w.heap.size s r1 from Blk.alloc HR2.out _)
        have HB3 := Lib.hid ((HC.out.below hB.out hB.out.size (fun k h => Nat.le_of_eq h.symm)).alloc (Nat.le_trans hB.out.size HC.out.size) (.cells #[.int .i64 0, .int .i64 ta, .int .i64 te, .int .i64 ti, .string tb] 93))
        have HO3 := Lib.hid (own_below (HC.out.own hO.out (fun j e h => by have := own_base hO.out e; omega)) ((Below.refl _ _).alloc (Nat.le_refl _) (.cells #[.int .i64 0, .int .i64 ta, .int .i64 te, .int .i64 ti, .string tb] 93)))
        obtain ⟨-, -, c2, c3⟩ := HR3.out.cells
        rcases HEE.out with ⟨h0, hRl⟩ | ⟨y, hbad, hRy⟩
        · rw [h0] at c3
          have HRl := Lib.hid hRl
          clear hRl HEE
          go_wp2_with fail
          go_ret3
          refine ⟨_, _, _, rfl, HB3.out, ?_⟩
          rw [HRl.out]
          exact ⟨rfl, rfl, A, cp, rfl, hcap, (Reads.of_own HO3.out).more (fun _ h => by have := h.1; omega)⟩
        · have hne2 : (r1.e != 0) = true := by simpa using hbad.1
          have HBD := Lib.hid hbad
          have HRl := Lib.hid hRy
          clear hRy HEE hbad
          go_wp2_with fail
          go_region
          go_wp2
          go_ret3
          refine ⟨_, _, _, rfl, HB3.out.drew, ?_⟩
          rw [HRl.out]
          exact ⟨rfl, HBD.out.2.1, HBD.out.2.2⟩
      · have n0 : (tk == 0) = false := by simpa using hk
        have HQ0 := Lib.hid (HD.out hk _ rfl)
        simp only at HQ0
        clear HD HE
        have HWR := Lib.hid (fun W h => rwrong_any s r1 w.heap.size ⟨tk, ta, te, ti, tt⟩ W h hs)
        simp only [Tok.v, htw] at HWR
        by_cases h1 : tk = 1
        · subst h1
          by_cases h91 : tt = [91]
          · rw [decide_eq_true h91] at hq1
            have HQ := Lib.hid HQ0.out
            rw [if_pos ⟨rfl, .inl h91⟩] at HQ
            clear HQ0 hq2 HWR
            go_wp2_with fail
            refine calls_at fun W hW => ?_
            have hbW : Below w2.heap.size w2 W := by subst hW; exact (Below.refl _ _).alloc (Nat.le_refl _) _
            have hTk : Blk W w2.heap.size 93 #[.int .i64 1, .int .i64 ta, .int .i64 te, .int .i64 ti, .string tb] := by subst hW; exact Blk.new _ _ _
            have HC3 := Lib.hid (HC.out.one_trans (.of_below hbW))
            have HRW := Lib.hid (show RdAt W w.heap.size s r1 from HR2.out.below hbW HR2.out.lt)
            clear hW hbW
            clear hTk
            have HSP := rstep_any s tb r1 w.heap.size _ HRW.out hp1 hs
            rw [htb] at HSP
            generalize r1.step (bytes s) tt = X at *
            refine HSP.mono ?_
            rintro e w5 ⟨rfl, hc, hr⟩
            obtain ⟨⟨K, I, T⟩, r5⟩ := X
            have HC5 := Lib.hid (HC3.out.one_trans hc)
            have HR5 := Lib.hid hr
            have HB5 := Lib.hid (HC5.out.below hB.out hB.out.size (fun k h => Nat.le_of_eq h.symm))
            have HO5 := Lib.hid (HC5.out.own hO.out (fun j e h => by have := own_base hO.out e; omega))
            have hlt5 : w.heap.size < w5.heap.size := hr.lt
            obtain ⟨hto5, hp5, hpp⟩ := HQ.out
            have HTO5 := Lib.hid hto5
            simp only at hp5 hpp
            rw [bytes_len] at hp5
            clear hc hr HSP hto5
            simp only [St.v]
            go_wp2_with (first
              | (at_builtin; refine wpList_app elSt (o := ⟨some 46, _, _, _, _, _⟩) rfl rfl (n := acc.length) (World.ownsRow.alloc HO5.out _) rfl (w0 := w5) ((Below.refl _ _).alloc (by omega) _) (reads_one_St w5 K I T) rfl (eSt.fl_one _) (by simp; omega) (by decide) (by simp; omega) ?_; intro v9 w9 HO9 HB9 HG9)
              | fail)
            have HR9 := Lib.hid (show RdAt w9 w.heap.size s r5 from HR5.out.below HB9.out (Nat.lt_succ_self _))
            go_roundw
            case rel => exact ⟨r5, acc ++ [⟨K, I, T⟩], by rw [List.length_append, Enc.fl_app]; exact HO9, HR9, Lib.hid (HB5.out.trans (HB9.out.mono (Nat.le_succ _))), hp5, fun h => by have := hpp h; simp; omega, by simp; omega, HTO5⟩
            case measure =>
              show rmeas w.heap.size s.size w9 < rmeas w.heap.size s.size wr
              rw [rmeas_at HR9.out, hmw]
              split
              · have := hpp (by assumption); omega
              · omega
          · rw [decide_eq_false h91] at hq1
            by_cases h60 : tt = [60]
            · rw [decide_eq_true h60] at hq2
              have HQ := Lib.hid HQ0.out
              rw [if_pos ⟨rfl, .inr h60⟩] at HQ
              clear HQ0 HWR
              go_wp2_with fail
              refine calls_at fun W hW => ?_
              have hbW : Below w2.heap.size w2 W := by subst hW; exact (Below.refl _ _).alloc (Nat.le_refl _) _
              have hTk : Blk W w2.heap.size 93 #[.int .i64 1, .int .i64 ta, .int .i64 te, .int .i64 ti, .string tb] := by subst hW; exact Blk.new _ _ _
              have HC3 := Lib.hid (HC.out.one_trans (.of_below hbW))
              have HRW := Lib.hid (show RdAt W w.heap.size s r1 from HR2.out.below hbW HR2.out.lt)
              clear hW hbW
              clear hTk
              have HSP := rstep_any s tb r1 w.heap.size _ HRW.out hp1 hs
              rw [htb] at HSP
              generalize r1.step (bytes s) tt = X at *
              refine HSP.mono ?_
              rintro e w5 ⟨rfl, hc, hr⟩
              obtain ⟨⟨K, I, T⟩, r5⟩ := X
              have HC5 := Lib.hid (HC3.out.one_trans hc)
              have HR5 := Lib.hid hr
              have HB5 := Lib.hid (HC5.out.below hB.out hB.out.size (fun k h => Nat.le_of_eq h.symm))
              have HO5 := Lib.hid (HC5.out.own hO.out (fun j e h => by have := own_base hO.out e; omega))
              have hlt5 : w.heap.size < w5.heap.size := hr.lt
              obtain ⟨hto5, hp5, hpp⟩ := HQ.out
              have HTO5 := Lib.hid hto5
              simp only at hp5 hpp
              rw [bytes_len] at hp5
              clear hc hr HSP hto5
              simp only [St.v]
              go_wp2_with (first
                | (at_builtin; refine wpList_app elSt (o := ⟨some 46, _, _, _, _, _⟩) rfl rfl (n := acc.length) (World.ownsRow.alloc HO5.out _) rfl (w0 := w5) ((Below.refl _ _).alloc (by omega) _) (reads_one_St w5 K I T) rfl (eSt.fl_one _) (by simp; omega) (by decide) (by simp; omega) ?_; intro v9 w9 HO9 HB9 HG9)
                | fail)
              have HR9 := Lib.hid (show RdAt w9 w.heap.size s r5 from HR5.out.below HB9.out (Nat.lt_succ_self _))
              go_roundw
              case rel => exact ⟨r5, acc ++ [⟨K, I, T⟩], by rw [List.length_append, Enc.fl_app]; exact HO9, HR9, Lib.hid (HB5.out.trans (HB9.out.mono (Nat.le_succ _))), hp5, fun h => by have := hpp h; simp; omega, by simp; omega, HTO5⟩
              case measure =>
                show rmeas w.heap.size s.size w9 < rmeas w.heap.size s.size wr
                rw [rmeas_at HR9.out, hmw]
                split
                · have := hpp (by assumption); omega
                · omega
            · rw [decide_eq_false h60] at hq2
              have HQ := Lib.hid HQ0.out
              rw [if_neg (by rintro ⟨-, h | h⟩; exact h91 h; exact h60 h)] at HQ
              clear HQ0
              go_wp2_with fail
              refine calls_at fun W hW => ?_
              have hbW : Below w2.heap.size w2 W := by subst hW; exact (Below.refl _ _).alloc (Nat.le_refl _) _
              have hTk : Blk W w2.heap.size 93 #[.int .i64 1, .int .i64 ta, .int .i64 te, .int .i64 ti, .string tb] := by subst hW; exact Blk.new _ _ _
              have HC3 := Lib.hid (HC.out.one_trans (.of_below hbW))
              have HRW := Lib.hid (show RdAt W w.heap.size s r1 from HR2.out.below hbW HR2.out.lt)
              clear hW hbW
              refine (HWR.out W HRW.out).mono ?_
              rintro e w4 ⟨rfl, hc, hr⟩
              have HC4 := Lib.hid (HC3.out.one_trans hc)
              have HRX := Lib.hid hr
              have q4 := (hc.blk hTk (by have := HR2.out.lt; omega)).cell 4
              simp only [List.getElem?_toArray, List.getElem?_cons_succ, List.getElem?_cons_zero] at q4
              clear hc hr hTk
              go_wp2_with fail
              have HSP := rstep_any s tb (r1.wrong (bytes s) ⟨1, ta, te, ti, tt⟩) w.heap.size _ HRX.out (by rw [RS.wrong_p]; exact hp1) hs
              rw [htb] at HSP
              generalize (r1.wrong (bytes s) ⟨1, ta, te, ti, tt⟩).step (bytes s) tt = X at *
              refine HSP.mono ?_
              rintro e w5 ⟨rfl, hc, hr⟩
              obtain ⟨⟨K, I, T⟩, r5⟩ := X
              have HC5 := Lib.hid (HC4.out.one_trans hc)
              have HR5 := Lib.hid hr
              have HB5 := Lib.hid (HC5.out.below hB.out hB.out.size (fun k h => Nat.le_of_eq h.symm))
              have HO5 := Lib.hid (HC5.out.own hO.out (fun j e h => by have := own_base hO.out e; omega))
              have hlt5 : w.heap.size < w5.heap.size := hr.lt
              obtain ⟨hto5, hp5, hpp⟩ := HQ.out
              have HTO5 := Lib.hid hto5
              simp only at hp5 hpp
              rw [bytes_len] at hp5
              clear hc hr HSP hto5
              simp only [St.v]
              go_wp2_with (first
                | (at_builtin; refine wpList_app elSt (o := ⟨some 46, _, _, _, _, _⟩) rfl rfl (n := acc.length) (World.ownsRow.alloc HO5.out _) rfl (w0 := w5) ((Below.refl _ _).alloc (by omega) _) (reads_one_St w5 K I T) rfl (eSt.fl_one _) (by simp; omega) (by decide) (by simp; omega) ?_; intro v9 w9 HO9 HB9 HG9)
                | fail)
              have HR9 := Lib.hid (show RdAt w9 w.heap.size s r5 from HR5.out.below HB9.out (Nat.lt_succ_self _))
              go_roundw
              case rel => exact ⟨r5, acc ++ [⟨K, I, T⟩], by rw [List.length_append, Enc.fl_app]; exact HO9, HR9, Lib.hid (HB5.out.trans (HB9.out.mono (Nat.le_succ _))), hp5, fun h => by have := hpp h; simp; omega, by simp; omega, HTO5⟩
              case measure =>
                show rmeas w.heap.size s.size w9 < rmeas w.heap.size s.size wr
                rw [rmeas_at HR9.out, hmw]
                split
                · have := hpp (by assumption); omega
                · omega
        · have n1 : (tk != 1) = true := by simpa using h1
          have HQ := Lib.hid HQ0.out
          rw [if_neg (fun h => h1 h.1)] at HQ
          clear HQ0 hq1 hq2
          go_wp2_with fail
          refine calls_at fun W hW => ?_
          have hbW : Below w2.heap.size w2 W := by subst hW; exact (Below.refl _ _).alloc (Nat.le_refl _) _
          have hTk : Blk W w2.heap.size 93 #[.int .i64 tk, .int .i64 ta, .int .i64 te, .int .i64 ti, .string tb] := by subst hW; exact Blk.new _ _ _
          have HC3 := Lib.hid (HC.out.one_trans (.of_below hbW))
          have HRW := Lib.hid (show RdAt W w.heap.size s r1 from HR2.out.below hbW HR2.out.lt)
          clear hW hbW
          refine (HWR.out W HRW.out).mono ?_
          rintro e w4 ⟨rfl, hc, hr⟩
          have HC4 := Lib.hid (HC3.out.one_trans hc)
          have HRX := Lib.hid hr
          have q4 := (hc.blk hTk (by have := HR2.out.lt; omega)).cell 4
          simp only [List.getElem?_toArray, List.getElem?_cons_succ, List.getElem?_cons_zero] at q4
          clear hc hr hTk
          go_wp2_with fail
          have HSP := rstep_any s tb (r1.wrong (bytes s) ⟨tk, ta, te, ti, tt⟩) w.heap.size _ HRX.out (by rw [RS.wrong_p]; exact hp1) hs
          rw [htb] at HSP
          generalize (r1.wrong (bytes s) ⟨tk, ta, te, ti, tt⟩).step (bytes s) tt = X at *
          refine HSP.mono ?_
          rintro e w5 ⟨rfl, hc, hr⟩
          obtain ⟨⟨K, I, T⟩, r5⟩ := X
          have HC5 := Lib.hid (HC4.out.one_trans hc)
          have HR5 := Lib.hid hr
          have HB5 := Lib.hid (HC5.out.below hB.out hB.out.size (fun k h => Nat.le_of_eq h.symm))
          have HO5 := Lib.hid (HC5.out.own hO.out (fun j e h => by have := own_base hO.out e; omega))
          have hlt5 : w.heap.size < w5.heap.size := hr.lt
          obtain ⟨hto5, hp5, hpp⟩ := HQ.out
          have HTO5 := Lib.hid hto5
          simp only at hp5 hpp
          rw [bytes_len] at hp5
          clear hc hr HSP hto5
          simp only [St.v]
          go_wp2_with (first
            | (at_builtin; refine wpList_app elSt (o := ⟨some 46, _, _, _, _, _⟩) rfl rfl (n := acc.length) (World.ownsRow.alloc HO5.out _) rfl (w0 := w5) ((Below.refl _ _).alloc (by omega) _) (reads_one_St w5 K I T) rfl (eSt.fl_one _) (by simp; omega) (by decide) (by simp; omega) ?_; intro v9 w9 HO9 HB9 HG9)
            | fail)
          have HR9 := Lib.hid (show RdAt w9 w.heap.size s r5 from HR5.out.below HB9.out (Nat.lt_succ_self _))
          go_roundw
          case rel => exact ⟨r5, acc ++ [⟨K, I, T⟩], by rw [List.length_append, Enc.fl_app]; exact HO9, HR9, Lib.hid (HB5.out.trans (HB9.out.mono (Nat.le_succ _))), hp5, fun h => by have := hpp h; simp; omega, by simp; omega, HTO5⟩
          case measure =>
            show rmeas w.heap.size s.size w9 < rmeas w.heap.size s.size wr
            rw [rmeas_at HR9.out, hmw]
            split
            · have := hpp (by assumption); omega
            · omega
    · have hne : (r.e == 0) = false := by simpa using he
      obtain ⟨y, hbad, hRy⟩ := to_bad hto.out he
      obtain ⟨-, -, c2, c3⟩ := hRd.out.cells
      have hne2 : (r.e != 0) = true := by simpa using he
      go_wp2_with fail
      go_region
      go_wp2
      go_ret3
      refine ⟨_, _, _, rfl, hB.out.drew, ?_⟩
      rw [hRy]
      exact ⟨rfl, hbad.2.1, hbad.2.2⟩
end Go.Proofs.YtfcegalckjeafaaGreatDoor
namespace Go.Proofs.YtfcegalckjeafaaGreatDoor
open Go.RowKit Go.BigFrame
theorem rhexd_any (n : Nat) (h : n < 16) (w : World) : Calls Tryz.prog 159 #[.int .u8 (n : Int)] w (VOut w (bv (hexd n))) := by
  by_cases h9 : n < 10
  · have hi : (n : Int) < 10 := by omega
    have e : bv (hexd n) = .int .u8 (48 + (n : Int)) := by
      unfold hexd bv
      rw [if_pos h9, UInt8.toNat_ofNat_of_lt' (by simp [UInt8.size]; omega)]
      simp
    rw [e]
    go_enter Tryz.func159, Tryz.ntmps159
    go_wp2
    go_ret
    exact ⟨rfl, rfl⟩
  · have hi : ¬ (n : Int) < 10 := by omega
    have hi2 : (n : Int) < 16 := by omega
    have e : bv (hexd n) = .int .u8 (97 + (n : Int) - 10) := by
      unfold hexd bv
      rw [if_neg h9, UInt8.toNat_ofNat_of_lt' (by simp [UInt8.size]; omega)]
      congr 1
      omega
    rw [e]
    go_enter Tryz.func159, Tryz.ntmps159
    go_wp2
    go_ret
    exact ⟨rfl, rfl⟩
def QOut (w : World) (l : List UInt8) (e : Ending) (w' : World) : Prop := ∃ g, e = .returned (.slice (some ⟨g, 0, none⟩) l.length l.length) ∧ Reads w' (fun k => k = g) 1 (some ⟨g, 0, none⟩) l.length (l.map bv) ∧ Below w.heap.size w w'
theorem q_out (w : World) (l : List UInt8) : Reads (w.alloc (.cells (l.map bv).toArray 5)) (fun k => k = w.heap.size) 1 (some ⟨w.heap.size, 0, none⟩) l.length (l.map bv) := by
  have := reads_new w 5 (l.map bv)
  rwa [List.length_map] at this
set_option maxRecDepth 100000 in
set_option maxHeartbeats 4000000 in
theorem rone_any (c : UInt8) (w : World) : Calls Tryz.prog 105 #[bv c] w (QOut w (q1 c)) := by
  have hn0 : (0 : Int) ≤ (c.toNat : Int) := by omega
  have hn256 : (c.toNat : Int) < 256 := by have := c.toNat_lt; omega
  have key : ∀ k : UInt8, (c.toNat : Int) = (k.toNat : Int) → c = k := fun k h => UInt8.toNat_inj.1 (by omega)
  have fin : ∀ l : List UInt8, q1 c = l → ∀ e w', e = .returned (.slice (some ⟨w.heap.size, 0, none⟩) l.length l.length) → w' = w.alloc (.cells (l.map bv).toArray 5) → QOut w (q1 c) e w' := fun l hl e w' he hw => by
    rw [hl]
    exact ⟨_, he, by rw [hw]; exact q_out w l, by rw [hw]; exact (Below.refl _ _).alloc (Nat.le_refl _) _⟩
  by_cases h34 : (c.toNat : Int) = 34
  · obtain rfl := key 34 h34
    clear fin
    simp only [bv]
    go_enter Tryz.func105, Tryz.ntmps105
    go_wp2
    go_ret
    exact ⟨_, rfl, q_out w [92, 34], (Below.refl _ _).alloc (Nat.le_refl _) _⟩
  by_cases h92 : (c.toNat : Int) = 92
  · obtain rfl := key 92 h92
    clear fin
    simp only [bv]
    go_enter Tryz.func105, Tryz.ntmps105
    go_wp2
    go_ret
    exact ⟨_, rfl, q_out w [92, 92], (Below.refl _ _).alloc (Nat.le_refl _) _⟩
  by_cases h10 : (c.toNat : Int) = 10
  · obtain rfl := key 10 h10
    clear fin
    simp only [bv]
    go_enter Tryz.func105, Tryz.ntmps105
    go_wp2
    go_ret
    exact ⟨_, rfl, q_out w [92, 110], (Below.refl _ _).alloc (Nat.le_refl _) _⟩
  by_cases h9 : (c.toNat : Int) = 9
  · obtain rfl := key 9 h9
    clear fin
    simp only [bv]
    go_enter Tryz.func105, Tryz.ntmps105
    go_wp2
    go_ret
    exact ⟨_, rfl, q_out w [92, 116], (Below.refl _ _).alloc (Nat.le_refl _) _⟩
  by_cases h13 : (c.toNat : Int) = 13
  · obtain rfl := key 13 h13
    clear fin
    simp only [bv]
    go_enter Tryz.func105, Tryz.ntmps105
    go_wp2
    go_ret
    exact ⟨_, rfl, q_out w [92, 114], (Below.refl _ _).alloc (Nat.le_refl _) _⟩
  have hl : letL c = 0 := by
    unfold letL
    rw [if_neg (fun e => h34 (by rw [e]; rfl)), if_neg (fun e => h92 (by rw [e]; rfl)), if_neg (fun e => h10 (by rw [e]; rfl)), if_neg (fun e => h9 (by rw [e]; rfl)), if_neg (fun e => h13 (by rw [e]; rfl))]
  have e34 : ((c.toNat : Int) == 34) = false := by simpa using h34
  have e92 : ((c.toNat : Int) == 92) = false := by simpa using h92
  have e10 : ((c.toNat : Int) == 10) = false := by simpa using h10
  have e9 : ((c.toNat : Int) == 9) = false := by simpa using h9
  have e13 : ((c.toNat : Int) == 13) = false := by simpa using h13
  by_cases c1 : c.toNat < 32 ∨ 126 < c.toNat
  · have hq := Lib.hid (q1_hex hl c1)
    rw [hq.out]
    obtain ⟨H, s1, hH, hH'⟩ : ∃ H : Nat, (c.toNat : Int) / 16 = (H : Int) ∧ H < 16 ∧ Hid (c.toNat / 16 = H) := ⟨c.toNat / 16, by omega, by omega, rfl⟩
    obtain ⟨L, s2, hL, hL'⟩ : ∃ L : Nat, (c.toNat : Int) % 16 = (L : Int) ∧ L < 16 ∧ Hid (c.toNat % 16 = L) := ⟨c.toNat % 16, by omega, by omega, rfl⟩
    rw [hH'.out, hL'.out]
    have HH := Lib.hid (fun W => rhexd_any H hH W)
    have HL := Lib.hid (fun W => rhexd_any L hL W)
    clear fin key hl hq
    simp only [bv]
    by_cases c32 : (c.toNat : Int) < 32
    · clear c1
      go_enter Tryz.func105, Tryz.ntmps105
      go_wp2_with fail
      refine (HH.out _).mono ?_
      rintro e w1 ⟨rfl, rfl⟩
      simp only [bv]
      go_wp2_with fail
      refine (HL.out _).mono ?_
      rintro e w1 ⟨rfl, rfl⟩
      simp only [bv]
      go_wp2
      go_ret
      exact ⟨_, rfl, q_out _ [92, 120, hexd H, hexd L], (Below.refl _ _).alloc (Nat.le_refl _) _⟩
    · have c126 : (126 : Int) < (c.toNat : Int) := by omega
      clear c1
      go_enter Tryz.func105, Tryz.ntmps105
      go_wp2_with fail
      refine (HH.out _).mono ?_
      rintro e w1 ⟨rfl, rfl⟩
      simp only [bv]
      go_wp2_with fail
      refine (HL.out _).mono ?_
      rintro e w1 ⟨rfl, rfl⟩
      simp only [bv]
      go_wp2
      go_ret
      exact ⟨_, rfl, q_out _ [92, 120, hexd H, hexd L], (Below.refl _ _).alloc (Nat.le_refl _) _⟩
  · have hq := Lib.hid (q1_plain hl c1)
    have c32 : ¬ (c.toNat : Int) < 32 := by omega
    have c126 : ¬ (126 : Int) < (c.toNat : Int) := by omega
    rw [hq.out]
    clear fin key hl hq c1
    simp only [bv]
    go_enter Tryz.func105, Tryz.ntmps105
    go_wp2
    go_ret
    exact ⟨_, rfl, q_out w [c], (Below.refl _ _).alloc (Nat.le_refl _) _⟩
set_option maxRecDepth 100000 in
set_option maxHeartbeats 4000000 in
theorem rquote_any (s : ByteArray) (w : World) (hs : s.size ≤ 2097152) : Calls Tryz.prog 64 #[.string s] w (VBOut w (sv (quoteL (bytes s)))) := by
  go_enter Tryz.func64, Tryz.ntmps64
  go_wp2
  have hown : Hid ((w.alloc (.cells #[.int .u8 34] 5)).ownsRow w.heap.size 5 1 (.slice (some ⟨w.heap.size, 0, none⟩) 1 1) 1 [bv 34]) := Lib.hid ⟨rfl, .inr ⟨w.heap.size, 1, #[.int .u8 34], rfl, Nat.le_refl _, Blk.new _ _ _, Nat.le_refl _, by decide, rfl, rfl⟩⟩
  go_loopw [3, 8] (fun v i wr => ∃ (k : Nat) (acc : List UInt8), k ≤ s.size ∧ i = .int .i64 k ∧ acc.length ≤ 4 * k + 1 ∧ Hid (acc = 34 :: ((bytes s).take k).flatMap q1) ∧ Hid (wr.ownsRow w.heap.size 5 1 v acc.length (acc.map bv)) ∧ Hid (Below w.heap.size w wr)) (fun _ i _ => (s.size - intOf i).toNat)
  case atStart => exact ⟨0, [34], Nat.zero_le _, rfl, by simp, by simp [Hid], hown, (Below.refl _ _).alloc (Nat.le_refl _) _⟩
  case round =>
    obtain ⟨k, acc, hk, rfl, hal, hA, hO, hB⟩ := hrel
    have hz0 := hB.out.size
    obtain ⟨A, c, rfl, hcap⟩ := own_shape hO.out
    by_cases hlt : k < s.size
    · have hki : (k : Int) < (s.size : Int) := by omega
      have hgk : s[k] = s[k] := rfl
      have HL := Lib.hid (fun W => rone_any s[k] W)
      have hacc : Hid (acc ++ q1 s[k] = 34 :: ((bytes s).take (k + 1)).flatMap q1) := Lib.hid (by rw [flat_succ s k hlt, hA.out]; simp)
      have hql := q1_len s[k]
      generalize q1 s[k] = ql at *
      go_wp2_with fail
      refine (HL.out _).mono ?_
      rintro e w1 ⟨g, rfl, hrd, hb⟩
      have HRD := Lib.hid hrd
      have hz1 : w.heap.size ≤ w1.heap.size := Nat.le_trans hz0 hb.size
      have HO1 := Lib.hid (own_below hO.out hb)
      have HB1 := Lib.hid (hB.out.trans (hb.mono hz0))
      clear hrd hb
      go_wp2_with (first | (at_builtin; refine wpList_app elB (o := ⟨some 16, _, _, _, _, _⟩) rfl rfl (n := acc.length) HO1.out rfl (w0 := w) HB1.out HRD.out rfl (by simp [bv, Value.oneCell']) (by omega) (by decide) hz1 ?_; intro v9 w9 HO9 HB9 HG9; clear HG9) | fail)
      go_roundw
      case rel => exact ⟨k + 1, acc ++ ql, by omega, by go_num, by simp; omega, hacc, by rw [List.length_append, List.map_append]; exact HO9, HB9⟩
      case measure => simp [intOf]; omega
    · have hfin : Hid (acc ++ [34] = quoteL (bytes s)) := Lib.hid (by
        have hk' : k = s.size := by omega
        rw [hA.out, hk', bytes_full, quoteL]; rfl)
      go_wp2_with (first | (at_builtin; refine wpList_app elB (o := ⟨some 20, _, _, _, _, _⟩) rfl rfl (n := acc.length) (World.ownsRow.alloc hO.out _) rfl (w0 := w) (hB.out.alloc hz0 _) (reads_new wr 5 [bv 34]) rfl (by simp [bv, Value.oneCell']) (by simp; omega) (by decide) (by simp; omega) ?_; intro v9 w9 HO9 HB9 HG9; clear HG9; obtain ⟨A9, c9, rfl, -⟩ := own_shape HO9.out; have hcv := run_string_own (l := acc ++ [34]) (A := A9) (c := c9) (base := w.heap.size) (w := w9) (by have := HO9.out; simpa using this); simp only [List.length_append, List.length_cons, List.length_nil] at hcv) | fail)
      go_ret
      exact ⟨by rw [← hfin.out]; rfl, HB9.out⟩
end Go.Proofs.YtfcegalckjeafaaGreatDoor
namespace Go.Proofs.YtfcegalckjeafaaGreatDoor
open Go.RowKit Go.BigFrame
set_option maxRecDepth 100000 in
set_option maxHeartbeats 8000000 in
theorem rprint_any (A : Option Addr) (c : Nat) (l : List St) (w : World) (h : StepsIn w A l) (hn : l.length ≤ 70) (hs : ∀ x ∈ l, x.T.length ≤ 3000 ∧ -9223372036854775808 ≤ x.I ∧ x.I ≤ 9223372036854775807) :
    Calls Tryz.prog 29 #[.slice A l.length c] w (VBOut w (sv (printL l))) := by
  have H := Lib.hid h
  have HS := Lib.hid hs
  clear h hs
  go_enter Tryz.func29, Tryz.ntmps29
  go_wp2
  go_loopw [3, 8] (fun v i wr => ∃ (k : Nat) (b : ByteArray), k ≤ l.length ∧ i = .int .i64 k ∧ v = .string b ∧ b.size ≤ 1 + 12004 * k ∧ Hid (bytes b = 36 :: (l.take k).flatMap stepT) ∧ Hid (Below w.heap.size w wr)) (fun _ i _ => (l.length - intOf i).toNat)
  case atStart => exact ⟨0, ⟨#[36]⟩, Nat.zero_le _, rfl, rfl, by show 1 ≤ _; omega, rfl, Below.refl _ _⟩
  case round =>
    obtain ⟨k, b, hk, rfl, rfl, hbs, hb, hB⟩ := hrel
    have hz0 := hB.out.size
    by_cases hlt : k < l.length
    · obtain ⟨ad, K, I, T, rfl, hx, hc0, hc1, hc2⟩ := (H.out.below hB.out).at_ hlt
      have hxl := HS.out _ (List.mem_of_getElem? hx)
      obtain ⟨hT, hI1, hI2⟩ := hxl
      simp only at hT hI1 hI2
      have HF := Lib.hid (flat_step hx)
      have HL := Lib.hid (stepT_len ⟨K, I, T⟩ hT hI1 hI2)
      have hbs2 : b.size ≤ 67108864 := by omega
      have fin : Hid (∀ b3 : ByteArray, bytes b3 = bytes b ++ stepT ⟨K, I, T⟩ → b3.size ≤ 1 + 12004 * (k + 1) ∧ bytes b3 = 36 :: (l.take (k + 1)).flatMap stepT) := Lib.hid fun b3 h3 => by
        refine ⟨?_, by rw [h3, HF.out, hb.out]; simp⟩
        have := congrArg List.length h3
        rw [List.length_append, bytes_len, bytes_len] at this
        have := HL.out
        omega
      clear hx
      by_cases k0 : K = 0
      · subst k0
        have hst : Hid (stepT ⟨0, I, T⟩ = 91 :: (decL I ++ [93])) := Lib.hid (by simp [stepT])
        have hd := Lib.hid (fun W => refDec_any I W hI1 hI2)
        obtain ⟨db, hdb⟩ : ∃ db : ByteArray, db = ⟨(decL I).toArray⟩ := ⟨_, rfl⟩
        have hdl := decL_len I hI1 hI2
        have hds : db.size ≤ 20 := by rw [hdb, size_mk]; exact hdl
        have hbd : Hid (bytes db = decL I) := Lib.hid (by rw [hdb])
        rw [← hdb] at hd
        clear hdb hdl
        obtain ⟨b1, e1⟩ : ∃ b1 : ByteArray, b1 = ⟨(91 :: decL I).toArray⟩ := ⟨_, rfl⟩
        obtain ⟨b2, e2⟩ : ∃ b2 : ByteArray, b2 = ⟨(91 :: (decL I ++ [93])).toArray⟩ := ⟨_, rfl⟩
        obtain ⟨b3, e3⟩ : ∃ b3 : ByteArray, b3 = ⟨(bytes b ++ 91 :: (decL I ++ [93])).toArray⟩ := ⟨_, rfl⟩
        have HA : Hid (∀ W, (Op.stringOp .add ⟨#[91]⟩ db).run Tryz.prog W = .ok (.string b1) W) := Lib.hid fun W => by rw [e1]; exact cat_any _ _ W _ (by decide) (by omega) (by rw [hbd.out]; rfl)
        have hb1 : b1.size ≤ 21 := by rw [e1, size_mk]; simp; rw [← hbd.out, bytes_len]; omega
        have HB2 : Hid (∀ W, (Op.stringOp .add b1 ⟨#[93]⟩).run Tryz.prog W = .ok (.string b2) W) := Lib.hid fun W => by rw [e2]; exact cat_any _ _ W _ (by omega) (by decide) (by rw [e1]; rfl)
        have hb2 : b2.size ≤ 22 := by rw [e2, size_mk]; simp; rw [← hbd.out, bytes_len]; omega
        have HC : Hid (∀ W, (Op.stringOp .add b b2).run Tryz.prog W = .ok (.string b3) W) := Lib.hid fun W => by rw [e3]; exact cat_any _ _ W _ hbs2 (by omega) (by rw [e2])
        have hfin := Lib.hid (fin.out b3 (by rw [e3, hst.out]))
        clear e1 e2 e3 fin hst
        go_wp2_with fail
        refine (hd.out _).mono ?_
        rintro e w1 ⟨rfl, hbw⟩
        have a1 := HA.out w1
        have a2 := HB2.out w1
        have a3 := HC.out w1
        have HBW := Lib.hid hbw
        clear hbw
        go_wp2
        have hal := hB.out.alloc hz0 (.cells #[.int .i64 0, .int .i64 I, .string ⟨T.toArray⟩] 48)
        exact ⟨⟨k + 1, b3, by omega, by go_num, rfl, hfin.out.1, hfin.out.2, hal.trans (HBW.out.mono hal.size)⟩, by simp [intOf]; omega⟩
      by_cases k1 : K = 1
      · subst k1
        have hst : Hid (stepT ⟨1, I, T⟩ = 91 :: (quoteL T ++ [93])) := Lib.hid (by simp [stepT])
        have hd := Lib.hid (fun W => rquote_any ⟨T.toArray⟩ W (by rw [size_mk]; omega))
        rw [bytes_mk] at hd
        simp only [sv] at hd
        obtain ⟨db, hdb⟩ : ∃ db : ByteArray, db = ⟨(quoteL T).toArray⟩ := ⟨_, rfl⟩
        have hdl := quoteL_len T
        have hds : db.size ≤ 12002 := by rw [hdb, size_mk]; omega
        have hbd : Hid (bytes db = quoteL T) := Lib.hid (by rw [hdb])
        rw [← hdb] at hd
        clear hdb hdl
        obtain ⟨b1, e1⟩ : ∃ b1 : ByteArray, b1 = ⟨(91 :: quoteL T).toArray⟩ := ⟨_, rfl⟩
        obtain ⟨b2, e2⟩ : ∃ b2 : ByteArray, b2 = ⟨(91 :: (quoteL T ++ [93])).toArray⟩ := ⟨_, rfl⟩
        obtain ⟨b3, e3⟩ : ∃ b3 : ByteArray, b3 = ⟨(bytes b ++ 91 :: (quoteL T ++ [93])).toArray⟩ := ⟨_, rfl⟩
        have HA : Hid (∀ W, (Op.stringOp .add ⟨#[91]⟩ db).run Tryz.prog W = .ok (.string b1) W) := Lib.hid fun W => by rw [e1]; exact cat_any _ _ W _ (by decide) (by omega) (by rw [hbd.out]; rfl)
        have hb1 : b1.size ≤ 12003 := by rw [e1, size_mk]; simp only [List.length_cons]; rw [← hbd.out, bytes_len]; omega
        have HB2 : Hid (∀ W, (Op.stringOp .add b1 ⟨#[93]⟩).run Tryz.prog W = .ok (.string b2) W) := Lib.hid fun W => by rw [e2]; exact cat_any _ _ W _ (by omega) (by decide) (by rw [e1]; rfl)
        have hb2 : b2.size ≤ 12004 := by rw [e2, size_mk]; simp only [List.length_cons, List.length_append, List.length_nil]; rw [← hbd.out, bytes_len]; omega
        have HC : Hid (∀ W, (Op.stringOp .add b b2).run Tryz.prog W = .ok (.string b3) W) := Lib.hid fun W => by rw [e3]; exact cat_any _ _ W _ hbs2 (by omega) (by rw [e2])
        have hfin := Lib.hid (fin.out b3 (by rw [e3, hst.out]))
        clear e1 e2 e3 fin hst
        go_wp2_with fail
        refine (hd.out _).mono ?_
        rintro e w1 ⟨rfl, hbw⟩
        have a1 := HA.out w1
        have a2 := HB2.out w1
        have a3 := HC.out w1
        have HBW := Lib.hid hbw
        clear hbw
        go_wp2
        have hal := hB.out.alloc hz0 (.cells #[.int .i64 1, .int .i64 I, .string ⟨T.toArray⟩] 48)
        exact ⟨⟨k + 1, b3, by omega, by go_num, rfl, hfin.out.1, hfin.out.2, hal.trans (HBW.out.mono hal.size)⟩, by simp [intOf]; omega⟩
      by_cases k2 : K = 2
      · subst k2
        have hst : Hid (stepT ⟨2, I, T⟩ = 60 :: (quoteL T ++ [62])) := Lib.hid (by simp [stepT])
        have hd := Lib.hid (fun W => rquote_any ⟨T.toArray⟩ W (by rw [size_mk]; omega))
        rw [bytes_mk] at hd
        simp only [sv] at hd
        obtain ⟨db, hdb⟩ : ∃ db : ByteArray, db = ⟨(quoteL T).toArray⟩ := ⟨_, rfl⟩
        have hdl := quoteL_len T
        have hds : db.size ≤ 12002 := by rw [hdb, size_mk]; omega
        have hbd : Hid (bytes db = quoteL T) := Lib.hid (by rw [hdb])
        rw [← hdb] at hd
        clear hdb hdl
        obtain ⟨b1, e1⟩ : ∃ b1 : ByteArray, b1 = ⟨(60 :: quoteL T).toArray⟩ := ⟨_, rfl⟩
        obtain ⟨b2, e2⟩ : ∃ b2 : ByteArray, b2 = ⟨(60 :: (quoteL T ++ [62])).toArray⟩ := ⟨_, rfl⟩
        obtain ⟨b3, e3⟩ : ∃ b3 : ByteArray, b3 = ⟨(bytes b ++ 60 :: (quoteL T ++ [62])).toArray⟩ := ⟨_, rfl⟩
        have HA : Hid (∀ W, (Op.stringOp .add ⟨#[60]⟩ db).run Tryz.prog W = .ok (.string b1) W) := Lib.hid fun W => by rw [e1]; exact cat_any _ _ W _ (by decide) (by omega) (by rw [hbd.out]; rfl)
        have hb1 : b1.size ≤ 12003 := by rw [e1, size_mk]; simp only [List.length_cons]; rw [← hbd.out, bytes_len]; omega
        have HB2 : Hid (∀ W, (Op.stringOp .add b1 ⟨#[62]⟩).run Tryz.prog W = .ok (.string b2) W) := Lib.hid fun W => by rw [e2]; exact cat_any _ _ W _ (by omega) (by decide) (by rw [e1]; rfl)
        have hb2 : b2.size ≤ 12004 := by rw [e2, size_mk]; simp only [List.length_cons, List.length_append, List.length_nil]; rw [← hbd.out, bytes_len]; omega
        have HC : Hid (∀ W, (Op.stringOp .add b b2).run Tryz.prog W = .ok (.string b3) W) := Lib.hid fun W => by rw [e3]; exact cat_any _ _ W _ hbs2 (by omega) (by rw [e2])
        have hfin := Lib.hid (fin.out b3 (by rw [e3, hst.out]))
        clear e1 e2 e3 fin hst
        go_wp2_with fail
        refine (hd.out _).mono ?_
        rintro e w1 ⟨rfl, hbw⟩
        have a1 := HA.out w1
        have a2 := HB2.out w1
        have a3 := HC.out w1
        have HBW := Lib.hid hbw
        clear hbw
        go_wp2
        have hal := hB.out.alloc hz0 (.cells #[.int .i64 2, .int .i64 I, .string ⟨T.toArray⟩] 48)
        exact ⟨⟨k + 1, b3, by omega, by go_num, rfl, hfin.out.1, hfin.out.2, hal.trans (HBW.out.mono hal.size)⟩, by simp [intOf]; omega⟩
      · have hst : Hid (stepT ⟨K, I, T⟩ = [91, 63, 93]) := Lib.hid (by simp [stepT, k0, k1, k2])
        have n0 : (K == 0) = false := by simpa using k0
        have n1 : (K == 1) = false := by simpa using k1
        have n2 : (K == 2) = false := by simpa using k2
        obtain ⟨b3, e3⟩ : ∃ b3 : ByteArray, b3 = ⟨(bytes b ++ [91, 63, 93]).toArray⟩ := ⟨_, rfl⟩
        have HC : Hid (∀ W, (Op.stringOp .add b ⟨#[91, 63, 93]⟩).run Tryz.prog W = .ok (.string b3) W) := Lib.hid fun W => by rw [e3]; exact cat_any _ _ W _ hbs2 (by decide) rfl
        have hfin := Lib.hid (fin.out b3 (by rw [e3, hst.out]))
        clear e3 fin hst
        have a3 := HC.out (wr.alloc (.cells #[.int .i64 K, .int .i64 I, .string ⟨T.toArray⟩] 48))
        go_wp2
        exact ⟨⟨k + 1, b3, by omega, by go_num, rfl, hfin.out.1, hfin.out.2, hB.out.alloc hz0 _⟩, by simp [intOf]; omega⟩
    · have hX : Hid (b = ⟨(printL l).toArray⟩) := Lib.hid (by
        have hk' : k = l.length := by omega
        rw [← ba_eta b]
        show (⟨(bytes b).toArray⟩ : ByteArray) = _
        rw [hb.out, hk', List.take_length]
        rfl)
      go_wp2
      go_ret
      exact ⟨by rw [hX.out]; rfl, hB.out⟩
end Go.Proofs.YtfcegalckjeafaaGreatDoor
namespace Go.Proofs.YtfcegalckjeafaaGreatDoor
open Go.RowKit Go.BigFrame Go.Shelf
theorem goL_len (s : List UInt8) : ∀ (n p : Nat) (acc l : List St), goL s n p acc = .inl l → l.length ≤ acc.length + n
  | 0, p, acc, l, h => by simp [goL] at h
  | n + 1, p, acc, l, h => by
    rw [goL_succ] at h
    split at h
    · cases h
    split at h
    · cases h; omega
    split at h
    · split at h
      · cases h
      · have := goL_len s n _ _ _ h
        simp at this; omega
    · cases h
theorem addrL_len {s : List UInt8} {l : List St} (h : addrL s = .inl l) : l.length ≤ s.length + 1 := by
  unfold addrL at h
  split at h
  · cases h
  · have := goL_len s _ _ _ _ h
    simpa using this
set_option maxRecDepth 100000 in
set_option maxHeartbeats 8000000 in
theorem addrTexts_any (A : Option Addr) (c : Nat) (a : List St) (s : ByteArray) (w : World) (hT : SgT w) (hg : 0 < w.heap.size) (hE : ErrT w) (hge : 1 < w.heap.size) (ha : StepsIn w A a) (na : a.length ≤ 9223372036854775807) (hi : ∀ x ∈ a, -9223372036854775808 ≤ x.I ∧ x.I ≤ 9223372036854775807) :
    Calls Tryz.prog 7 #[.slice A a.length c, .string s] w fun e w' => e = .returned (.bool true) ∧ Below w.heap.size w w' := by
  have LIVE := Lib.hid (fun W (h : Below w.heap.size w W) => live_any W (hT.below h hg) (Nat.lt_of_lt_of_le hg h.size))
  have HP := Lib.hid (fun (hs : s.size ≤ 8388608) W (h : Below w.heap.size w W) => aparse_any s W hs (hT.below h hg) (Nat.lt_of_lt_of_le hg h.size))
  have HAT := Lib.hid (fun v a c W (h : Below w.heap.size w W) hv => at_err v a c W hv (hE.below h hge) (Nat.lt_of_lt_of_le hge h.size))
  have HA := Lib.hid ha
  have HI := Lib.hid hi
  have SA := Lib.hid (fun W (h : Below w.heap.size w W) => shortS_any A c a W (ha.below h) na)
  clear hT ha hg hi hE hge
  obtain ⟨qa, hqa⟩ : ∃ q, q = shortS a := ⟨_, rfl⟩
  rw [← hqa] at SA
  have HQA := Lib.hid hqa
  clear hqa
  cases qa with
  | false =>
    go_enter Tryz.func7, Tryz.ntmps7
    go_wp2_with fail
    refine (LIVE.out w (Below.refl _ _)).mono ?_
    rintro e w1 ⟨rfl, hb1⟩
    go_wp2_with fail
    refine (SA.out w1 hb1).mono ?_
    rintro e w2 ⟨rfl, hb2⟩
    have hb2 := hb1.trans (hb2.mono hb1.size)
    go_wp2_with fail
    refine (LIVE.out w2 hb2).mono ?_
    rintro e w3 ⟨rfl, hb3⟩
    go_wp2
    go_ret
    exact ⟨rfl, hb2.trans (hb3.mono hb2.size)⟩
  | true =>
    by_cases hsz : 2000 < s.size
    · have hsi : (2000 : Int) < (s.size : Int) := by omega
      go_enter Tryz.func7, Tryz.ntmps7
      go_wp2_with fail
      refine (LIVE.out w (Below.refl _ _)).mono ?_
      rintro e w1 ⟨rfl, hb1⟩
      go_wp2_with fail
      refine (SA.out w1 hb1).mono ?_
      rintro e w2 ⟨rfl, hb2⟩
      have hb2 := hb1.trans (hb2.mono hb1.size)
      go_wp2_with fail
      refine (LIVE.out w2 hb2).mono ?_
      rintro e w3 ⟨rfl, hb3⟩
      go_wp2
      go_ret
      exact ⟨rfl, hb2.trans (hb3.mono hb2.size)⟩
    · have hsi : ¬ (2000 : Int) < (s.size : Int) := by omega
      have HPA := Lib.hid (HP.out (by omega))
      have HPB := Lib.hid (fun W => rparse_any s W (by omega))
      have hsh := short_len HQA.out.symm
      have hall : ∀ x ∈ a, x.T.length ≤ 3000 ∧ -9223372036854775808 ≤ x.I ∧ x.I ≤ 9223372036854775807 := fun x hx => ⟨hsh.2 x hx, HI.out x hx⟩
      have HPR := Lib.hid (fun W (h : Below w.heap.size w W) => print_any A c a W (HA.out.below h) hsh.1 hall)
      have HPS := Lib.hid (fun W (h : Below w.heap.size w W) => rprint_any A c a W (HA.out.below h) hsh.1 hall)
      clear HP hall hsh
      go_enter Tryz.func7, Tryz.ntmps7
      go_wp2_with fail
      refine (LIVE.out w (Below.refl _ _)).mono ?_
      rintro e w1 ⟨rfl, hb1⟩
      go_wp2_with fail
      refine (SA.out w1 hb1).mono ?_
      rintro e w2 ⟨rfl, hb2⟩
      have hB2 := Lib.hid (hb1.trans (hb2.mono hb1.size))
      clear hb1 hb2 SA LIVE
      have hlen : ∀ l, addrL (bytes s) = .inl l → l.length ≤ s.size + 1 := fun l h => by have := addrL_len h; rwa [bytes_len] at this
      generalize addrL (bytes s) = R at *
      generalize printL a = tl at *
      simp only [sv] at HPR HPS
      generalize (⟨tl.toArray⟩ : ByteArray) = tb at *
      go_wp2_with fail
      refine (HPA.out w2 hB2.out).mono ?_
      rintro e w3 ⟨v3, x3, rfl, hb3, hx3⟩
      have hB3 := Lib.hid (hB2.out.trans (hb3.mono hB2.out.size))
      have HX3 := Lib.hid hx3
      clear hb3 HPA hx3
      go_wp2_with fail
      refine (HPB.out w3).mono ?_
      rintro e w4 ⟨v4, n1, n2, rfl, hb4, hx4⟩
      have hB4 := Lib.hid (hB3.out.trans (hb4.mono hB3.out.size))
      have HB34 := Lib.hid hb4
      have HX4 := Lib.hid hx4
      clear hb4 HPB hx4
      go_wp2_with fail
      refine (HPR.out w4 hB4.out).mono ?_
      rintro e w5 ⟨rfl, hb5⟩
      have hB5 := Lib.hid (hB4.out.trans (hb5.mono hB4.out.size))
      have HB35 := Lib.hid (HB34.out.trans (hb5.mono HB34.out.size))
      have HB45 := Lib.hid hb5
      clear hb5 HPR
      go_wp2_with fail
      refine (HPS.out w5 hB5.out).mono ?_
      rintro e w6 ⟨rfl, hb6⟩
      have hB6 := Lib.hid (hB5.out.trans (hb6.mono hB5.out.size))
      have HB36 := Lib.hid (HB35.out.trans (hb6.mono HB35.out.size))
      have HB46 := Lib.hid (HB45.out.trans (hb6.mono HB45.out.size))
      clear hb6 HPS HB34 HB35 HB45
      cases R with
      | inl l =>
        obtain ⟨rfl, A3, c3, rfl, hc3, hr3⟩ := HX3.out
        obtain ⟨rfl, rfl, A4, c4, rfl, hc4, hr4⟩ := HX4.out
        have hl := hlen l rfl
        have HSS := Lib.hid (same_any A3 A4 c3 c4 l l w6 ((steps_of hr3).below HB36.out) ((steps_of hr4).below HB46.out) (by omega) (by omega))
        clear hr3 hr4 HX3 HX4 HB36 HB46 hlen
        go_wp2_with fail
        refine HSS.out.mono ?_
        rintro e w7 ⟨rfl, hb7⟩
        have hB7 := Lib.hid (hB6.out.trans (hb7.mono hB6.out.size))
        clear hb7 HSS
        go_wp2_with fail
        refine (at_nil 0 w7).mono ?_
        rintro e w8 ⟨rfl, hb8⟩
        have hB8 := Lib.hid (hB7.out.trans (hb8.mono hB7.out.size))
        clear hb8
        go_wp2
        go_ret
        exact ⟨rfl, hB8.out⟩
      | inr y =>
        obtain ⟨rfl, he3⟩ := HX3.out
        obtain ⟨rfl, rfl, rfl⟩ := HX4.out
        have HE6 := Lib.hid (he3.below HB36.out)
        have HSS := Lib.hid (same_any none none 0 0 [] [] w6 (fun h => absurd h (Nat.lt_irrefl 0)) (fun h => absurd h (Nat.lt_irrefl 0)) (by simp) (by simp))
        clear he3 HX3 HX4 HB36 HB46 hlen
        go_wp2_with fail
        refine HSS.out.mono ?_
        rintro e w7 ⟨rfl, hb7⟩
        have hB7 := Lib.hid (hB6.out.trans (hb7.mono hB6.out.size))
        have HE7 := Lib.hid (HE6.out.below hb7)
        clear hb7 HSS
        go_wp2_with fail
        refine (HAT.out _ _ _ w7 hB7.out HE7.out).mono ?_
        rintro e w8 ⟨rfl, hb8⟩
        have hB8 := Lib.hid (hB7.out.trans (hb8.mono hB7.out.size))
        clear hb8
        go_wp2
        go_ret
        exact ⟨rfl, hB8.out⟩
end Go.Proofs.YtfcegalckjeafaaGreatDoor
