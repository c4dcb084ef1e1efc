/-
  Parts of the proof that AddrBegins,AddrTexts calls on: Tj.
-/
import Derived.Test.YtfcegalckjeafaaGreatDoorM303
import Derived.Test.YtfcegalckjeafaaGreatDoorM315
namespace Go.Proofs.YtfcegalckjeafaaGreatDoor
open Go.RowKit Go.BigFrame
/-- Where a run of such bytes ends. -/
def endF (f : UInt8 → Bool) (l : List UInt8) (p : Nat) : Nat := p + ((l.drop p).takeWhile f).length
theorem endF_step {f : UInt8 → Bool} (s : ByteArray) (p : Nat) (h : p < s.size) (hf : f s[p] = true) : endF f (bytes s) p = endF f (bytes s) (p + 1) := by
  unfold endF
  rw [bytes_drop s p h, List.takeWhile_cons, hf]
  simp; omega
theorem endF_stop {f : UInt8 → Bool} (s : ByteArray) (p : Nat) (h : p < s.size) (hf : f s[p] = false) : endF f (bytes s) p = p := by
  unfold endF
  rw [bytes_drop s p h, List.takeWhile_cons, hf]
  simp
theorem endF_end {f : UInt8 → Bool} (s : ByteArray) (p : Nat) (h : s.size ≤ p) : endF f (bytes s) p = p := by
  unfold endF
  rw [List.drop_of_length_le (by rw [bytes_len]; exact h)]
  simp
theorem endF_le {f : UInt8 → Bool} (s : ByteArray) (p : Nat) (h : p ≤ s.size) : p ≤ endF f (bytes s) p ∧ endF f (bytes s) p ≤ s.size := by
  have := (List.takeWhile_sublist (p := f) (l := (bytes s).drop p)).length_le
  rw [List.length_drop, bytes_len] at this
  unfold endF
  omega
theorem skip_end (l : List UInt8) (p : Nat) : skipL l p = endF blank l p := rfl
/-- The bytes from a place on, so far as such a run goes. -/
theorem endF_ext {f : UInt8 → Bool} (s : ByteArray) (p : Nat) (h : p < s.size) : bytes (s.extract p (endF f (bytes s) (p + 1))) = s[p] :: ((bytes s).drop (p + 1)).takeWhile f := by
  show (s.extract p _).data.toList = _
  rw [Lib.extract_data, show s.data.toList = bytes s from rfl, bytes_drop s p h, endF]
  rw [show p + 1 + (((bytes s).drop (p + 1)).takeWhile f).length - p = (((bytes s).drop (p + 1)).takeWhile f).length + 1 by omega, List.take_succ_cons]
  congr 1
  exact (List.prefix_iff_eq_take.1 (List.takeWhile_prefix f)).symm
def NextRes (R : Tok ⊕ (Nat × Int)) (tk : Tok) (ev : Value) (w : World) : Prop := match R with | .inl t => tk = t ∧ ev = .nilIface | .inr r => tk = Tok.z ∧ ErrAt w ev r.1 r.2
theorem NextOut.out {R : Tok ⊕ (Nat × Int)} {w w' : World} {e : Ending} (h : NextOut R w e w') : ∃ tk ev, e = .returned (.tuple #[Tok.v tk, ev]) ∧ Below w.heap.size w w' ∧ NextRes R tk ev w' := by
  obtain ⟨h1, h2⟩ := h
  cases R with
  | inl t => exact ⟨t, _, h2, h1, rfl, rfl⟩
  | inr r => obtain ⟨v, h3, h4⟩ := h2; exact ⟨_, v, h3, h1, rfl, h4⟩
theorem NextRes.in_ {R : Tok ⊕ (Nat × Int)} {tk : Tok} {ev : Value} {w w' w8 : World} {g : Nat} {cs : Array Value} (h : NextRes R tk ev w') (hk : ∀ k, k ≠ g → w8.heap[k]? = w'.heap[k]?) (hg : Blk w' g 93 cs) (hb : Below w.heap.size w w8) : NextOut R w (.returned (.tuple #[Tok.v tk, ev])) w8 := by
  refine ⟨hb, ?_⟩
  cases R with
  | inl t => obtain ⟨rfl, rfl⟩ := h; rfl
  | inr r =>
    obtain ⟨rfl, h1, b, h2, h3⟩ := h
    refine ⟨ev, rfl, h1, b, h2, (hk b (fun e => ?_)).trans h3⟩
    rw [e] at h3
    exact absurd (blk_type h3 hg) (by decide)
theorem tok_text {c : UInt8} {l : List UInt8} (h : c = 34) (p : Nat) : tokL (c :: l) p = textTok (c :: l) p := by
  rw [tokL, if_pos h, textTok]
  cases unqL (c :: l) <;> rfl
theorem tok_sign {c : UInt8} {l : List UInt8} (h1 : c ≠ 34) (h2 : letB c false = false) (h3 : c ≠ 45) (h4 : isDig c = false) (p : Nat) : tokL (c :: l) p = signTok (c :: l) p := by
  simp only [tokL, h1, if_false, h2, Bool.false_eq_true, h3, h4, or_self, signTok]
  cases List.find? (fun x => x.isPrefixOf (c :: l)) signsL <;> rfl
theorem tok_word {c : UInt8} {l : List UInt8} (h1 : c ≠ 34) (h2 : letB c false = true) (p : Nat) : tokL (c :: l) p = .inl ⟨2, p, (p + 1 + (l.takeWhile (letB · true)).length : Nat), 0, c :: l.takeWhile (letB · true)⟩ := by
  simp only [tokL, h1, if_false, h2, if_true]
theorem tok_num {c : UInt8} {l : List UInt8} (h1 : c ≠ 34) (h2 : letB c false = false) (h3 : c = 45 ∨ isDig c = true) (p : Nat) : tokL (c :: l) p = if (parseL (c :: l.takeWhile isDig)).2 = 0 then .inl ⟨3, p, (p + 1 + (l.takeWhile isDig).length : Nat), (parseL (c :: l.takeWhile isDig)).1, []⟩ else .inr (p, (parseL (c :: l.takeWhile isDig)).2) := by
  simp only [tokL, h1, if_false, h2, Bool.false_eq_true, h3, if_true]
set_option maxRecDepth 100000 in
set_option maxHeartbeats 8000000 in
theorem next_any (s : ByteArray) (p : Nat) (w : World) (hp : p ≤ s.size) (hs : s.size ≤ 8388608) (hT : SgT w) (hg : 0 < w.heap.size) :
    Calls Tryz.prog 51 #[.string s, .int .i64 p] w (NextOut (nextL (bytes s) p) w) := by
  obtain ⟨R, hR⟩ : ∃ R, R = nextL (bytes s) p := ⟨_, rfl⟩
  rw [← hR]
  obtain ⟨q, hq⟩ : ∃ q, q = skipL (bytes s) p := ⟨_, rfl⟩
  rw [nextL, ← hq] at hR
  have hq1 := skipL_le (bytes s) p (by rw [bytes_len]; exact hp)
  rw [← hq, bytes_len] at hq1
  obtain ⟨hpq, hqs⟩ := hq1
  have HR := Lib.hid hR
  have HQ := Lib.hid hq
  have HT := Lib.hid hT
  have hpi : ¬ (s.size : Int) < (p : Int) := by omega
  clear hR hq hT
  go_enter Tryz.func51, Tryz.ntmps51
  go_wp2_with fail
  go_loopw [1] (fun a wr => ∃ k : Nat, p ≤ k ∧ k ≤ s.size ∧ a = .int .i64 k ∧ Hid (endF blank (bytes s) k = q) ∧ wr = w.alloc (.cells (Tok.l Tok.z).toArray 93)) (fun a _ => (s.size - intOf a).toNat)
  case atStart => exact ⟨p, Nat.le_refl _, hp, rfl, by rw [← skip_end]; exact HQ.out.symm, rfl⟩
  case round =>
    obtain ⟨k, hk1, hk2, rfl, hE, rfl⟩ := hrel
    by_cases hlt : k < s.size
    · have hki : (k : Int) < (s.size : Int) := by omega
      have hgk : s[k] = s[k] := rfl
      have HB := Lib.hid (fun W => blank_any s[k] W)
      cases hb : blank s[k] with
      | true =>
        have hst := Lib.hid ((endF_step s k hlt hb).symm.trans hE.out)
        rw [hb] at HB
        clear hb hgk hE
        go_wp2_with fail
        refine (HB.out _).mono ?_
        rintro e w1 ⟨rfl, rfl⟩
        go_wp2
        go_roundw
        case rel => exact ⟨k + 1, by omega, by omega, by go_num, hst, trivial⟩
        case measure => simp [intOf]; omega
      | false =>
        have hqk := (endF_stop s k hlt hb).symm.trans hE.out
        subst hqk
        rw [hb] at HB
        have hd := bytes_drop s k hlt
        have hRc : Hid (R = tokL (s[k] :: (bytes s).drop (k + 1)) k) := Lib.hid (by rw [HR.out, hd])
        have HD := Lib.hid hd
        have HL := Lib.hid (fun W => letter_any s[k] false W)
        have HG := Lib.hid (fun W => digit_any s[k] W)
        have hki2 : (k : Int) ≤ 8388608 := by omega
        have hneq : ((k : Int) == (s.size : Int)) = false := by simp; omega
        clear hb hE hd HR HQ hpq hqs
        go_wp2_with fail
        refine (HB.out _).mono ?_
        rintro e w1 ⟨rfl, rfl⟩
        clear HB
        have hw0 : Hid (Blk (w.alloc (.cells (Tok.l Tok.z).toArray 93)) w.heap.size 93 (Tok.l Tok.z).toArray ∧ Below w.heap.size w (w.alloc (.cells (Tok.l Tok.z).toArray 93))) := Lib.hid ⟨Blk.new _ _ _, (Below.refl _ _).alloc (Nat.le_refl _) _⟩
        have hT0 : Hid (SgT (w.alloc (.cells (Tok.l Tok.z).toArray 93)) ∧ 0 < (w.alloc (.cells (Tok.l Tok.z).toArray 93)).heap.size ∧ w.heap.size < (w.alloc (.cells (Tok.l Tok.z).toArray 93)).heap.size) := Lib.hid ⟨HT.out.below ((Below.refl _ _).alloc (Nat.le_refl _) _) hg, by simp, by simp⟩
        generalize w.alloc (.cells (Tok.l Tok.z).toArray 93) = w0 at *
        by_cases c34 : (s[k].toNat : Int) = 34
        · have m34 : s[k] = 34 := u8_of s[k] 34 (by decide) c34
          have hX := Lib.hid (fun W => text_any2 s k W (by omega) hs)
          have hRX : R = textTok ((bytes s).drop k) k := by rw [hRc.out, tok_text m34, HD.out]
          rw [← hRX] at hX
          clear m34 hRc HD HL HG hRX
          go_wp2_with fail
          refine (hX.out _).mono ?_
          rintro e w1 hno
          obtain ⟨tk, ev, rfl, hb, hres⟩ := hno.out
          have hal : Below w0.heap.size w0 (w0.alloc (.cells #[.int .i64 0, .int .i64 (k : Int), .int .i64 ((k : Int) + 1), .int .i64 0, .string ⟨#[]⟩] 93)) := (Below.refl _ _).alloc (Nat.le_refl _) _
          have hb1 := hal.trans (hb.mono hal.size)
          have HO := Lib.hid (hw0.out.1.below hb1 hw0.out.1.lt)
          have HBB := Lib.hid (hw0.out.2.trans (hb1.mono hw0.out.2.size))
          have HRES := Lib.hid hres
          clear hno hres hb hal hb1 hX
          go_wp2_with (refine wpList_stE (E := eTk) rfl rfl infoTk rfl tk HO.out rfl rfl ?_; intro w8 HR8 ho8 hB8)
          exact ret_ct (p := 4) (u := 5) rfl rfl rfl HR8.out (by kernel_rfl) rfl (HRES.out.in_ ho8 HO.out (hB8 _ _ HBB.out (Nat.le_refl _)))
        · have m34 : s[k] ≠ 34 := fun e => c34 (by rw [e]; rfl)
          have n34 : ((s[k].toNat : Int) == 34) = false := by simpa using c34
          cases hlb : letB s[k] false with
          | true =>
            rw [hlb] at HL
            have hRX : Hid (R = .inl ⟨2, k, (endF (letB · true) (bytes s) (k + 1) : Nat), 0, bytes (s.extract k (endF (letB · true) (bytes s) (k + 1)))⟩) := Lib.hid (by rw [hRc.out, tok_word m34 hlb, endF_ext s k hlt]; rfl)
            clear hRc HD HG hlb m34
            go_wp2_with fail
            refine (HL.out _).mono ?_
            rintro e w1 ⟨rfl, rfl⟩
            go_wp2_with fail
            go_loopw [64] (fun _ wr => ∃ e : Nat, k + 1 ≤ e ∧ e ≤ s.size ∧ Hid (endF (letB · true) (bytes s) e = endF (letB · true) (bytes s) (k + 1)) ∧ Hid (Blk wr w0.heap.size 93 #[.int .i64 0, .int .i64 (k : Int), .int .i64 (e : Int), .int .i64 0, .string ⟨#[]⟩]) ∧ Hid (Below w0.heap.size w0 wr)) (fun _ wr => match wr.cell? ⟨w0.heap.size, 2, none⟩ with | some (.int _ m) => (s.size - m).toNat | _ => 0)
            case atStart => exact ⟨k + 1, Nat.le_refl _, by omega, rfl, Blk.new _ _ _, (Below.refl _ _).alloc (Nat.le_refl _) _⟩
            case round =>
              obtain ⟨e, he1, he2, hE, hK, hB⟩ := hrel
              have c0 := hK.out.cell 0
              have c1 := hK.out.cell 1
              have c2 := hK.out.cell 2
              have c3 := hK.out.cell 3
              have c4 := hK.out.cell 4
              have f0 := hK.out.frozen 0
              have f2 := hK.out.frozen 2
              have f3 := hK.out.frozen 3
              have f4 := hK.out.frozen 4
              simp only [List.getElem?_toArray, List.getElem?_cons_succ, List.getElem?_cons_zero] at c0 c1 c2 c3 c4
              have hei : (e : Int) ≤ 8388608 := by omega
              have hek : ((e : Int)).toNat = e := by omega
              have hek1 : (k : Int) ≤ (e : Int) := by omega
              have hek2 : k ≤ e := by omega
              by_cases hle : e < s.size
              · have hli : (e : Int) < (s.size : Int) := by omega
                have hge : s[e] = s[e] := rfl
                have HL2 := Lib.hid (fun W => letter_any s[e] true W)
                cases hb2 : letB s[e] true with
                | true =>
                  have hst := Lib.hid ((endF_step s e hle hb2).symm.trans hE.out)
                  rw [hb2] at HL2
                  have hK2 : Hid (Blk (wr.setCell ⟨w0.heap.size, 2, none⟩ (.int .i64 ((e : Int) + 1))) w0.heap.size 93 #[.int .i64 0, .int .i64 (k : Int), .int .i64 ((e : Int) + 1), .int .i64 0, .string ⟨#[]⟩]) := Lib.hid (by simpa using hK.out.set_ 2 (.int .i64 ((e : Int) + 1)))
                  clear hb2 hge hE c0 c1 c3 c4
                  go_wp2_with fail
                  refine (HL2.out _).mono ?_
                  rintro e1 w1 ⟨rfl, rfl⟩
                  go_wp2
                  go_roundw
                  case rel => exact ⟨e + 1, by omega, by omega, hst, hK2, hB.out.setCell (Nat.le_refl _) _⟩
                  case measure =>
                    have c2' := hK2.out.cell 2
                    simp only [List.getElem?_toArray, List.getElem?_cons_succ, List.getElem?_cons_zero] at c2'
                    rw [c2', c2]
                    simp only
                    omega
                | false =>
                  have hend : endF (letB · true) (bytes s) (k + 1) = e := by rw [← hE.out]; exact endF_stop s e hle hb2
                  rw [hb2] at HL2
                  clear hb2 hge hE
                  go_wp2_with fail
                  refine (HL2.out _).mono ?_
                  rintro e1 w1 ⟨rfl, rfl⟩
                  rw [hend] at hRX
                  clear hend
                  have hK3 := Lib.hid (((hK.out.set_ 0 (.int .i64 2)).set_ 4 (.string (s.extract k e))).drew)
                  have hw0l := hT0.out.2.2
                  have hwn : w.heap.size ≠ w0.heap.size := by omega
                  have hO3 := Lib.hid ((((hw0.out.1.below hB.out hw0.out.1.lt).far (p := ⟨w0.heap.size, 0, none⟩) hwn (.int .i64 2)).far (p := ⟨w0.heap.size, 4, none⟩) hwn (.string (s.extract k e))).drew)
                  have hB3 := Lib.hid ((((hw0.out.2.trans (hB.out.mono hw0.out.2.size)).setCell (p := ⟨w0.heap.size, 0, none⟩) (by show w.heap.size ≤ w0.heap.size; omega) (.int .i64 2)).setCell (p := ⟨w0.heap.size, 4, none⟩) (by show w.heap.size ≤ w0.heap.size; omega) (.string (s.extract k e))).drew)
                  go_wp2_with fail
                  go_region
                  go_wp2_with (first
                    | (refine wpList_ldl rfl (o := ⟨some 86, _, _, _, _, _⟩) rfl rfl (Tok.l ⟨2, k, e, 0, bytes (s.extract k e)⟩) isTok (fun j u hu => by have := Blk.cell hK3.out j; rw [addr_plain, this]; simpa [Tok.l, sv] using hu) ?_)
                    | (refine wpList_stE (E := eTk) rfl rfl infoTk rfl ⟨2, k, e, 0, bytes (s.extract k e)⟩ hO3.out rfl rfl ?_; intro w8 HR8 ho8 hB8)
                    | fail)
                  exact ret_ct (p := 4) (u := 5) rfl rfl rfl HR8.out (by kernel_rfl) rfl ⟨hB8 _ _ hB3.out (Nat.le_refl _), by rw [hRX.out]; rfl⟩
              · have hend : endF (letB · true) (bytes s) (k + 1) = e := by rw [← hE.out]; exact endF_end s e (by omega)
                have hli : ¬ (e : Int) < (s.size : Int) := by omega
                clear hE
                rw [hend] at hRX
                clear hend
                have hK3 := Lib.hid (((hK.out.set_ 0 (.int .i64 2)).set_ 4 (.string (s.extract k e))).drew)
                have hw0l := hT0.out.2.2
                have hwn : w.heap.size ≠ w0.heap.size := by omega
                have hO3 := Lib.hid ((((hw0.out.1.below hB.out hw0.out.1.lt).far (p := ⟨w0.heap.size, 0, none⟩) hwn (.int .i64 2)).far (p := ⟨w0.heap.size, 4, none⟩) hwn (.string (s.extract k e))).drew)
                have hB3 := Lib.hid ((((hw0.out.2.trans (hB.out.mono hw0.out.2.size)).setCell (p := ⟨w0.heap.size, 0, none⟩) (by show w.heap.size ≤ w0.heap.size; omega) (.int .i64 2)).setCell (p := ⟨w0.heap.size, 4, none⟩) (by show w.heap.size ≤ w0.heap.size; omega) (.string (s.extract k e))).drew)
                go_wp2_with fail
                go_region
                go_wp2_with (first
                  | (refine wpList_ldl rfl (o := ⟨some 86, _, _, _, _, _⟩) rfl rfl (Tok.l ⟨2, k, e, 0, bytes (s.extract k e)⟩) isTok (fun j u hu => by have := Blk.cell hK3.out j; rw [addr_plain, this]; simpa [Tok.l, sv] using hu) ?_)
                  | (refine wpList_stE (E := eTk) rfl rfl infoTk rfl ⟨2, k, e, 0, bytes (s.extract k e)⟩ hO3.out rfl rfl ?_; intro w8 HR8 ho8 hB8)
                  | fail)
                exact ret_ct (p := 4) (u := 5) rfl rfl rfl HR8.out (by kernel_rfl) rfl ⟨hB8 _ _ hB3.out (Nat.le_refl _), by rw [hRX.out]; rfl⟩
          | false =>
            rw [hlb] at HL
            by_cases c45 : (s[k].toNat : Int) = 45
            · have m45 : s[k] = 45 := u8_of s[k] 45 (by decide) c45
              have hRX : Hid (R = if (parseL (bytes (s.extract k (endF isDig (bytes s) (k + 1))))).2 = 0 then .inl ⟨3, k, (endF isDig (bytes s) (k + 1) : Nat), (parseL (bytes (s.extract k (endF isDig (bytes s) (k + 1))))).1, []⟩ else .inr (k, (parseL (bytes (s.extract k (endF isDig (bytes s) (k + 1))))).2)) := Lib.hid (by rw [hRc.out, tok_num m34 hlb (.inl m45), endF_ext s k hlt]; rfl)
              clear hRc HD HG hlb m34 m45
              have n45 : ((s[k].toNat : Int) == 45) = true := by rw [c45]; rfl
              clear c45
              go_wp2_with fail
              refine (HL.out _).mono ?_
              rintro e w1 ⟨rfl, rfl⟩
              go_wp2_with fail
              go_loopw [88] (fun _ wr => ∃ e : Nat, k + 1 ≤ e ∧ e ≤ s.size ∧ Hid (endF isDig (bytes s) e = endF isDig (bytes s) (k + 1)) ∧ Hid (Blk wr w0.heap.size 93 #[.int .i64 0, .int .i64 (k : Int), .int .i64 (e : Int), .int .i64 0, .string ⟨#[]⟩]) ∧ Hid (Below w0.heap.size w0 wr)) (fun _ wr => match wr.cell? ⟨w0.heap.size, 2, none⟩ with | some (.int _ m) => (s.size - m).toNat | _ => 0)
              case atStart => exact ⟨k + 1, Nat.le_refl _, by omega, rfl, Blk.new _ _ _, (Below.refl _ _).alloc (Nat.le_refl _) _⟩
              case round =>
                obtain ⟨e, he1, he2, hE, hK, hB⟩ := hrel
                have c0 := hK.out.cell 0
                have c1 := hK.out.cell 1
                have c2 := hK.out.cell 2
                have c3 := hK.out.cell 3
                have c4 := hK.out.cell 4
                have f0 := hK.out.frozen 0
                have f2 := hK.out.frozen 2
                have f3 := hK.out.frozen 3
                have f4 := hK.out.frozen 4
                simp only [List.getElem?_toArray, List.getElem?_cons_succ, List.getElem?_cons_zero] at c0 c1 c2 c3 c4
                have hei : (e : Int) ≤ 8388608 := by omega
                have hek : ((e : Int)).toNat = e := by omega
                have hek1 : (k : Int) ≤ (e : Int) := by omega
                have hek2 : k ≤ e := by omega
                by_cases hle : e < s.size
                · have hli : (e : Int) < (s.size : Int) := by omega
                  have hge : s[e] = s[e] := rfl
                  have HL2 := Lib.hid (fun W => digit_any s[e] W)
                  cases hb2 : isDig s[e] with
                  | true =>
                    have hst := Lib.hid ((endF_step s e hle hb2).symm.trans hE.out)
                    rw [hb2] at HL2
                    have hK2 : Hid (Blk (wr.setCell ⟨w0.heap.size, 2, none⟩ (.int .i64 ((e : Int) + 1))) w0.heap.size 93 #[.int .i64 0, .int .i64 (k : Int), .int .i64 ((e : Int) + 1), .int .i64 0, .string ⟨#[]⟩]) := Lib.hid (by simpa using hK.out.set_ 2 (.int .i64 ((e : Int) + 1)))
                    clear hb2 hge hE c0 c1 c3 c4
                    go_wp2_with fail
                    refine (HL2.out _).mono ?_
                    rintro e1 w1 ⟨rfl, rfl⟩
                    go_wp2
                    go_roundw
                    case rel => exact ⟨e + 1, by omega, by omega, hst, hK2, hB.out.setCell (Nat.le_refl _) _⟩
                    case measure =>
                      have c2' := hK2.out.cell 2
                      simp only [List.getElem?_toArray, List.getElem?_cons_succ, List.getElem?_cons_zero] at c2'
                      rw [c2', c2]
                      simp only
                      omega
                  | false =>
                    have hend : endF isDig (bytes s) (k + 1) = e := by rw [← hE.out]; exact endF_stop s e hle hb2
                    rw [hb2] at HL2
                    clear hb2 hge hE
                    go_wp2_with fail
                    refine (HL2.out _).mono ?_
                    rintro e1 w1 ⟨rfl, rfl⟩
                    rw [hend] at hRX
                    clear hend
                    have hex : (s.extract k e).size ≤ 9223372036854775807 := by
                      rw [← bytes_len]
                      show (s.extract k e).data.toList.length ≤ _
                      rw [Lib.extract_data, List.length_take]
                      omega
                    have HP := Lib.hid (fun W => parse_any (s.extract k e) W hex)
                    clear hex
                    generalize parseL (bytes (s.extract k e)) = pr at *
                    obtain ⟨n, ec⟩ := pr
                    simp only at HP hRX
                    have hw0l := hT0.out.2.2
                    have hwn : w.heap.size ≠ w0.heap.size := by omega
                    have hO2 := Lib.hid (hw0.out.1.below hB.out hw0.out.1.lt)
                    have hB2 := Lib.hid (hw0.out.2.trans (hB.out.mono hw0.out.2.size))
                    by_cases hz : ec = 0
                    · subst hz
                      rw [if_pos rfl] at hRX
                      have hK3 := Lib.hid ((hK.out.set_ 0 (.int .i64 3)).set_ 3 (.int .i64 n))
                      have hO3 := Lib.hid ((hO2.out.far (p := ⟨w0.heap.size, 0, none⟩) hwn (.int .i64 3)).far (p := ⟨w0.heap.size, 3, none⟩) hwn (.int .i64 n))
                      have hB3 := Lib.hid ((hB2.out.setCell (p := ⟨w0.heap.size, 0, none⟩) (by show w.heap.size ≤ w0.heap.size; omega) (.int .i64 3)).setCell (p := ⟨w0.heap.size, 3, none⟩) (by show w.heap.size ≤ w0.heap.size; omega) (.int .i64 n))
                      go_wp2_with fail
                      refine (HP.out _).mono ?_
                      rintro e1 w2 ⟨rfl, rfl⟩
                      go_wp2_with (first
                        | (refine wpList_ldl rfl (o := ⟨some 121, _, _, _, _, _⟩) rfl rfl (Tok.l ⟨3, k, e, n, []⟩) isTok (fun j u hu => by have := Blk.cell hK3.out j; rw [addr_plain, this]; simpa [Tok.l, sv] using hu) ?_)
                        | (refine wpList_stE (E := eTk) (o := ⟨none, .store 93 (.tmp 4) _, _, _, _, _⟩) rfl rfl infoTk rfl ⟨3, k, e, n, []⟩ hO3.out rfl rfl ?_; intro w8 HR8 ho8 hB8)
                        | fail)
                      exact ret_ct (p := 4) (u := 5) rfl rfl rfl HR8.out (by kernel_rfl) rfl ⟨hB8 _ _ hB3.out (Nat.le_refl _), by rw [hRX.out]; rfl⟩
                    · rw [if_neg hz] at hRX
                      have hne : (ec == 0) = false := by simpa using hz
                      go_wp2_with fail
                      refine (HP.out _).mono ?_
                      rintro e1 w2 ⟨rfl, rfl⟩
                      go_wp2_with fail
                      refine (new_err ec _ _ hz).mono ?_
                      rintro e1 w9 ⟨v, rfl, hv, hb⟩
                      have HV := Lib.hid hv
                      have HB9 := Lib.hid (hB2.out.trans (hb.mono hB2.out.size))
                      have HO9 := Lib.hid (hO2.out.below hb hO2.out.lt)
                      clear hv hb
                      go_wp2_with (refine wpList_stE (E := eTk) rfl rfl infoTk rfl Tok.z HO9.out rfl rfl ?_; intro w8 HR8 ho8 hB8)
                      refine ret_ct (p := 4) (u := 5) rfl rfl rfl HR8.out (by kernel_rfl) rfl ?_
                      rw [hRX.out]
                      exact NextRes.in_ (R := .inr (k, ec)) (tk := Tok.z) ⟨rfl, HV.out⟩ ho8 HO9.out (hB8 _ _ HB9.out (Nat.le_refl _))
                · have hend : endF isDig (bytes s) (k + 1) = e := by rw [← hE.out]; exact endF_end s e (by omega)
                  have hli : ¬ (e : Int) < (s.size : Int) := by omega
                  clear hE
                  rw [hend] at hRX
                  clear hend
                  have hex : (s.extract k e).size ≤ 9223372036854775807 := by
                    rw [← bytes_len]
                    show (s.extract k e).data.toList.length ≤ _
                    rw [Lib.extract_data, List.length_take]
                    omega
                  have HP := Lib.hid (fun W => parse_any (s.extract k e) W hex)
                  clear hex
                  generalize parseL (bytes (s.extract k e)) = pr at *
                  obtain ⟨n, ec⟩ := pr
                  simp only at HP hRX
                  have hw0l := hT0.out.2.2
                  have hwn : w.heap.size ≠ w0.heap.size := by omega
                  have hO2 := Lib.hid (hw0.out.1.below hB.out hw0.out.1.lt)
                  have hB2 := Lib.hid (hw0.out.2.trans (hB.out.mono hw0.out.2.size))
                  by_cases hz : ec = 0
                  · subst hz
                    rw [if_pos rfl] at hRX
                    have hK3 := Lib.hid ((hK.out.set_ 0 (.int .i64 3)).set_ 3 (.int .i64 n))
                    have hO3 := Lib.hid ((hO2.out.far (p := ⟨w0.heap.size, 0, none⟩) hwn (.int .i64 3)).far (p := ⟨w0.heap.size, 3, none⟩) hwn (.int .i64 n))
                    have hB3 := Lib.hid ((hB2.out.setCell (p := ⟨w0.heap.size, 0, none⟩) (by show w.heap.size ≤ w0.heap.size; omega) (.int .i64 3)).setCell (p := ⟨w0.heap.size, 3, none⟩) (by show w.heap.size ≤ w0.heap.size; omega) (.int .i64 n))
                    go_wp2_with fail
                    refine (HP.out _).mono ?_
                    rintro e1 w2 ⟨rfl, rfl⟩
                    go_wp2_with (first
                      | (refine wpList_ldl rfl (o := ⟨some 121, _, _, _, _, _⟩) rfl rfl (Tok.l ⟨3, k, e, n, []⟩) isTok (fun j u hu => by have := Blk.cell hK3.out j; rw [addr_plain, this]; simpa [Tok.l, sv] using hu) ?_)
                      | (refine wpList_stE (E := eTk) (o := ⟨none, .store 93 (.tmp 4) _, _, _, _, _⟩) rfl rfl infoTk rfl ⟨3, k, e, n, []⟩ hO3.out rfl rfl ?_; intro w8 HR8 ho8 hB8)
                      | fail)
                    exact ret_ct (p := 4) (u := 5) rfl rfl rfl HR8.out (by kernel_rfl) rfl ⟨hB8 _ _ hB3.out (Nat.le_refl _), by rw [hRX.out]; rfl⟩
                  · rw [if_neg hz] at hRX
                    have hne : (ec == 0) = false := by simpa using hz
                    go_wp2_with fail
                    refine (HP.out _).mono ?_
                    rintro e1 w2 ⟨rfl, rfl⟩
                    go_wp2_with fail
                    refine (new_err ec _ _ hz).mono ?_
                    rintro e1 w9 ⟨v, rfl, hv, hb⟩
                    have HV := Lib.hid hv
                    have HB9 := Lib.hid (hB2.out.trans (hb.mono hB2.out.size))
                    have HO9 := Lib.hid (hO2.out.below hb hO2.out.lt)
                    clear hv hb
                    go_wp2_with (refine wpList_stE (E := eTk) rfl rfl infoTk rfl Tok.z HO9.out rfl rfl ?_; intro w8 HR8 ho8 hB8)
                    refine ret_ct (p := 4) (u := 5) rfl rfl rfl HR8.out (by kernel_rfl) rfl ?_
                    rw [hRX.out]
                    exact NextRes.in_ (R := .inr (k, ec)) (tk := Tok.z) ⟨rfl, HV.out⟩ ho8 HO9.out (hB8 _ _ HB9.out (Nat.le_refl _))
            · have m45 : s[k] ≠ 45 := fun e => c45 (by rw [e]; rfl)
              have n45 : ((s[k].toNat : Int) == 45) = false := by simpa using c45
              cases hdg : isDig s[k] with
              | true =>
                rw [hdg] at HG
                have hRX : Hid (R = if (parseL (bytes (s.extract k (endF isDig (bytes s) (k + 1))))).2 = 0 then .inl ⟨3, k, (endF isDig (bytes s) (k + 1) : Nat), (parseL (bytes (s.extract k (endF isDig (bytes s) (k + 1))))).1, []⟩ else .inr (k, (parseL (bytes (s.extract k (endF isDig (bytes s) (k + 1))))).2)) := Lib.hid (by rw [hRc.out, tok_num m34 hlb (.inr hdg), endF_ext s k hlt]; rfl)
                clear hRc HD hlb hdg m34 m45
                go_wp2_with fail
                refine (HL.out _).mono ?_
                rintro e w1 ⟨rfl, rfl⟩
                go_wp2_with fail
                refine (HG.out _).mono ?_
                rintro e w1 ⟨rfl, rfl⟩
                go_wp2_with fail
                go_loopw [88] (fun _ wr => ∃ e : Nat, k + 1 ≤ e ∧ e ≤ s.size ∧ Hid (endF isDig (bytes s) e = endF isDig (bytes s) (k + 1)) ∧ Hid (Blk wr w0.heap.size 93 #[.int .i64 0, .int .i64 (k : Int), .int .i64 (e : Int), .int .i64 0, .string ⟨#[]⟩]) ∧ Hid (Below w0.heap.size w0 wr)) (fun _ wr => match wr.cell? ⟨w0.heap.size, 2, none⟩ with | some (.int _ m) => (s.size - m).toNat | _ => 0)
                case atStart => exact ⟨k + 1, Nat.le_refl _, by omega, rfl, Blk.new _ _ _, (Below.refl _ _).alloc (Nat.le_refl _) _⟩
                case round =>
                  obtain ⟨e, he1, he2, hE, hK, hB⟩ := hrel
                  have c0 := hK.out.cell 0
                  have c1 := hK.out.cell 1
                  have c2 := hK.out.cell 2
                  have c3 := hK.out.cell 3
                  have c4 := hK.out.cell 4
                  have f0 := hK.out.frozen 0
                  have f2 := hK.out.frozen 2
                  have f3 := hK.out.frozen 3
                  have f4 := hK.out.frozen 4
                  simp only [List.getElem?_toArray, List.getElem?_cons_succ, List.getElem?_cons_zero] at c0 c1 c2 c3 c4
                  have hei : (e : Int) ≤ 8388608 := by omega
                  have hek : ((e : Int)).toNat = e := by omega
                  have hek1 : (k : Int) ≤ (e : Int) := by omega
                  have hek2 : k ≤ e := by omega
                  by_cases hle : e < s.size
                  · have hli : (e : Int) < (s.size : Int) := by omega
                    have hge : s[e] = s[e] := rfl
                    have HL2 := Lib.hid (fun W => digit_any s[e] W)
                    cases hb2 : isDig s[e] with
                    | true =>
                      have hst := Lib.hid ((endF_step s e hle hb2).symm.trans hE.out)
                      rw [hb2] at HL2
                      have hK2 : Hid (Blk (wr.setCell ⟨w0.heap.size, 2, none⟩ (.int .i64 ((e : Int) + 1))) w0.heap.size 93 #[.int .i64 0, .int .i64 (k : Int), .int .i64 ((e : Int) + 1), .int .i64 0, .string ⟨#[]⟩]) := Lib.hid (by simpa using hK.out.set_ 2 (.int .i64 ((e : Int) + 1)))
                      clear hb2 hge hE c0 c1 c3 c4
                      go_wp2_with fail
                      refine (HL2.out _).mono ?_
                      rintro e1 w1 ⟨rfl, rfl⟩
                      go_wp2
                      go_roundw
                      case rel => exact ⟨e + 1, by omega, by omega, hst, hK2, hB.out.setCell (Nat.le_refl _) _⟩
                      case measure =>
                        have c2' := hK2.out.cell 2
                        simp only [List.getElem?_toArray, List.getElem?_cons_succ, List.getElem?_cons_zero] at c2'
                        rw [c2', c2]
                        simp only
                        omega
                    | false =>
                      have hend : endF isDig (bytes s) (k + 1) = e := by rw [← hE.out]; exact endF_stop s e hle hb2
                      rw [hb2] at HL2
                      clear hb2 hge hE
                      go_wp2_with fail
                      refine (HL2.out _).mono ?_
                      rintro e1 w1 ⟨rfl, rfl⟩
                      rw [hend] at hRX
                      clear hend
                      have hex : (s.extract k e).size ≤ 9223372036854775807 := by
                        rw [← bytes_len]
                        show (s.extract k e).data.toList.length ≤ _
                        rw [Lib.extract_data, List.length_take]
                        omega
                      have HP := Lib.hid (fun W => parse_any (s.extract k e) W hex)
                      clear hex
                      generalize parseL (bytes (s.extract k e)) = pr at *
                      obtain ⟨n, ec⟩ := pr
                      simp only at HP hRX
                      have hw0l := hT0.out.2.2
                      have hwn : w.heap.size ≠ w0.heap.size := by omega
                      have hO2 := Lib.hid (hw0.out.1.below hB.out hw0.out.1.lt)
                      have hB2 := Lib.hid (hw0.out.2.trans (hB.out.mono hw0.out.2.size))
                      by_cases hz : ec = 0
                      · subst hz
                        rw [if_pos rfl] at hRX
                        have hK3 := Lib.hid ((hK.out.set_ 0 (.int .i64 3)).set_ 3 (.int .i64 n))
                        have hO3 := Lib.hid ((hO2.out.far (p := ⟨w0.heap.size, 0, none⟩) hwn (.int .i64 3)).far (p := ⟨w0.heap.size, 3, none⟩) hwn (.int .i64 n))
                        have hB3 := Lib.hid ((hB2.out.setCell (p := ⟨w0.heap.size, 0, none⟩) (by show w.heap.size ≤ w0.heap.size; omega) (.int .i64 3)).setCell (p := ⟨w0.heap.size, 3, none⟩) (by show w.heap.size ≤ w0.heap.size; omega) (.int .i64 n))
                        go_wp2_with fail
                        refine (HP.out _).mono ?_
                        rintro e1 w2 ⟨rfl, rfl⟩
                        go_wp2_with (first
                          | (refine wpList_ldl rfl (o := ⟨some 121, _, _, _, _, _⟩) rfl rfl (Tok.l ⟨3, k, e, n, []⟩) isTok (fun j u hu => by have := Blk.cell hK3.out j; rw [addr_plain, this]; simpa [Tok.l, sv] using hu) ?_)
                          | (refine wpList_stE (E := eTk) (o := ⟨none, .store 93 (.tmp 4) _, _, _, _, _⟩) rfl rfl infoTk rfl ⟨3, k, e, n, []⟩ hO3.out rfl rfl ?_; intro w8 HR8 ho8 hB8)
                          | fail)
                        exact ret_ct (p := 4) (u := 5) rfl rfl rfl HR8.out (by kernel_rfl) rfl ⟨hB8 _ _ hB3.out (Nat.le_refl _), by rw [hRX.out]; rfl⟩
                      · rw [if_neg hz] at hRX
                        have hne : (ec == 0) = false := by simpa using hz
                        go_wp2_with fail
                        refine (HP.out _).mono ?_
                        rintro e1 w2 ⟨rfl, rfl⟩
                        go_wp2_with fail
                        refine (new_err ec _ _ hz).mono ?_
                        rintro e1 w9 ⟨v, rfl, hv, hb⟩
                        have HV := Lib.hid hv
                        have HB9 := Lib.hid (hB2.out.trans (hb.mono hB2.out.size))
                        have HO9 := Lib.hid (hO2.out.below hb hO2.out.lt)
                        clear hv hb
                        go_wp2_with (refine wpList_stE (E := eTk) rfl rfl infoTk rfl Tok.z HO9.out rfl rfl ?_; intro w8 HR8 ho8 hB8)
                        refine ret_ct (p := 4) (u := 5) rfl rfl rfl HR8.out (by kernel_rfl) rfl ?_
                        rw [hRX.out]
                        exact NextRes.in_ (R := .inr (k, ec)) (tk := Tok.z) ⟨rfl, HV.out⟩ ho8 HO9.out (hB8 _ _ HB9.out (Nat.le_refl _))
                  · have hend : endF isDig (bytes s) (k + 1) = e := by rw [← hE.out]; exact endF_end s e (by omega)
                    have hli : ¬ (e : Int) < (s.size : Int) := by omega
                    clear hE
                    rw [hend] at hRX
                    clear hend
                    have hex : (s.extract k e).size ≤ 9223372036854775807 := by
                      rw [← bytes_len]
                      show (s.extract k e).data.toList.length ≤ _
                      rw [Lib.extract_data, List.length_take]
                      omega
                    have HP := Lib.hid (fun W => parse_any (s.extract k e) W hex)
                    clear hex
                    generalize parseL (bytes (s.extract k e)) = pr at *
                    obtain ⟨n, ec⟩ := pr
                    simp only at HP hRX
                    have hw0l := hT0.out.2.2
                    have hwn : w.heap.size ≠ w0.heap.size := by omega
                    have hO2 := Lib.hid (hw0.out.1.below hB.out hw0.out.1.lt)
                    have hB2 := Lib.hid (hw0.out.2.trans (hB.out.mono hw0.out.2.size))
                    by_cases hz : ec = 0
                    · subst hz
                      rw [if_pos rfl] at hRX
                      have hK3 := Lib.hid ((hK.out.set_ 0 (.int .i64 3)).set_ 3 (.int .i64 n))
                      have hO3 := Lib.hid ((hO2.out.far (p := ⟨w0.heap.size, 0, none⟩) hwn (.int .i64 3)).far (p := ⟨w0.heap.size, 3, none⟩) hwn (.int .i64 n))
                      have hB3 := Lib.hid ((hB2.out.setCell (p := ⟨w0.heap.size, 0, none⟩) (by show w.heap.size ≤ w0.heap.size; omega) (.int .i64 3)).setCell (p := ⟨w0.heap.size, 3, none⟩) (by show w.heap.size ≤ w0.heap.size; omega) (.int .i64 n))
                      go_wp2_with fail
                      refine (HP.out _).mono ?_
                      rintro e1 w2 ⟨rfl, rfl⟩
                      go_wp2_with (first
                        | (refine wpList_ldl rfl (o := ⟨some 121, _, _, _, _, _⟩) rfl rfl (Tok.l ⟨3, k, e, n, []⟩) isTok (fun j u hu => by have := Blk.cell hK3.out j; rw [addr_plain, this]; simpa [Tok.l, sv] using hu) ?_)
                        | (refine wpList_stE (E := eTk) (o := ⟨none, .store 93 (.tmp 4) _, _, _, _, _⟩) rfl rfl infoTk rfl ⟨3, k, e, n, []⟩ hO3.out rfl rfl ?_; intro w8 HR8 ho8 hB8)
                        | fail)
                      exact ret_ct (p := 4) (u := 5) rfl rfl rfl HR8.out (by kernel_rfl) rfl ⟨hB8 _ _ hB3.out (Nat.le_refl _), by rw [hRX.out]; rfl⟩
                    · rw [if_neg hz] at hRX
                      have hne : (ec == 0) = false := by simpa using hz
                      go_wp2_with fail
                      refine (HP.out _).mono ?_
                      rintro e1 w2 ⟨rfl, rfl⟩
                      go_wp2_with fail
                      refine (new_err ec _ _ hz).mono ?_
                      rintro e1 w9 ⟨v, rfl, hv, hb⟩
                      have HV := Lib.hid hv
                      have HB9 := Lib.hid (hB2.out.trans (hb.mono hB2.out.size))
                      have HO9 := Lib.hid (hO2.out.below hb hO2.out.lt)
                      clear hv hb
                      go_wp2_with (refine wpList_stE (E := eTk) rfl rfl infoTk rfl Tok.z HO9.out rfl rfl ?_; intro w8 HR8 ho8 hB8)
                      refine ret_ct (p := 4) (u := 5) rfl rfl rfl HR8.out (by kernel_rfl) rfl ?_
                      rw [hRX.out]
                      exact NextRes.in_ (R := .inr (k, ec)) (tk := Tok.z) ⟨rfl, HV.out⟩ ho8 HO9.out (hB8 _ _ HB9.out (Nat.le_refl _))
              | false =>
                rw [hdg] at HG
                have hX := Lib.hid (fun W h1 h2 => sign_any s k W (by omega) (by omega) h1 h2)
                have hRX : R = signTok ((bytes s).drop k) k := by rw [hRc.out, tok_sign m34 hlb m45 hdg, HD.out]
                rw [← hRX] at hX
                clear m34 m45 hRc HD hRX hlb hdg
                go_wp2_with fail
                refine (HL.out _).mono ?_
                rintro e w1 ⟨rfl, rfl⟩
                go_wp2_with fail
                refine (HG.out _).mono ?_
                rintro e w1 ⟨rfl, rfl⟩
                go_wp2_with fail
                refine (hX.out _ (hT0.out.1.below ((Below.refl _ _).alloc (Nat.le_refl _) _) hT0.out.2.1) (Nat.lt_of_lt_of_le hT0.out.2.1 (by simp))).mono ?_
                rintro e w1 hno
                obtain ⟨tk, ev, rfl, hb, hres⟩ := hno.out
                have hal : Below w0.heap.size w0 (w0.alloc (.cells #[.int .i64 0, .int .i64 (k : Int), .int .i64 ((k : Int) + 1), .int .i64 0, .string ⟨#[]⟩] 93)) := (Below.refl _ _).alloc (Nat.le_refl _) _
                have hb1 := hal.trans (hb.mono hal.size)
                have HO := Lib.hid (hw0.out.1.below hb1 hw0.out.1.lt)
                have HBB := Lib.hid (hw0.out.2.trans (hb1.mono hw0.out.2.size))
                have HRES := Lib.hid hres
                clear hno hres hb hal hb1 hX
                go_wp2_with (refine wpList_stE (E := eTk) rfl rfl infoTk rfl tk HO.out rfl rfl ?_; intro w8 HR8 ho8 hB8)
                exact ret_ct (p := 4) (u := 5) rfl rfl rfl HR8.out (by kernel_rfl) rfl (HRES.out.in_ ho8 HO.out (hB8 _ _ HBB.out (Nat.le_refl _)))
    · have hke : k = s.size := by omega
      have hqk : s.size = q := by rw [← hE.out, endF_end s k (by omega), hke]
      have hRX : Hid (R = .inl ⟨0, (s.size : Nat), (s.size : Nat), 0, []⟩) := Lib.hid (by rw [HR.out, ← hqk, List.drop_of_length_le (by rw [bytes_len]; exact Nat.le_refl _)]; rfl)
      subst hke
      clear hqk hE HR HQ
      have hki : ¬ ((s.size : Int) < (s.size : Int)) := by omega
      have hk3 : (s.size : Int) ≤ 8388608 := by omega
      have hw0 : Hid (Blk (w.alloc (.cells (Tok.l Tok.z).toArray 93)) w.heap.size 93 (Tok.l Tok.z).toArray ∧ Below w.heap.size w (w.alloc (.cells (Tok.l Tok.z).toArray 93))) := Lib.hid ⟨Blk.new _ _ _, (Below.refl _ _).alloc (Nat.le_refl _) _⟩
      have hsz0 : (w.alloc (.cells (Tok.l Tok.z).toArray 93)).heap.size = w.heap.size + 1 := by simp
      generalize w.alloc (.cells (Tok.l Tok.z).toArray 93) = w0 at *
      have hwl : w.heap.size < w0.heap.size := by omega
      have hO3 := Lib.hid (hw0.out.1.alloc (.cells (Tok.l ⟨0, s.size, s.size, 0, []⟩).toArray 93))
      have hB3 := Lib.hid (hw0.out.2.alloc hw0.out.2.size (.cells (Tok.l ⟨0, s.size, s.size, 0, []⟩).toArray 93))
      go_wp2_with (first
        | (refine wpList_stE (E := eTk) (o := ⟨none, .store 93 (.tmp 4) _, _, _, _, _⟩) rfl rfl infoTk rfl ⟨0, s.size, s.size, 0, []⟩ hO3.out rfl rfl ?_; intro w8 HR8 ho8 hB8)
        | fail)
      exact ret_ct (p := 4) (u := 5) rfl rfl rfl HR8.out (by kernel_rfl) rfl ⟨hB8 _ _ hB3.out (Nat.le_refl _), by rw [hRX.out]; rfl⟩
end Go.Proofs.YtfcegalckjeafaaGreatDoor
