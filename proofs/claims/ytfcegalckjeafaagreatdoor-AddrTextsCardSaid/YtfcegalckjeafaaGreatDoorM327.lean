/-
  Parts of the proof that AddrBegins,AddrTexts calls on: Ua, Ub.
-/
import Derived.Deep.CutRange
import Derived.Deep.RegionHeld3
import Derived.Test.YtfcegalckjeafaaGreatDoorM317
import Derived.Test.YtfcegalckjeafaaGreatDoorM319
import Derived.Test.YtfcegalckjeafaaGreatDoorM326
namespace Go.Proofs.YtfcegalckjeafaaGreatDoor
open Go.RowKit Go.BigFrame
theorem bytes_cut (s : ByteArray) (p k : Nat) : bytes (s.extract p (p + k)) = ((bytes s).drop p).take k := by
  show (s.extract p (p + k)).data.toList = _
  rw [Lib.extract_data, show s.data.toList = bytes s from rfl]
  congr 1
  omega
def RRes (R : Tok ⊕ (Nat × Int)) (t : Tok) (n1 n2 : Int) : Prop := match R with | .inl u => t = u ∧ n1 = 0 ∧ n2 = 0 | .inr r => t = Tok.z ∧ n1 = r.1 ∧ n2 = r.2
theorem wlen_zero {c : UInt8} {l : List UInt8} (h : wlen (c :: l) = 0) : letB c false = false := by
  rw [wlen] at h
  cases hl : letB c false with
  | true => rw [hl, if_pos rfl] at h; omega
  | false => rfl
theorem wlen_pos {c : UInt8} {l : List UInt8} (h : wlen (c :: l) ≠ 0) : letB c false = true ∧ wlen (c :: l) = 1 + (l.takeWhile (letB · true)).length := by
  rw [wlen] at h ⊢
  cases hl : letB c false with
  | true => exact ⟨rfl, if_pos rfl⟩
  | false => rw [hl, if_neg (by decide)] at h; exact absurd rfl h
theorem word_res {R : Tok ⊕ (Nat × Int)} {s : ByteArray} {k e : Nat} {c : UInt8} {l : List UInt8} (hd : (bytes s).drop k = c :: l) (hw : wlen (c :: l) ≠ 0) (he : e = k + wlen (c :: l)) (hR : R = tokL (c :: l) k) (h34 : c ≠ 34) : RRes R ⟨2, k, e, 0, bytes (s.extract k e)⟩ 0 0 := by
  obtain ⟨h1, h2⟩ := wlen_pos hw
  have h3 : bytes (s.extract k e) = c :: l.takeWhile (letB · true) := by
    rw [he, bytes_cut, hd, h2, Nat.add_comm 1, List.take_succ_cons]
    congr 1
    exact (List.prefix_iff_eq_take.1 (List.takeWhile_prefix _)).symm
  rw [hR, tok_word h34 h1, h3, he, h2]
  refine ⟨?_, rfl, rfl⟩
  rw [Nat.add_assoc k 1]
theorem next_def (l : List UInt8) (p : Nat) : nextL l p = tokL (l.drop (endF blank l p)) (endF blank l p) := rfl
theorem RNext.out {R : Tok ⊕ (Nat × Int)} {w w' : World} {e : Ending} (h : RNext R w e w') : ∃ t n1 n2, e = .returned (.tuple #[Tok.v t, .int .i64 n1, .int .i64 n2]) ∧ Below w.heap.size w w' ∧ RRes R t n1 n2 := by
  obtain ⟨h1, h2⟩ := h
  cases R with
  | inl t => exact ⟨t, 0, 0, h2, h1, rfl, rfl, rfl⟩
  | inr r => exact ⟨Tok.z, _, _, h2, h1, rfl, rfl, rfl⟩
theorem RRes.in_ {R : Tok ⊕ (Nat × Int)} {t : Tok} {n1 n2 : Int} {w w' : World} (h : RRes R t n1 n2) (hb : Below w.heap.size w w') : RNext R w (.returned (.tuple #[Tok.v t, .int .i64 n1, .int .i64 n2])) w' := by
  refine ⟨hb, ?_⟩
  cases R with
  | inl u => obtain ⟨rfl, rfl, rfl⟩ := h; rfl
  | inr r => obtain ⟨rfl, rfl, rfl⟩ := h; rfl
set_option maxRecDepth 100000 in
set_option maxHeartbeats 16000000 in
theorem rnext_any (s : ByteArray) (p : Nat) (w : World) (hp : p ≤ s.size) (hs : s.size ≤ 8388608) :
    Calls Tryz.prog 103 #[.string s, .int .i64 p] w (RNext (nextL (bytes s) p) w) := by
  obtain ⟨R, hR⟩ : ∃ R, R = nextL (bytes s) p := ⟨_, rfl⟩
  rw [← hR]
  rw [next_def] at hR
  obtain ⟨E, hE⟩ : ∃ E, E = endF blank (bytes s) p := ⟨_, rfl⟩
  rw [← hE] at hR
  have hle := endF_le (f := blank) s p hp
  rw [← hE] at hle
  have HE := Lib.hid hE
  have HR := Lib.hid hR
  have hp0 : decide ((p : Int) < 0) = false := decide_eq_false (by omega)
  have hpi : decide ((s.size : Int) < (p : Int)) = false := decide_eq_false (by omega)
  have hpj : ¬ (p : Int) < 0 := by omega
  have hpk : ¬ (s.size : Int) < (p : Int) := by omega
  clear hE hR
  go_enter Tryz.func103, Tryz.ntmps103
  go_wp2_with fail
  go_loopw [1] (fun i wr => ∃ k : Nat, p ≤ k ∧ k ≤ s.size ∧ i = .int .i64 k ∧ Hid (endF blank (bytes s) k = E) ∧ Hid (Below w.heap.size w wr ∧ Blk wr w.heap.size 93 (Tok.l Tok.z).toArray)) (fun i _ => (s.size - intOf i).toNat)
  case atStart => exact ⟨p, Nat.le_refl _, hp, rfl, HE.out.symm, (Below.refl _ _).alloc (Nat.le_refl _) _, Blk.new _ _ _⟩
  case round =>
    obtain ⟨k, hk1, hk, rfl, hG, hB⟩ := hrel
    clear hp0 hpi hpj hpk
    have HBW := Lib.hid hB.out.1
    have HBO := Lib.hid hB.out.2
    have hk0 : (0 : Int) ≤ (k : Int) := by omega
    by_cases hlt : k < s.size
    · have hki : (k : Int) < (s.size : Int) := by omega
      have HD := Lib.hid (fun W => rblank_any s[k] W)
      have HST := Lib.hid (fun h => endF_step (f := blank) s k hlt h)
      have HSP := Lib.hid (fun h => endF_stop (f := blank) s k hlt h)
      have HDR := Lib.hid (bytes_drop s k hlt)
      simp only [bv] at HD
      have HNUM := Lib.hid (fun W => rnumber_any s k W hlt hs)
      have HTX := Lib.hid (fun p => tok_text (c := s[k]) (l := (bytes s).drop (k + 1)) (p := p))
      have HTN := Lib.hid (fun p => tok_num (c := s[k]) (l := (bytes s).drop (k + 1)) (p := p))
      have HTS := Lib.hid (fun p => tok_sign (c := s[k]) (l := (bytes s).drop (k + 1)) (p := p))
      have HTW := Lib.hid (fun p => tok_word (c := s[k]) (l := (bytes s).drop (k + 1)) (p := p))
      have HDG := Lib.hid (fun W => rdigit_any s[k] W)
      simp only [bv] at HDG
      have HLI := Lib.hid (letB_int s[k] false)
      have HDI := Lib.hid (isDig_int s[k])
      have HU8 := Lib.hid (fun (n : Nat) (hn : n < 256) (h : (s[k].toNat : Int) = (n : Int)) => u8_of s[k] n hn h)
      generalize hc : s[k] = c at *
      go_wp2_with fail
      refine (HD.out _).mono ?_
      rintro e w5 ⟨rfl, rfl⟩
      cases hd : blank c with
      | true =>
        have hnx : Hid (endF blank (bytes s) (k + 1) = E) := Lib.hid (by rw [← HST.out hd, hG.out])
        clear hc
        go_wp2_with fail
        exact ⟨⟨k + 1, by omega, by omega, by go_num, hnx, hB⟩, by simp [intOf]; omega⟩
      | false =>
        have hkE : k = E := by rw [← hG.out, HSP.out hd]
        clear hG HST HSP HD HE hd hB
        subst hkE
        have hne : ((k : Int) == (s.size : Int)) = false := by simp; omega
        have HR2 : Hid (R = tokL (c :: (bytes s).drop (k + 1)) k) := Lib.hid (by rw [HR.out, HDR.out])
        clear HR
        by_cases h34 : (c.toNat : Int) = 34
        · have b34 : ((c.toNat : Int) == 34) = true := by simpa using h34
          have hc34 := HU8.out 34 (by decide) h34
          have HR3 : Hid (R = textTok ((bytes s).drop k) k) := Lib.hid (by rw [HR2.out, HTX.out k hc34, HDR.out])
          have HQ := Lib.hid (fun W => runq_any (s.extract k s.size) W (by rw [ext_size]; omega))
          rw [bytes_ext] at HQ
          obtain ⟨u, hu⟩ : ∃ u, u = unqL ((bytes s).drop k) := ⟨_, rfl⟩
          have HU := Lib.hid hu
          rw [← hu] at HQ
          clear h34 hc34 hu HTX HTN HTS HTW HNUM HDG HLI HDI HU8 HR2
          go_wp2_with fail
          refine (HQ.out w5).mono ?_
          rintro e w6 ⟨rfl, hb6⟩
          have HBW6 := Lib.hid (HBW.out.trans (hb6.mono HBW.out.size))
          have HBO6 := Lib.hid (Blk.below HBO.out hb6 HBO.out.lt)
          clear hb6 HQ
          cases u with
          | inl r =>
            have hr2 := (unqL_le _ r HU.out.symm).2.1
            rw [List.length_drop, bytes_len] at hr2
            have hi1 : (k : Int) + (r.2 : Int) ≤ 8388608 := by omega
            have hX : Hid (RRes R ⟨4, k, (k : Int) + (r.2 : Int), 0, r.1⟩ 0 0) := Lib.hid (by
              rw [HR3.out, textTok, ← HU.out]
              exact ⟨by simp, rfl, rfl⟩)
            clear HU HR3
            simp only [unqR, sv]
            go_wp2_with (first
              | (refine wpList_stE (E := eTk) rfl rfl infoTk rfl ⟨4, k, (k : Int) + (r.2 : Int), 0, r.1⟩ HBO6.out rfl rfl ?_; intro w8 HR8 ho8 hB8)
              | fail)
            refine ret_ctt (p := 4) (q := 5) (u := 6) rfl rfl rfl HR8.out (by kernel_rfl) rfl rfl ?_
            exact RRes.in_ (t := ⟨4, k, (k : Int) + (r.2 : Int), 0, r.1⟩) (n1 := 0) (n2 := 0) hX.out (hB8 _ _ HBW6.out (Nat.le_refl _))
          | inr r =>
            have hr2 := unqL_err HU.out.symm
            rw [List.length_drop, bytes_len] at hr2
            have hi1 : (k : Int) + (r.1 : Int) ≤ 8388608 := by omega
            have hn0 : (r.2 != 0) = true := by rcases hr2.1 with h | h <;> rw [h] <;> rfl
            have hX : Hid (RRes R Tok.z ((k : Int) + (r.1 : Int)) r.2) := Lib.hid (by
              rw [HR3.out, textTok, ← HU.out]
              exact ⟨rfl, by simp, rfl⟩)
            clear HU HR3 hr2
            simp only [unqR]
            go_wp2_with (first
              | (refine wpList_stE (E := eTk) rfl rfl infoTk rfl Tok.z HBO6.out rfl rfl ?_; intro w8 HR8 ho8 hB8)
              | fail)
            refine ret_ctt (p := 4) (q := 5) (u := 6) rfl rfl rfl HR8.out (by kernel_rfl) rfl rfl ?_
            exact RRes.in_ (t := Tok.z) (n1 := (k : Int) + (r.1 : Int)) (n2 := r.2) hX.out (hB8 _ _ HBW6.out (Nat.le_refl _))
        · have n34 : ((c.toNat : Int) == 34) = false := by simpa using h34
          have m34 : c ≠ 34 := fun e => h34 (by rw [e]; rfl)
          have HM34 := Lib.hid m34
          clear HTX m34 h34 HU8
          by_cases hnum : c = 45 ∨ isDig c = true
          · have hlet : letB c false = false := by
              rcases hnum with h | h
              · rw [h]; rfl
              · rw [HDI.out] at h
                simp only [Bool.and_eq_true, decide_eq_true_eq] at h
                have h95 : ((c.toNat : Int) == 95) = false := by simp; omega
                rw [HLI.out, h95, decide_eq_false (show ¬ (97 : Int) ≤ (c.toNat : Int) by omega), decide_eq_false (show ¬ (65 : Int) ≤ (c.toNat : Int) by omega)]
                rfl
            have HN2 : Hid (∀ W, Calls Tryz.prog 155 #[.string s, .int .i64 k] W (RNext R W)) := Lib.hid (fun W => by
              rw [HR2.out, HTN.out k HM34.out hlet hnum]
              exact HNUM.out W)
            clear hlet HTN HTS HTW HNUM HLI HDI HR2 HDR
            by_cases h45 : (c.toNat : Int) = 45
            · have b45 : ((c.toNat : Int) == 45) = true := by simpa using h45
              clear h45 hnum HDG HM34
              go_wp2_with fail
              refine (HN2.out w5).mono fun e w6 h6 => ?_
              obtain ⟨tk, n1, n2, rfl, hb6, hres⟩ := h6.out
              have HBW6 := Lib.hid (HBW.out.trans (hb6.mono HBW.out.size))
              have HBO6 := Lib.hid (Blk.below HBO.out hb6 HBO.out.lt)
              have HRS := Lib.hid hres
              clear hb6 hres h6 HN2
              go_wp2_with (first
                | (refine wpList_stE (E := eTk) rfl rfl infoTk rfl tk HBO6.out rfl rfl ?_; intro w8 HR8 ho8 hB8)
                | fail)
              refine ret_ctt (p := 4) (q := 5) (u := 6) rfl rfl rfl HR8.out (by kernel_rfl) rfl rfl ?_
              exact RRes.in_ (t := tk) (n1 := n1) (n2 := n2) HRS.out (hB8 _ _ HBW6.out (Nat.le_refl _))
            · have b45 : ((c.toNat : Int) == 45) = false := by simpa using h45
              have hdg : isDig c = true := hnum.resolve_left (fun e => h45 (by rw [e]; rfl))
              rw [hdg] at HDG
              clear h45 hnum hdg HM34
              go_wp2_with fail
              refine (HDG.out w5).mono ?_
              rintro e w6 ⟨rfl, rfl⟩
              clear HDG
              go_wp2_with fail
              refine (HN2.out w6).mono fun e w7 h6 => ?_
              obtain ⟨tk, n1, n2, rfl, hb6, hres⟩ := h6.out
              have HBW6 := Lib.hid (HBW.out.trans (hb6.mono HBW.out.size))
              have HBO6 := Lib.hid (Blk.below HBO.out hb6 HBO.out.lt)
              have HRS := Lib.hid hres
              clear hb6 hres h6 HN2
              go_wp2_with (first
                | (refine wpList_stE (E := eTk) rfl rfl infoTk rfl tk HBO6.out rfl rfl ?_; intro w8 HR8 ho8 hB8)
                | fail)
              refine ret_ctt (p := 4) (q := 5) (u := 6) rfl rfl rfl HR8.out (by kernel_rfl) rfl rfl ?_
              exact RRes.in_ (t := tk) (n1 := n1) (n2 := n2) HRS.out (hB8 _ _ HBW6.out (Nat.le_refl _))
          · have h45 : ¬ (c.toNat : Int) = 45 := fun h => hnum (.inl (u8_of c 45 (by decide) h))
            have hdg : isDig c = false := by
              cases h : isDig c with
              | true => exact absurd (.inr h) hnum
              | false => rfl
            have b45 : ((c.toNat : Int) == 45) = false := by simpa using h45
            have HM45 := Lib.hid (show c ≠ 45 ∧ isDig c = false from ⟨fun e => hnum (.inl e), hdg⟩)
            rw [hdg] at HDG
            clear h45 hnum hdg HTN HNUM HLI HDI
            go_wp2_with fail
            refine (HDG.out w5).mono ?_
            rintro e w6 ⟨rfl, rfl⟩
            clear HDG hc
            obtain ⟨wl, hwl⟩ : ∃ wl, wl = wlen ((bytes s).drop k) := ⟨_, rfl⟩
            have hwle : wl ≤ s.size - k := by
              have := wlen_le ((bytes s).drop k)
              rw [List.length_drop, bytes_len] at this
              omega
            have HWL := Lib.hid hwl
            have HNM := Lib.hid (fun (j : Nat) (hj : k + j < s.size) W => rname_any (s.extract k (k + (j + 1))) W (by have h : (s.extract k (k + (j + 1))).size ≤ s.size := (by rw [ByteArray.size_extract]; omega); omega))
            have HNB : Hid (∀ j, k + j < s.size → nmB (bytes (s.extract k (k + (j + 1)))) = decide (j < wl)) := Lib.hid (fun j hj => by
              rw [bytes_cut, nmB_take _ _ (by rw [List.length_drop, bytes_len]; omega), hwl])
            clear hwl
            go_wp2_with fail
            go_loopw [11] (fun i wr => ∃ e : Nat, k ≤ e ∧ e ≤ k + wl ∧ i = .int .i64 e ∧ wr = w6) (fun i _ => (s.size - intOf i).toNat)
            case atStart => exact ⟨k, Nat.le_refl _, by omega, rfl, rfl⟩
            case round =>
              obtain ⟨e, he1, he2, rfl, rfl⟩ := hrel
              have he0 : (0 : Int) ≤ (e : Int) := by omega
              have hke : (k : Int) ≤ (e : Int) + 1 := by omega
              by_cases hes : e < s.size
              · have hei : (e : Int) < (s.size : Int) := by omega
                have hei1 : (e : Int) + 1 ≤ (s.size : Int) := by omega
                have hz : ((e : Int) + 1).toNat = e + 1 := by omega
                have HN := HNM.out (e - k) (by omega)
                rw [HNB.out (e - k) (by omega), show k + (e - k + 1) = e + 1 by omega] at HN
                have HNN := Lib.hid HN
                clear HN
                by_cases hlt2 : e < k + wl
                · have hd : decide (e - k < wl) = true := decide_eq_true (by omega)
                  rw [hd] at HNN
                  clear hd
                  go_wp2_with fail
                  refine (HNN.out _).mono ?_
                  rintro e7 w7 ⟨rfl, rfl⟩
                  clear HNN
                  go_wp2_with fail
                  exact ⟨⟨e + 1, by omega, by omega, by go_num, trivial⟩, by simp [intOf]; omega⟩
                · have hewl : Hid (e = k + wl) := Lib.hid (by omega)
                  have hd : decide (e - k < wl) = false := decide_eq_false (by omega)
                  rw [hd] at HNN
                  clear hd hlt2
                  go_wp2_with fail
                  refine (HNN.out _).mono ?_
                  rintro e7 w7 ⟨rfl, rfl⟩
                  clear HNN hz hei1
                  by_cases hw0 : wl = 0
                  · have hlet : letB c false = false := wlen_zero (by rw [← HDR.out, ← HWL.out]; exact hw0)
                    have HX := Lib.hid (show R = signTok ((bytes s).drop k) k by rw [HR2.out, HTS.out k HM34.out hlet HM45.out.1 HM45.out.2, HDR.out])
                    have hgt : ¬ (k : Int) < (e : Int) := by have := hewl.out; omega
                    clear HTS HTW HWL HNM HNB HR2 HM34 HM45 HDR hlet hw0 hwle
                    go_wp2_with fail
                    refine (rsigns_any _).mono ?_
                    rintro e9 w9 ⟨rfl, hb9, hc9⟩
                    have HC9 := Lib.hid hc9
                    have HBW9 := Lib.hid (HBW.out.trans (hb9.mono HBW.out.size))
                    have HBO9 := Lib.hid (Blk.below HBO.out hb9 HBO.out.lt)
                    clear hb9 hc9 HBW HBO
                    go_wp2_with fail
                    go_loopw [107] (fun i wx => ∃ j : Nat, j ≤ 23 ∧ i = .int .i64 j ∧ Hid (∀ n, n < j → (signsL.getD n []).isPrefixOf ((bytes s).drop k) = false) ∧ wx = w9) (fun i _ => (23 - intOf i).toNat)
                    case atStart => exact ⟨0, Nat.zero_le _, rfl, fun n h => absurd h (Nat.not_lt_zero _), rfl⟩
                    case round =>
                      obtain ⟨j, hj, rfl, hF, rfl⟩ := hrel
                      by_cases hj23 : j < 23
                      · have hmem : signsL[j]? = some (signsL.getD j []) := by
                          rw [List.getD_eq_getElem?_getD]
                          have : j < signsL.length := hj23
                          rw [List.getElem?_eq_getElem this]; rfl
                        have hsg := HC9.out j _ hmem
                        rw [addr_plain] at hsg
                        have hx2 : (signsL.getD j []).length ≤ 2 := (by decide : ∀ x ∈ signsL, x.length ≤ 2) _ (List.mem_of_getElem? hmem)
                        have HFI : Hid ((signsL.getD j []).isPrefixOf ((bytes s).drop k) = true → R = .inl ⟨1, k, (k + (signsL.getD j []).length : Nat), 0, signsL.getD j []⟩) := Lib.hid (fun hp => by
                          rw [HX.out, signTok, show signsL.find? (fun x => x.isPrefixOf ((bytes s).drop k)) = some (signsL.getD j []) from ?_]
                          rw [List.find?_eq_some_iff_getElem]
                          refine ⟨hp, j, hj23, (List.getElem?_eq_some_iff.1 hmem).2, fun n hn => ?_⟩
                          have h2 := hF.out n hn
                          have hn' : n < signsL.length := Nat.lt_trans hn hj23
                          rw [List.getD_eq_getElem?_getD, List.getElem?_eq_getElem hn', Option.getD_some] at h2
                          simp only [h2]; rfl)
                        have HMEM := Lib.hid hmem
                        clear hmem
                        obtain ⟨x, hx⟩ : ∃ x, x = signsL.getD j [] := ⟨_, rfl⟩
                        rw [← hx] at hsg hx2 HFI
                        have HXJ := Lib.hid hx
                        clear hx
                        have hji : (j : Int) < 23 := by omega
                        have hj0 : (0 : Int) ≤ (j : Int) := by omega
                        have HSTA := Lib.hid (fun W => starts_any s ⟨x.toArray⟩ k W (by omega) hs (by rw [size_mk]; exact hx2))
                        have exb : (⟨x.toArray⟩ : ByteArray).toList = x := by rw [Lib.toList_data]
                        rw [exb] at HSTA
                        have hxl := size_mk x
                        clear exb
                        simp only [sv] at hsg
                        obtain ⟨xb, hxb⟩ : ∃ xb : ByteArray, xb = ⟨x.toArray⟩ := ⟨_, rfl⟩
                        rw [← hxb] at hsg HSTA hxl
                        have HXB := Lib.hid hxb
                        clear hxb
                        have hk2 : (k : Int) + (xb.size : Int) ≤ 8388700 := by omega
                        obtain ⟨q, hq⟩ : ∃ q, q = x.isPrefixOf ((bytes s).drop k) := ⟨_, rfl⟩
                        rw [← hq] at HSTA HFI
                        have HQ := Lib.hid hq
                        have HXL := Lib.hid hxl
                        clear hq hx2 hxl
                        go_wp2_with fail
                        refine (HSTA.out _).mono ?_
                        rintro e7 w7 ⟨rfl, rfl⟩
                        clear HSTA hsg
                        cases q with
                        | true =>
                          have HRS : Hid (RRes R ⟨1, k, (k : Int) + (xb.size : Int), 0, x⟩ 0 0) := Lib.hid (by
                            rw [HFI.out rfl]
                            exact ⟨by rw [HXL.out]; simp, rfl, rfl⟩)
                          have HXS := Lib.hid (show Value.string xb = sv x by rw [HXB.out]; rfl)
                          clear HFI HQ HXJ HMEM hF HX
                          go_wp2_with (first
                            | (refine wpList_stE (E := eTk) rfl rfl infoTk rfl ⟨1, k, (k : Int) + (xb.size : Int), 0, x⟩ HBO9.out rfl (by simp only [eTk, Tok.l]; rw [← HXS.out]; simp [Act.eval]) ?_; intro w8 HR8 ho8 hB8)
                            | fail)
                          refine ret_ctt (p := 4) (q := 5) (u := 6) rfl rfl rfl HR8.out (by kernel_rfl) rfl rfl ?_
                          exact RRes.in_ (t := ⟨1, k, (k : Int) + (xb.size : Int), 0, x⟩) (n1 := 0) (n2 := 0) HRS.out (hB8 _ _ HBW9.out (Nat.le_refl _))
                        | false =>
                          have hnx : Hid (∀ n, n < j + 1 → (signsL.getD n []).isPrefixOf ((bytes s).drop k) = false) := Lib.hid (fun n hn => by
                            rcases Nat.lt_or_ge n j with h | h
                            · exact hF.out n h
                            · obtain rfl : n = j := by omega
                              rw [← HXJ.out]; exact HQ.out.symm)
                          go_wp2_with fail
                          exact ⟨⟨j + 1, by omega, by go_num, hnx, trivial⟩, by simp [intOf]; omega⟩
                      · have HRS : Hid (RRes R Tok.z k 2) := Lib.hid (by
                          have hnone : signsL.find? (fun x => x.isPrefixOf ((bytes s).drop k)) = none := by
                            rw [List.find?_eq_none]
                            intro x hx
                            obtain ⟨n, hn, e⟩ := List.mem_iff_getElem.1 hx
                            have hn23 : n < 23 := hn
                            have := hF.out n (by omega)
                            rw [List.getD_eq_getElem?_getD, List.getElem?_eq_getElem hn, e] at this
                            simp only [Option.getD_some] at this
                            simp [this]
                          rw [HX.out, signTok, hnone]
                          exact ⟨rfl, rfl, rfl⟩)
                        clear hF HX
                        go_wp2_with (first
                          | (refine wpList_stE (E := eTk) rfl rfl infoTk rfl Tok.z HBO9.out rfl rfl ?_; intro w8 HR8 ho8 hB8)
                          | fail)
                        refine ret_ctt (p := 4) (q := 5) (u := 6) rfl rfl rfl HR8.out (by kernel_rfl) rfl rfl ?_
                        exact RRes.in_ (t := Tok.z) (n1 := k) (n2 := 2) HRS.out (hB8 _ _ HBW9.out (Nat.le_refl _))
                  · have HX : Hid (RRes R ⟨2, k, e, 0, bytes (s.extract k e)⟩ 0 0) := Lib.hid (word_res HDR.out (by rw [← HDR.out, ← HWL.out]; exact hw0) (by rw [← HDR.out, ← HWL.out]; exact hewl.out) HR2.out HM34.out)
                    have hgt : (k : Int) < (e : Int) := by have := hewl.out; omega
                    have hke : k ≤ e := by omega
                    have hes : (e : Int) ≤ (s.size : Int) := by have := hewl.out; omega
                    clear HTS HTW HWL HNM HNB HR2 HM34 HM45 HDR hw0 hwle hewl
                    go_wp2_with (first
                      | (refine wpList_stE (E := eTk) rfl rfl infoTk rfl ⟨2, k, e, 0, bytes (s.extract k e)⟩ HBO.out rfl rfl ?_; intro w8 HR8 ho8 hB8)
                      | fail)
                    refine ret_ctt (p := 4) (q := 5) (u := 6) rfl rfl rfl HR8.out (by kernel_rfl) rfl rfl ?_
                    exact RRes.in_ (t := ⟨2, k, e, 0, bytes (s.extract k e)⟩) (n1 := 0) (n2 := 0) HX.out (hB8 _ _ HBW.out (Nat.le_refl _))
              · have hewl : Hid (e = k + wl) := Lib.hid (by omega)
                have hesz : Hid (e = s.size) := Lib.hid (by omega)
                by_cases hw0 : wl = 0
                · exfalso; have h1 := hewl.out; have h2 := hesz.out; omega
                · have HX : Hid (RRes R ⟨2, k, e, 0, bytes (s.extract k e)⟩ 0 0) := Lib.hid (word_res HDR.out (by rw [← HDR.out, ← HWL.out]; exact hw0) (by rw [← HDR.out, ← HWL.out]; exact hewl.out) HR2.out HM34.out)
                  have hgt : (k : Int) < (e : Int) := by have := hewl.out; omega
                  have hke : k ≤ e := by omega
                  have hes : (e : Int) ≤ (s.size : Int) := by have := hewl.out; omega
                  clear HTS HTW HWL HNM HNB HR2 HM34 HM45 HDR hw0 hwle hewl
                  go_wp2_with (first
                    | (refine wpList_stE (E := eTk) rfl rfl infoTk rfl ⟨2, k, e, 0, bytes (s.extract k e)⟩ HBO.out rfl rfl ?_; intro w8 HR8 ho8 hB8)
                    | fail)
                  refine ret_ctt (p := 4) (q := 5) (u := 6) rfl rfl rfl HR8.out (by kernel_rfl) rfl rfl ?_
                  exact RRes.in_ (t := ⟨2, k, e, 0, bytes (s.extract k e)⟩) (n1 := 0) (n2 := 0) HX.out (hB8 _ _ HBW.out (Nat.le_refl _))
    · have hkE : k = E := by rw [← hG.out, endF_end s k (by omega)]
      clear hG HE hB
      subst hkE
      have hks : k = s.size := by omega
      have heq : ((k : Int) == (s.size : Int)) = true := by simp; omega
      have hX : Hid (RRes R ⟨0, k, k, 0, []⟩ 0 0) := Lib.hid (by
        rw [HR.out, List.drop_of_length_le (by rw [bytes_len]; omega)]
        exact ⟨rfl, rfl, rfl⟩)
      clear HR hks
      go_wp2_with (first
        | (refine wpList_stE (E := eTk) rfl rfl infoTk rfl ⟨0, k, k, 0, []⟩ HBO.out rfl rfl ?_; intro w8 HR8 ho8 hB8)
        | fail)
      refine ret_ctt (p := 4) (q := 5) (u := 6) rfl rfl rfl HR8.out (by kernel_rfl) rfl rfl ?_
      exact RRes.in_ (t := ⟨0, k, k, 0, []⟩) (n1 := 0) (n2 := 0) hX.out (hB8 _ _ HBW.out (Nat.le_refl _))
end Go.Proofs.YtfcegalckjeafaaGreatDoor
namespace Go.Proofs.YtfcegalckjeafaaGreatDoor
open Go.RowKit Go.BigFrame
/-- A reader: where it stands, and the first error. -/
structure RS where
  p : Nat
  a : Int
  e : Int
def RS.l (r : RS) (s : ByteArray) : List Value := [.string s, .int .i64 r.p, .int .i64 r.a, .int .i64 r.e]
def RS.fail (r : RS) (a e : Int) : RS := if r.e = 0 then ⟨r.p, a, e⟩ else r
def RS.wrong (r : RS) (s : List UInt8) (t : Tok) : RS := (if t.k = 0 then r.fail s.length 10 else r).fail t.a 2
def RS.next (r : RS) (s : List UInt8) : Tok × RS := if r.e = 0 then (match nextL s r.p with | .inl t => (t, ⟨t.e.toNat, r.a, r.e⟩) | .inr x => (Tok.z, r.fail x.1 x.2)) else (Tok.z, r)
def RS.sign (r : RS) (s x : List UInt8) : RS := if (r.next s).1.k = 1 ∧ (r.next s).1.t = x then (r.next s).2 else (r.next s).2.wrong s (r.next s).1
def RdAt (w : World) (g : Nat) (s : ByteArray) (r : RS) : Prop := Blk w g 105 (r.l s).toArray
def RdOut (g : Nat) (s : ByteArray) (r : RS) (w : World) (e : Ending) (w' : World) : Prop := e = .returned (.tuple #[]) ∧ Chg (fun k => k = g) w w' ∧ RdAt w' g s r
theorem RdAt.cells {w : World} {g : Nat} {s : ByteArray} {r : RS} (h : RdAt w g s r) : w.cell? ⟨g, 0, none⟩ = some (.string s) ∧ w.cell? ⟨g, 1, none⟩ = some (.int .i64 r.p) ∧ w.cell? ⟨g, 2, none⟩ = some (.int .i64 r.a) ∧ w.cell? ⟨g, 3, none⟩ = some (.int .i64 r.e) := by
  refine ⟨?_, ?_, ?_, ?_⟩ <;> rw [Blk.cell h] <;> rfl
theorem RdAt.frozen {w : World} {g : Nat} {s : ByteArray} {r : RS} (h : RdAt w g s r) : w.frozen? ⟨g, 1, none⟩ = false ∧ w.frozen? ⟨g, 2, none⟩ = false ∧ w.frozen? ⟨g, 3, none⟩ = false := ⟨Blk.frozen h 1, Blk.frozen h 2, Blk.frozen h 3⟩
theorem Chg.set_ {F : Nat → Prop} {w w' : World} {g : Nat} (h : Chg F w w') (hF : F g) (o : Nat) (u : Value) : Chg F w (w'.setCell ⟨g, o, none⟩ u) := ⟨h.base.setCell (Nat.zero_le _) u, fun k hk hf => (Below.heap_setCell w' _ u k (fun e => hf (e ▸ hF))).trans (h.same k hk hf)⟩
theorem Chg.one_trans {g : Nat} {w w1 w2 : World} (h : Chg (fun k => k = g) w w1) (k : Chg (fun k => k = g) w1 w2) : Chg (fun k => k = g) w w2 := h.trans k fun _ _ h => h
theorem post_none {fn : Func} {R : Ending → World → Prop} {a : Act} {w : World} (hr : fn.results = #[]) (hd : a.defers = []) (hR : R (.returned (.tuple #[])) w) : bodyPost Tryz.prog fn R .normal a w := bodyPost_end (results_none hr _ _ _) hd hR
theorem run_st_tok {P : Program} {w : World} {g t : Nat} {cs cur : Array Value} {tk : Tok} (hg : Blk w g t cur) (hs : cs.size = 5) (hc : cs = (Tok.l tk).toArray) (hz : cur.size = 5 := by rfl) : Sem.run P (storeCells ⟨g, 0, none⟩ cs.toList) w = .ok () (w.setRow g cs) := by
  have := run_storeCells_at P g 0 t cs.toList 0 cur w hg (by simp; omega) (fun u hu => by rw [hc] at hu; exact eTk.one tk u (show u ∈ Tok.l tk by simpa using hu))
  have e : cur.toList.drop cs.size = [] := List.drop_eq_nil_of_le (by simp; omega)
  simpa [e] using this
theorem setRow_blk {w : World} {g t : Nat} {cs cur : Array Value} (hg : Blk w g t cur) : Blk (w.setRow g cs) g t cs := by
  show (w.setRow g cs).heap[g]? = _
  rw [setRow_heap w g _ _ t _ hg]
set_option maxRecDepth 100000 in
set_option maxHeartbeats 4000000 in
theorem rfail_any (s : ByteArray) (r : RS) (g : Nat) (a e : Int) (w : World) (h : RdAt w g s r) : Calls Tryz.prog 104 #[.pointer (some ⟨g, 0, none⟩), .int .i64 a, .int .i64 e] w (RdOut g s (r.fail a e) w) := by
  obtain ⟨h0, h1, h2, h3⟩ := h.cells
  obtain ⟨f1, f2, f3⟩ := h.frozen
  have HH := Lib.hid h
  clear h
  obtain ⟨p, ra, re⟩ := r
  simp only at h0 h1 h2 h3
  by_cases hz : re = 0
  · subst hz
    go_enter Tryz.func104, Tryz.ntmps104
    go_wp2
    refine post_none rfl rfl ?_
    exact ⟨rfl, ((Chg.refl (fun k => k = g) w).set_ (g := g) rfl 2 _).set_ (g := g) rfl 3 _, by rw [RS.fail, if_pos rfl]; exact (Blk.set_ (Blk.set_ HH.out 2 (.int .i64 a)) 3 (.int .i64 e))⟩
  · have hne : (re == 0) = false := by simpa using hz
    go_enter Tryz.func104, Tryz.ntmps104
    go_wp2
    refine post_none rfl rfl ?_
    exact ⟨rfl, Chg.refl _ _, by rw [RS.fail, if_neg hz]; exact HH.out⟩
set_option maxRecDepth 100000 in
set_option maxHeartbeats 4000000 in
theorem rwrong_any (s : ByteArray) (r : RS) (g : Nat) (t : Tok) (w : World) (h : RdAt w g s r) (_hs : s.size ≤ 8388608) : Calls Tryz.prog 61 #[.pointer (some ⟨g, 0, none⟩), t.v] w (RdOut g s (r.wrong (bytes s) t) w) := by
  obtain ⟨tk, ta, te, ti, tt⟩ := t
  have HF := Lib.hid (fun r a e W h => rfail_any s r g a e W h)
  have HB0 := Lib.hid ((Chg.refl (fun k => k = g) w).trans (.of_below ((Below.refl _ _).alloc (Nat.le_refl _) (.cells (Tok.l ⟨tk, ta, te, ti, tt⟩).toArray 93))) fun _ _ h => h)
  have HR0 := Lib.hid (Blk.alloc h (.cells (Tok.l ⟨tk, ta, te, ti, tt⟩).toArray 93))
  have HT0 := Lib.hid (Blk.new w 93 (Tok.l ⟨tk, ta, te, ti, tt⟩).toArray)
  have hne : w.heap.size ≠ g := Nat.ne_of_gt h.lt
  obtain ⟨h0, -, -, -⟩ := (show RdAt _ g s r from HR0.out).cells
  simp only [Tok.v]
  simp only [Tok.l, sv] at h0 HB0 HR0 HT0
  obtain ⟨R, hR⟩ : ∃ R, R = r.wrong (bytes s) ⟨tk, ta, te, ti, tt⟩ := ⟨_, rfl⟩
  have HRR := Lib.hid hR
  rw [← hR]
  clear h hR
  by_cases hz : tk = 0
  · subst hz
    go_enter Tryz.func61, Tryz.ntmps61
    go_wp2_with fail
    refine (HF.out _ _ _ _ HR0.out).mono ?_
    rintro e w2 ⟨rfl, hc, hr⟩
    have HC := Lib.hid hc
    have HR2 := Lib.hid hr
    have c1 := (hc.blk HT0.out hne).cell 1
    simp only [List.getElem?_toArray, List.getElem?_cons_succ, List.getElem?_cons_zero] at c1
    clear hc hr h0 hne
    go_wp2_with fail
    refine (HF.out _ _ _ _ HR2.out).mono ?_
    rintro e w3 ⟨rfl, hc, hr⟩
    have HC3 := Lib.hid hc
    have HR3 := Lib.hid hr
    clear hc hr
    go_wp2
    refine post_none rfl rfl ⟨rfl, HB0.out.one_trans (HC.out.one_trans HC3.out), ?_⟩
    rw [HRR.out, RS.wrong, if_pos rfl, bytes_len]
    exact HR3.out
  · have hn : (tk == 0) = false := by simpa using hz
    go_enter Tryz.func61, Tryz.ntmps61
    go_wp2_with fail
    refine (HF.out _ _ _ _ HR0.out).mono ?_
    rintro e w2 ⟨rfl, hc, hr⟩
    have HC := Lib.hid hc
    have HR2 := Lib.hid hr
    clear hc hr
    go_wp2
    refine post_none rfl rfl ⟨rfl, HB0.out.one_trans HC.out, ?_⟩
    rw [HRR.out, RS.wrong, if_neg hz]
    exact HR2.out
theorem tokL_err {l : List UInt8} {p : Nat} {x : Nat × Int} (h : tokL l p = .inr x) : x.2 ≠ 0 := by
  unfold tokL at h
  split at h
  · cases h
  split at h
  · split at h
    · cases h
    · rename_i r hr
      cases h
      rcases (unqL_err hr).1 with h | h <;> simp only [h] <;> decide
  split at h
  · cases h
  split at h
  · split at h
    · cases h
    · rename_i hne
      cases h
      exact hne
  split at h
  · cases h
  · cases h
    exact (by decide : (2 : Int) ≠ 0)
theorem nextL_err {s : List UInt8} {p : Nat} {x : Nat × Int} (h : nextL s p = .inr x) : x.2 ≠ 0 := tokL_err h
theorem tcells {w : World} {g : Nat} {t : Tok} (h : EB eTk 93 w g t) : w.cell? ⟨g, 0, none⟩ = some (.int .i64 t.k) ∧ w.cell? ⟨g, 1, none⟩ = some (.int .i64 t.a) ∧ w.cell? ⟨g, 2, none⟩ = some (.int .i64 t.e) ∧ w.cell? ⟨g, 3, none⟩ = some (.int .i64 t.i) ∧ w.cell? ⟨g, 4, none⟩ = some (sv t.t) := by
  refine ⟨?_, ?_, ?_, ?_, ?_⟩ <;> rw [Blk.cell h] <;> rfl
theorem tkne : 93 ≠ 105 := by decide
def NxOut (g : Nat) (s : ByteArray) (R : Tok × RS) (w : World) (e : Ending) (w' : World) : Prop := e = .returned R.1.v ∧ Chg (fun k => k = g) w w' ∧ RdAt w' g s R.2
set_option maxRecDepth 100000 in
set_option maxHeartbeats 4000000 in
theorem rnx_any (s : ByteArray) (r : RS) (g : Nat) (w : World) (h : RdAt w g s r) (hp : r.p ≤ s.size) (hs : s.size ≤ 8388608) : Calls Tryz.prog 60 #[.pointer (some ⟨g, 0, none⟩)] w (NxOut g s (r.next (bytes s)) w) := by
  have HF := Lib.hid (fun a e W h => rfail_any s r g a e W h)
  have HB0 := Lib.hid ((Chg.refl (fun k => k = g) w).trans (.of_below ((Below.refl _ _).alloc (Nat.le_refl _) (.cells (Tok.l Tok.z).toArray 93))) fun _ _ h => h)
  have HR0 := Lib.hid (Blk.alloc h (.cells (Tok.l Tok.z).toArray 93))
  have HT0 := Lib.hid (Blk.new w 93 (Tok.l Tok.z).toArray)
  have HN := Lib.hid (fun W => rnext_any s r.p W hp hs)
  have HNE : Hid (w.heap.size ≠ g) := Lib.hid (Nat.ne_of_gt h.lt)
  obtain ⟨c0, c1, -, c3⟩ := (show RdAt _ g s r from HR0.out).cells
  simp only [Tok.l, Tok.z, sv] at c0 c1 c3
  obtain ⟨R, hR⟩ : ∃ R, R = r.next (bytes s) := ⟨_, rfl⟩
  have HRR := Lib.hid hR
  rw [← hR]
  clear h hR
  obtain ⟨p, ra, re⟩ := r
  simp only at c0 c1 c3 hp HN
  by_cases hz : re = 0
  · subst hz
    go_enter Tryz.func60, Tryz.ntmps60
    go_upto_region 3 with fail
    refine wp_at fun W hW => ?_
    have HW0 := Lib.hid hW
    have HWZ : Hid (W.heap.size = w.heap.size + 1) := Lib.hid (by rw [hW]; simp)
    have KEEP : Hid (∀ W', Below W.heap.size W W' → Chg (fun k => k = g) w W' ∧ RdAt W' g s ⟨p, ra, 0⟩ ∧ Blk W' w.heap.size 93 (Tok.l Tok.z).toArray) := Lib.hid fun W' hb => by
      rw [hW] at hb
      exact ⟨HB0.out.trans (.of_below hb) (fun _ _ h => h), HR0.out.below hb HR0.out.lt, HT0.out.below hb HT0.out.lt⟩
    have KS : Hid (∀ W', Below W.heap.size W W' → W'.cell? ⟨g, 0, none⟩ = some (.string s) ∧ W'.cell? ⟨g, 1, none⟩ = some (.int .i64 p)) := Lib.hid fun W' hb => ⟨(KEEP.out W' hb).2.1.cells.1, (KEEP.out W' hb).2.1.cells.2.1⟩
    clear hW c0 c1 c3 HB0 HR0 HT0 HW0
    go_cut [3, 4, 5] from 3 to 24 (fun s3 s4 s5 wx => ∃ tk n1 n2 gb, s3 = .pointer (some ⟨gb, 0, none⟩) ∧ s4 = .int .i64 n1 ∧ s5 = .int .i64 n2 ∧ Hid (W.heap.size ≤ gb) ∧ Hid (EB eTk 93 wx gb tk) ∧ Hid (Below W.heap.size W wx) ∧ Hid (RRes (nextL (bytes s) p) tk n1 n2))
    case first =>
      have HBX := Lib.hid (show Below W.heap.size W W.drew from (Below.refl _ _).drew)
      have K0 := KS.out W.drew HBX.out
      have HWD := HBX.out.size
      go_region_held3 (fun w' => w'.cell? ⟨g, 0, none⟩ = some (.string s) ∧ w'.cell? ⟨g, 1, none⟩ = some (.int .i64 p)) (first | exact K0 | exact K4 | exact KS.out _ (HBX.out.alloc HWD _) | exact KS.out _ (HB4.out.alloc HB4.out.size _) | exact KS.out _ (below_setRow (HB4.out.alloc HB4.out.size _) HB4.out.size _) | exact KS.out _ (below_setRow HB4.out (Nat.le_refl _) _) | (trace_state; fail))
        (first
          | (go_at_call 103; refine (HN.out _).mono ?_; rintro e w4 hno; obtain ⟨tk, n1, n2, rfl, hb4, hres⟩ := hno.out; have HRES := Lib.hid hres; clear hres; obtain ⟨cs, hcs⟩ : ∃ cs, cs = (Tok.l tk).toArray := ⟨_, rfl⟩; have hsz : cs.size = 5 := (by rw [hcs]; rfl); rw [show tk.v = .agg cs by rw [hcs]; rfl]; have HCS := Lib.hid hcs; clear hcs; have HB4 := Lib.hid ((by first | exact HBX.out.trans (hb4.mono HBX.out.size) | exact (HBX.out.alloc HWD _).trans (hb4.mono (HBX.out.alloc HWD _).size) : Below W.heap.size W w4)); have K4 := KS.out w4 HB4.out; (try have HGB := Lib.hid (show Blk w4 W.heap.size 93 (Tok.l Tok.z).toArray from Blk.below (Blk.new W.drew 93 (Tok.l Tok.z).toArray) hb4 (Blk.new W.drew 93 (Tok.l Tok.z).toArray).lt)); clear hno hb4)
          | (rw [run_st_tok HGB.out hsz HCS.out]; simp only [Result.andThen_ok]; unfold Oper.upon)
          | (rw [run_st_tok (Blk.new w4 93 #[.int .i64 0, .int .i64 0, .int .i64 0, .int .i64 0, .string ⟨#[]⟩]) hsz HCS.out]; simp only [Result.andThen_ok]; unfold Oper.upon))
      all_goals go_wp2_with fail
      all_goals go_meet
      · exact ⟨tk, n1, n2, _, rfl, rfl, rfl, Lib.hid HB4.out.size, Lib.hid (by rw [HCS.out]; exact setRow_blk (Blk.new w4 93 _)), Lib.hid (below_setRow (HB4.out.alloc HB4.out.size _) HB4.out.size _), HRES⟩
      · exact ⟨tk, n1, n2, _, rfl, rfl, rfl, Lib.hid (Nat.le_refl _), Lib.hid (by rw [HCS.out]; exact setRow_blk HGB.out), Lib.hid (below_setRow HB4.out (Nat.le_refl _) _), HRES⟩
    case rest =>
      obtain ⟨tk, n1, n2, gb, rfl, rfl, rfl, hgb, hG, hB, hR⟩ := hcut
      obtain ⟨hC, hRD, hZ⟩ := KEEP.out _ hB.out
      have HC := Lib.hid hC
      have HRD := Lib.hid hRD
      have HZ := Lib.hid hZ
      have hgn : gb ≠ g := fun e => by rw [e] at hG; exact tkne (blk_type hG.out hRD)
      have HGN := Lib.hid hgn
      have hwg : w.heap.size < W.heap.size := by rw [HWZ.out]; omega
      clear hC hRD hZ hgn KEEP KS HN
      cases hnx : nextL (bytes s) p with
      | inr x =>
        rw [hnx] at hR
        obtain ⟨rfl, rfl, rfl⟩ := hR.out
        have hn2 : (x.2 != 0) = true := by simpa using nextL_err hnx
        clear hR
        go_wp2_with fail
        refine (HF.out _ _ _ HRD.out).mono ?_
        rintro e w3 ⟨rfl, hc, hr⟩
        have HZ3 := Lib.hid (hc.blk HZ.out HNE.out)
        have HC3 := Lib.hid (HC.out.one_trans hc)
        have HR3 := Lib.hid hr
        clear hc hr
        go_wp2_with (first
          | (refine wpList_stE (E := eTk) rfl rfl infoTk rfl Tok.z HZ3.out rfl rfl ?_; intro w8 HR8 ho8 hB8)
          | fail)
        refine ret_c (p := 2) rfl rfl rfl HR8.out (by kernel_rfl) ?_
        rw [HRR.out, RS.next, if_pos rfl, hnx]
        exact ⟨rfl, HC3.out.trans (Chg.one (F := fun k => k = w.heap.size) ho8 hB8 rfl) (fun k hk e => absurd hk (by have e' : k = w.heap.size := e; omega)), (ho8 g (Ne.symm HNE.out)).trans HR3.out⟩
      | inl t =>
        rw [hnx] at hR
        obtain ⟨rfl, rfl, rfl⟩ := hR.out
        have hle := nextL_le (bytes s) p (by rw [bytes_len]; exact hp) tk hnx
        obtain ⟨x0, x1, x2, x3, x4⟩ := tcells hG.out
        obtain ⟨-, c1, -, -⟩ := HRD.out.cells
        have HZ1 := Lib.hid (Blk.far HZ.out (p := ⟨g, 1, none⟩) HNE.out (.int .i64 tk.e))
        have HG1 := Lib.hid (Blk.far (show Blk wc gb 93 (Tok.l tk).toArray from hG.out) (p := ⟨g, 1, none⟩) HGN.out (.int .i64 tk.e))
        obtain ⟨f1, -, -⟩ := HRD.out.frozen
        clear hR x0 x1 x3 x4
        go_wp2_with (first
          | (refine wpList_ldl (o := ⟨_, .load 93 (.tmp 3), _, _, _, _⟩) (cs := Tok.l tk) rfl rfl rfl isTok (fun j u hu => by rw [addr_plain]; exact (Blk.cell HG1.out j).trans (by simpa using hu)) ?_)
          | (refine wpList_stE (E := eTk) rfl rfl infoTk rfl tk HZ1.out rfl rfl ?_; intro w8 HR8 ho8 hB8)
          | fail)
        refine ret_c (p := 2) rfl rfl rfl HR8.out (by kernel_rfl) ?_
        rw [HRR.out, RS.next, if_pos rfl, hnx]
        refine ⟨rfl, (HC.out.set_ (g := g) rfl 1 _).trans (Chg.one (F := fun k => k = w.heap.size) ho8 hB8 rfl) (fun k hk e => absurd hk (by have e' : k = w.heap.size := e; omega)), (ho8 g (Ne.symm HNE.out)).trans ?_⟩
        have h1 := Blk.set_ (show Blk wc g _ _ from HRD.out) 1 (.int .i64 tk.e)
        refine h1.trans ?_
        have h2 : ((tk.e.toNat : Nat) : Int) = tk.e := by omega
        simp only [RS.l, h2]
        rfl
  · have hn : (re != 0) = true := by simpa using hz
    go_enter Tryz.func60, Tryz.ntmps60
    go_wp2_with (first
      | (refine wpList_stE (E := eTk) rfl rfl infoTk rfl Tok.z HT0.out rfl rfl ?_; intro w8 HR8 ho8 hB8)
      | fail)
    refine ret_c (p := 2) rfl rfl rfl HR8.out (by kernel_rfl) ?_
    rw [HRR.out, RS.next, if_neg hz]
    exact ⟨rfl, HB0.out.trans (Chg.one (F := fun k => k = w.heap.size) ho8 hB8 rfl) (fun k hk e => absurd hk (by have e' : k = w.heap.size := e; omega)), (ho8 g (Ne.symm HNE.out)).trans HR0.out⟩
end Go.Proofs.YtfcegalckjeafaaGreatDoor
