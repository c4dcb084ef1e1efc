/-
  Parts of the proof that AddrBegins,AddrTexts calls on: Tm, Yb, Yc.
-/
import Derived.Deep.CutRange
import Derived.Test.YtfcegalckjeafaaGreatDoorM317
import Derived.Test.YtfcegalckjeafaaGreatDoorM318
namespace Go.Proofs.YtfcegalckjeafaaGreatDoor
open Go.RowKit Go.BigFrame
theorem elSt : El 46 48 3 32 := El.mk' (z := .agg #[.int .i64 0, .int .i64 0, .string ⟨#[]⟩]) Tryz.underlying46 (by kernel_rfl) rfl (by decide)
theorem signL_le {l : List UInt8} {p a : Nat} {x : List UInt8} (hp : p ≤ l.length) (h : signL l p x = .inl a) : p ≤ a ∧ a ≤ l.length := by
  rw [signL] at h
  cases hnx : nextL l p with
  | inr r => rw [hnx] at h; cases h
  | inl t =>
    rw [hnx] at h
    have := nextL_le l p hp t hnx
    simp only at h
    split at h
    · cases h; omega
    · cases h
theorem stepL_le {l o : List UInt8} {p a : Nat} {x : St} (hp : p ≤ l.length) (h : stepL l o p = .inl (x, a)) : p ≤ a ∧ a ≤ l.length := by
  rw [stepL] at h
  cases hnx : nextL l p with
  | inr r => rw [hnx] at h; cases h
  | inl t =>
    rw [hnx] at h
    have h1 := nextL_le l p hp t hnx
    simp only at h
    split at h
    · cases h
    · cases hsg : signL l t.e.toNat (endL o) with
      | inr r => rw [hsg] at h; cases h
      | inl b =>
        rw [hsg] at h
        cases h
        have := signL_le (by omega) hsg
        omega
theorem reads_one_St (w : World) (K I : Int) (T : List UInt8) : Reads (w.alloc (.cells #[.int .i64 K, .int .i64 I, .string ⟨T.toArray⟩] 48)) (fun j => j = w.heap.size) 3 (some ⟨w.heap.size, 0, none⟩) [(⟨K, I, T⟩ : St)].length (eSt.fl [⟨K, I, T⟩]) := ⟨rfl, fun _ => ⟨_, rfl, rfl, fun j x hj => by
  have := (Blk.new w 48 #[.int .i64 K, .int .i64 I, .string ⟨T.toArray⟩]).cell j
  rw [addr_plain, this, ← hj]
  exact List.getElem?_toArray⟩⟩
theorem goL_succ (s : List UInt8) (n p : Nat) (acc : List St) : goL s (n + 1) p acc = match nextL s p with
    | .inr r => .inr r
    | .inl t => if t.k = 0 then .inl acc else if t.k = 1 ∧ (t.t = [91] ∨ t.t = [60]) then
        (match stepL s t.t t.e.toNat with
        | .inr r => .inr r
        | .inl x => goL s n x.2 (acc ++ [x.1])) else .inr (wrongL s t) := rfl
/-- Steps, or an error. -/
def PRes (B : Nat) (R : List St ⊕ (Nat × Int)) (v ev : Value) (w : World) : Prop := match R with
  | .inl l => ev = .nilIface ∧ ∃ A c, v = .slice A l.length c ∧ l.length ≤ c ∧ Reads w (fun k => B ≤ k) 3 A l.length (eSt.fl l)
  | .inr r => v = .slice none 0 0 ∧ ErrAt w ev r.1 r.2
def POut (R : List St ⊕ (Nat × Int)) (w : World) (e : Ending) (w' : World) : Prop := ∃ v ev, e = .returned (.tuple #[v, ev]) ∧ Below w.heap.size w w' ∧ PRes w.heap.size R v ev w'
def nilM (v : Value) (n : Nat) : Nat := match v with | .nilIface => n | _ => 0
set_option maxRecDepth 100000 in
set_option maxHeartbeats 8000000 in
theorem aparse_any (s : ByteArray) (w : World) (hs : s.size ≤ 8388608) (hT : SgT w) (hg : 0 < w.heap.size) :
    Calls Tryz.prog 19 #[.string s] w (POut (addrL (bytes s)) w) := by
  obtain ⟨R, hR⟩ : ∃ R, R = addrL (bytes s) := ⟨_, rfl⟩
  rw [← hR]
  have HT := Lib.hid hT
  have HR := Lib.hid hR
  clear hT hR
  go_enter Tryz.func19, Tryz.ntmps19
  go_wp2_with fail
  refine (asign_any s ⟨#[36]⟩ 0 w (Nat.zero_le _) hs HT.out hg).mono ?_
  rintro e w1 ⟨n1, v1, rfl, hb1, hres⟩
  have HS : Hid ((v1 = .nilIface ∧ ∃ p : Nat, n1 = p ∧ p ≤ s.size ∧ goL (bytes s) (s.size + 1) p [] = R) ∨ (∃ r, R = .inr r ∧ ErrAt w1 v1 r.1 r.2)) := Lib.hid (by
    have h36 : bytes ⟨#[36]⟩ = [36] := rfl
    rw [h36] at hres
    cases hsg : signL (bytes s) 0 [36] with
    | inl a =>
      rw [hsg] at hres
      refine .inl ⟨hres.2, a, hres.1, ?_, by rw [HR.out, addrL, hsg, bytes_len]⟩
      rw [signL] at hsg
      cases hnx : nextL (bytes s) 0 with
      | inr r => rw [hnx] at hsg; cases hsg
      | inl t =>
        rw [hnx] at hsg
        have := nextL_le (bytes s) 0 (Nat.zero_le _) t hnx
        rw [bytes_len] at this
        simp only at hsg
        split at hsg
        · cases hsg; omega
        · cases hsg
    | inr r =>
      rw [hsg] at hres
      exact .inr ⟨r, by rw [HR.out, addrL, hsg], hres⟩)
  have HB1 := Lib.hid hb1
  clear hb1 hres
  go_wp2_with fail
  go_loopw [4, 5, 6] (fun a ev v wr => ∃ (q : Int) (acc : List St), a = .int .i64 q ∧ Hid (wr.ownsRow w.heap.size 48 3 v acc.length (eSt.fl acc)) ∧ Hid (Below w.heap.size w wr) ∧
    ((ev = .nilIface ∧ ∃ (p n : Nat), q = p ∧ p ≤ s.size ∧ s.size - p < n ∧ acc.length ≤ p ∧ Hid (goL (bytes s) n p acc = R)) ∨ (∃ b c d, ev = .iface 152 (.pointer (some ⟨b, 0, none⟩)) ∧ Hid (R = .inr (c, d)) ∧ Hid (ErrAt wr (.iface 152 (.pointer (some ⟨b, 0, none⟩))) c d)))) (fun a ev _ _ => nilM ev (s.size + 1 - (intOf a).toNat))
  case atStart =>
    refine ⟨n1, [], rfl, World.ownsRow_nil _ _ _ _, HB1.out, ?_⟩
    rcases HS.out with ⟨rfl, p, rfl, hp, hgo⟩ | ⟨r, hr, h1, b, rfl, hb⟩
    · exact .inl ⟨rfl, p, s.size + 1, rfl, hp, by omega, Nat.zero_le _, hgo⟩
    · exact .inr ⟨b, r.1, r.2, rfl, hr, h1, b, rfl, hb⟩
  case round =>
    obtain ⟨q, acc, rfl, hO, hB, hrel | ⟨b, c, d, rfl, hRr, hE⟩⟩ := hrel
    · obtain ⟨rfl, p, n, rfl, hp, hn, hal, hgo⟩ := hrel
      have HTr := Lib.hid (HT.out.below hB.out hg)
      have hgr : 0 < wr.heap.size := Nat.lt_of_lt_of_le hg hB.out.size
      obtain ⟨A, cp, rfl, hcap⟩ := own_shape hO.out
      obtain ⟨m, rfl⟩ : ∃ m, n = m + 1 := ⟨n - 1, by omega⟩
      have hgo' := hgo.out
      rw [goL_succ] at hgo'
      clear hgo
      go_wp2_with fail
      refine calls_at fun W hW => ?_
      obtain ⟨hBW, hzW, HTk⟩ := boxes1 hW
      have hWs : wr.heap.size < W.heap.size := by omega
      clear hW
      refine (next_any s p W hp hs (HTr.out.below hBW hgr) (Nat.lt_of_lt_of_le hgr hBW.size)).mono ?_
      rintro e w2 hno
      cases hnx : nextL (bytes s) p with
      | inr r =>
        rw [hnx] at hgo' hno
        have hRX : Hid (R = .inr r) := Lib.hid hgo'.symm
        obtain ⟨hb2, v, rfl, hv⟩ := hno
        obtain ⟨hv1, b, rfl, hbk⟩ := hv
        have HO2 := Lib.hid (HTk.below hb2 HTk.lt)
        have HB2 := Lib.hid (hBW.trans (hb2.mono hBW.size))
        have HE2 : Hid (ErrAt w2 (.iface 152 (.pointer (some ⟨b, 0, none⟩))) r.1 r.2) := Lib.hid ⟨hv1, b, rfl, hbk⟩
        clear hb2 hbk hBW HTk hnx hgo'
        go_wp2_with (first
          | (refine wpList_stE (E := eTk) (o := ⟨none, .store 93 (.tmp 7) _, _, _, _, _⟩) rfl rfl infoTk rfl Tok.z HO2.out rfl rfl ?_; intro w3 HR3 ho3 hB3)
          | fail)
        go_ret2
        refine ⟨_, _, rfl, hB3 _ _ (hB.out.trans (HB2.out.mono hB.out.size)) hB.out.size, ?_⟩
        rw [hRX.out]
        exact ⟨rfl, ErrAt.far_ HE2.out ho3 HO2.out (by decide)⟩
      | inl t =>
        rw [hnx] at hgo' hno
        have hle := nextL_le (bytes s) p (by rw [bytes_len]; exact hp) t hnx
        rw [bytes_len] at hle
        obtain ⟨tk, ta, te, ti, tt⟩ := t
        simp only at hgo' hle
        obtain ⟨hle0, hle1, hle2, hle3, hle4⟩ := hle
        obtain ⟨te, rfl⟩ := Int.eq_ofNat_of_zero_le (show 0 ≤ te by omega)
        rw [Int.toNat_natCast] at hgo'
        have hts : te ≤ s.size := by omega
        have hta : 0 ≤ ta := by omega
        obtain ⟨hb2, rfl⟩ := hno
        have HO2 := Lib.hid (HTk.below hb2 HTk.lt)
        have HB2 := Lib.hid (hBW.trans (hb2.mono hBW.size))
        have HGO := Lib.hid hgo'
        clear hb2 hBW HTk hnx hgo'
        simp only [Tok.v]
        by_cases hk0 : tk = 0
        · subst hk0
          have hRX : Hid (R = .inl acc) := Lib.hid (by have := HGO.out; rw [if_pos rfl] at this; exact this.symm)
          go_wp2_with (first | (refine wpList_stE (E := eTk) (o := ⟨none, .store 93 (.tmp 7) _, _, _, _, _⟩) rfl rfl infoTk rfl ⟨0, ta, te, ti, tt⟩ HO2.out rfl rfl ?_; intro w3 HR3 ho3 hB3; have q0 : w3.cell? ⟨wr.heap.size, 0, none⟩ = some (.int .i64 0) := Blk.cell HR3.out 0; have q1 : w3.cell? ⟨wr.heap.size, 1, none⟩ = some (.int .i64 ta) := Blk.cell HR3.out 1; have q2 : w3.cell? ⟨wr.heap.size, 2, none⟩ = some (.int .i64 (te : Int)) := Blk.cell HR3.out 2; have q3 : w3.cell? ⟨wr.heap.size, 3, none⟩ = some (.int .i64 ti) := Blk.cell HR3.out 3; have q4 : w3.cell? ⟨wr.heap.size, 4, none⟩ = some (.string ⟨tt.toArray⟩) := Blk.cell HR3.out 4; have hqlt : wr.heap.size < w3.heap.size := Blk.lt HR3.out) | fail)
          have HW3 := Lib.hid (hB3 _ _ HB2.out (Nat.le_refl _))
          go_ret2
          refine ⟨_, _, rfl, hB.out.trans (HW3.out.mono hB.out.size), ?_⟩
          rw [hRX.out]
          exact ⟨rfl, A, cp, rfl, hcap, (Reads.of_own (own_below hO.out HW3.out)).more (fun _ h => h.1)⟩
        have n0 : (tk == 0) = false := by simpa using hk0
        have HGO1 := HGO.out
        rw [if_neg hk0] at HGO1
        by_cases hk1 : tk = 1
        · subst hk1
          by_cases h91 : tt = [91]
          · subst h91
            have hf : Hid (R = match stepL (bytes s) [91] te with | .inr r => .inr r | .inl x => goL (bytes s) m x.2 (acc ++ [x.1])) := Lib.hid (by rw [← HGO.out]; simp)
            go_wp2_with (first | (refine wpList_stE (E := eTk) (o := ⟨none, .store 93 (.tmp 7) _, _, _, _, _⟩) rfl rfl infoTk rfl ⟨1, ta, te, ti, [91]⟩ HO2.out rfl rfl ?_; intro w3 HR3 ho3 hB3; have q0 : w3.cell? ⟨wr.heap.size, 0, none⟩ = some (.int .i64 1) := Blk.cell HR3.out 0; have q1 : w3.cell? ⟨wr.heap.size, 1, none⟩ = some (.int .i64 ta) := Blk.cell HR3.out 1; have q2 : w3.cell? ⟨wr.heap.size, 2, none⟩ = some (.int .i64 (te : Int)) := Blk.cell HR3.out 2; have q3 : w3.cell? ⟨wr.heap.size, 3, none⟩ = some (.int .i64 ti) := Blk.cell HR3.out 3; have q4 : w3.cell? ⟨wr.heap.size, 4, none⟩ = some (.string ⟨#[91]⟩) := Blk.cell HR3.out 4; have hqlt : wr.heap.size < w3.heap.size := Blk.lt HR3.out) | fail)
            have HW3 := Lib.hid (hB3 _ _ HB2.out (Nat.le_refl _))
            have HO3 := Lib.hid (own_below hO.out HW3.out)
            have HB3 := Lib.hid (hB.out.trans (HW3.out.mono hB.out.size))
            refine calls_at fun W5 hW5 => ?_
            obtain ⟨hB5, hz5, HXk⟩ := boxes1 hW5
            clear hW5
            have hx5 := hB5.size
            refine (astep_any s ⟨1, ta, te, ti, [91]⟩ W5 (by simp) (by show (0 : Int) ≤ (te : Int); omega) (by show (te : Int) ≤ _; omega) hs (HTr.out.below (HW3.out.trans (hB5.mono HW3.out.size)) hgr) (Nat.lt_of_lt_of_le hgr (Nat.le_trans HW3.out.size hB5.size))).mono ?_
            rintro e w6 ⟨x, n6, v6, rfl, hb6, hres⟩
            obtain ⟨K, I, T⟩ := x
            simp only [Int.toNat_natCast] at hres
            have hb36 := hB5.trans (hb6.mono hB5.size)
            have HX6 := Lib.hid (HXk.below hb6 HXk.lt)
            have HO6 := Lib.hid (own_below HO3.out hb36)
            have HB6 := Lib.hid (HB3.out.trans (hb36.mono HB3.out.size))
            have hxl : w3.heap.size < w6.heap.size := HX6.out.lt
            have hw36 := HB3.out.size
            have HB36 := Lib.hid hb36
            clear hB5 hb6 hb36 HXk hz5 hx5
            simp only [St.v]
            cases hst : stepL (bytes s) [91] te with
            | inr r =>
              rw [hst] at hres
              have hRX : Hid (R = .inr r) := Lib.hid (by rw [hf.out, hst])
              obtain ⟨hv1, b, rfl, hbk⟩ := hres
              have HBK := Lib.hid hbk
              clear hbk hst
              go_wp2_with (first
                | (refine wpList_stE (E := eSt) (o := ⟨none, .store 48 (.tmp 8) _, _, _, _, _⟩) rfl rfl infoSt rfl ⟨K, I, T⟩ HX6.out rfl rfl ?_; intro w7 HR7 ho7 hB7)
                | fail)
              have hB77 := hB7 _ _ HB6.out (by omega)
              have hO7 := own_below HO3.out (hB7 _ _ HB36.out (Nat.le_refl _))
              go_roundw
              case rel => exact ⟨n6, acc, rfl, hO7, hB77, .inr ⟨b, r.1, r.2, rfl, hRX, ErrAt.far_ (a := r.1) (c := r.2) ⟨hv1, b, rfl, HBK.out⟩ ho7 HX6.out (by decide)⟩⟩
              case measure => simp [nilM, intOf]; omega
            | inl xa =>
              rw [hst] at hres
              obtain ⟨hx, hn6, rfl⟩ := hres
              obtain ⟨xs, a⟩ := xa
              simp only at hx hn6
              subst hx hn6
              have hsl := stepL_le (by rw [bytes_len]; exact hts) hst
              rw [bytes_len] at hsl
              have hgn : Hid (goL (bytes s) m a (acc ++ [⟨K, I, T⟩]) = R) := Lib.hid (by rw [hf.out, hst])
              clear hst
              go_wp2_with (first
                | (refine wpList_stE (E := eSt) (o := ⟨none, .store 48 (.tmp 8) _, _, _, _, _⟩) rfl rfl infoSt rfl ⟨K, I, T⟩ HX6.out rfl rfl ?_; intro w7 HR7 ho7 hB7; have y0 : w7.cell? ⟨w3.heap.size, 0, none⟩ = some (.int .i64 K) := Blk.cell HR7.out 0; have y1 : w7.cell? ⟨w3.heap.size, 1, none⟩ = some (.int .i64 I) := Blk.cell HR7.out 1; have y2 : w7.cell? ⟨w3.heap.size, 2, none⟩ = some (.string ⟨T.toArray⟩) := Blk.cell HR7.out 2; have hO7 := own_below HO3.out (hB7 _ _ HB36.out (Nat.le_refl _)); have hB77 := hB7 _ _ HB6.out (by omega); have hs7 : w.heap.size ≤ w7.heap.size := hB77.size)
                | (at_builtin; refine wpList_app elSt (o := ⟨some 56, _, _, _, _, _⟩) rfl rfl (n := acc.length) (World.ownsRow.alloc hO7 _) rfl (w0 := w) (hB77.alloc hs7 _) (reads_one_St w7 K I T) rfl (eSt.fl_one _) (by simp; omega) (by decide) (by simp; omega) ?_; intro v9 w9 HO9 HB9 HG9)
                | fail)
              go_roundw
              case rel => exact ⟨a, acc ++ [⟨K, I, T⟩], rfl, by rw [List.length_append, Enc.fl_app]; exact HO9, HB9, .inl ⟨rfl, a, m, rfl, hsl.2, by omega, by simp; omega, hgn⟩⟩
              case measure => simp [nilM, intOf]; omega
          by_cases h60 : tt = [60]
          · subst h60
            have hf : Hid (R = match stepL (bytes s) [60] te with | .inr r => .inr r | .inl x => goL (bytes s) m x.2 (acc ++ [x.1])) := Lib.hid (by rw [← HGO.out]; simp)
            go_wp2_with (first | (refine wpList_stE (E := eTk) (o := ⟨none, .store 93 (.tmp 7) _, _, _, _, _⟩) rfl rfl infoTk rfl ⟨1, ta, te, ti, [60]⟩ HO2.out rfl rfl ?_; intro w3 HR3 ho3 hB3; have q0 : w3.cell? ⟨wr.heap.size, 0, none⟩ = some (.int .i64 1) := Blk.cell HR3.out 0; have q1 : w3.cell? ⟨wr.heap.size, 1, none⟩ = some (.int .i64 ta) := Blk.cell HR3.out 1; have q2 : w3.cell? ⟨wr.heap.size, 2, none⟩ = some (.int .i64 (te : Int)) := Blk.cell HR3.out 2; have q3 : w3.cell? ⟨wr.heap.size, 3, none⟩ = some (.int .i64 ti) := Blk.cell HR3.out 3; have q4 : w3.cell? ⟨wr.heap.size, 4, none⟩ = some (.string ⟨#[60]⟩) := Blk.cell HR3.out 4; have hqlt : wr.heap.size < w3.heap.size := Blk.lt HR3.out) | fail)
            have HW3 := Lib.hid (hB3 _ _ HB2.out (Nat.le_refl _))
            have HO3 := Lib.hid (own_below hO.out HW3.out)
            have HB3 := Lib.hid (hB.out.trans (HW3.out.mono hB.out.size))
            refine calls_at fun W5 hW5 => ?_
            obtain ⟨hB5, hz5, HXk⟩ := boxes1 hW5
            clear hW5
            have hx5 := hB5.size
            refine (astep_any s ⟨1, ta, te, ti, [60]⟩ W5 (by simp) (by show (0 : Int) ≤ (te : Int); omega) (by show (te : Int) ≤ _; omega) hs (HTr.out.below (HW3.out.trans (hB5.mono HW3.out.size)) hgr) (Nat.lt_of_lt_of_le hgr (Nat.le_trans HW3.out.size hB5.size))).mono ?_
            rintro e w6 ⟨x, n6, v6, rfl, hb6, hres⟩
            obtain ⟨K, I, T⟩ := x
            simp only [Int.toNat_natCast] at hres
            have hb36 := hB5.trans (hb6.mono hB5.size)
            have HX6 := Lib.hid (HXk.below hb6 HXk.lt)
            have HO6 := Lib.hid (own_below HO3.out hb36)
            have HB6 := Lib.hid (HB3.out.trans (hb36.mono HB3.out.size))
            have hxl : w3.heap.size < w6.heap.size := HX6.out.lt
            have hw36 := HB3.out.size
            have HB36 := Lib.hid hb36
            clear hB5 hb6 hb36 HXk hz5 hx5
            simp only [St.v]
            cases hst : stepL (bytes s) [60] te with
            | inr r =>
              rw [hst] at hres
              have hRX : Hid (R = .inr r) := Lib.hid (by rw [hf.out, hst])
              obtain ⟨hv1, b, rfl, hbk⟩ := hres
              have HBK := Lib.hid hbk
              clear hbk hst
              go_wp2_with (first
                | (refine wpList_stE (E := eSt) (o := ⟨none, .store 48 (.tmp 8) _, _, _, _, _⟩) rfl rfl infoSt rfl ⟨K, I, T⟩ HX6.out rfl rfl ?_; intro w7 HR7 ho7 hB7)
                | fail)
              have hB77 := hB7 _ _ HB6.out (by omega)
              have hO7 := own_below HO3.out (hB7 _ _ HB36.out (Nat.le_refl _))
              go_roundw
              case rel => exact ⟨n6, acc, rfl, hO7, hB77, .inr ⟨b, r.1, r.2, rfl, hRX, ErrAt.far_ (a := r.1) (c := r.2) ⟨hv1, b, rfl, HBK.out⟩ ho7 HX6.out (by decide)⟩⟩
              case measure => simp [nilM, intOf]; omega
            | inl xa =>
              rw [hst] at hres
              obtain ⟨hx, hn6, rfl⟩ := hres
              obtain ⟨xs, a⟩ := xa
              simp only at hx hn6
              subst hx hn6
              have hsl := stepL_le (by rw [bytes_len]; exact hts) hst
              rw [bytes_len] at hsl
              have hgn : Hid (goL (bytes s) m a (acc ++ [⟨K, I, T⟩]) = R) := Lib.hid (by rw [hf.out, hst])
              clear hst
              go_wp2_with (first
                | (refine wpList_stE (E := eSt) (o := ⟨none, .store 48 (.tmp 8) _, _, _, _, _⟩) rfl rfl infoSt rfl ⟨K, I, T⟩ HX6.out rfl rfl ?_; intro w7 HR7 ho7 hB7; have y0 : w7.cell? ⟨w3.heap.size, 0, none⟩ = some (.int .i64 K) := Blk.cell HR7.out 0; have y1 : w7.cell? ⟨w3.heap.size, 1, none⟩ = some (.int .i64 I) := Blk.cell HR7.out 1; have y2 : w7.cell? ⟨w3.heap.size, 2, none⟩ = some (.string ⟨T.toArray⟩) := Blk.cell HR7.out 2; have hO7 := own_below HO3.out (hB7 _ _ HB36.out (Nat.le_refl _)); have hB77 := hB7 _ _ HB6.out (by omega); have hs7 : w.heap.size ≤ w7.heap.size := hB77.size)
                | (at_builtin; refine wpList_app elSt (o := ⟨some 56, _, _, _, _, _⟩) rfl rfl (n := acc.length) (World.ownsRow.alloc hO7 _) rfl (w0 := w) (hB77.alloc hs7 _) (reads_one_St w7 K I T) rfl (eSt.fl_one _) (by simp; omega) (by decide) (by simp; omega) ?_; intro v9 w9 HO9 HB9 HG9)
                | fail)
              go_roundw
              case rel => exact ⟨a, acc ++ [⟨K, I, T⟩], rfl, by rw [List.length_append, Enc.fl_app]; exact HO9, HB9, .inl ⟨rfl, a, m, rfl, hsl.2, by omega, by simp; omega, hgn⟩⟩
              case measure => simp [nilM, intOf]; omega
          · have hRX : Hid (R = .inr (wrongL (bytes s) ⟨1, ta, te, ti, tt⟩)) := Lib.hid (by rw [if_neg (by rintro ⟨_, h | h⟩ <;> contradiction)] at HGO1; exact HGO1.symm)
            obtain ⟨tb, rfl⟩ : ∃ tb : ByteArray, tt = bytes tb := ⟨⟨tt.toArray⟩, rfl⟩
            have g1 : (tb.toList == [91]) = false := by rw [Lib.toList_data]; exact beq_eq_false_iff_ne.2 h91
            have g2 : (tb.toList == [60]) = false := by rw [Lib.toList_data]; exact beq_eq_false_iff_ne.2 h60
            have htb : (⟨(bytes tb).toArray⟩ : ByteArray) = tb := ba_eta tb
            rw [htb]
            clear HGO1 h91 h60 htb
            go_wp2_with (first | (refine wpList_stE (E := eTk) (o := ⟨none, .store 93 (.tmp 7) _, _, _, _, _⟩) rfl rfl infoTk rfl ⟨1, ta, te, ti, bytes tb⟩ HO2.out rfl rfl ?_; intro w3 HR3 ho3 hB3; have q0 : w3.cell? ⟨wr.heap.size, 0, none⟩ = some (.int .i64 1) := Blk.cell HR3.out 0; have q1 : w3.cell? ⟨wr.heap.size, 1, none⟩ = some (.int .i64 ta) := Blk.cell HR3.out 1; have q2 : w3.cell? ⟨wr.heap.size, 2, none⟩ = some (.int .i64 (te : Int)) := Blk.cell HR3.out 2; have q3 : w3.cell? ⟨wr.heap.size, 3, none⟩ = some (.int .i64 ti) := Blk.cell HR3.out 3; have q4 : w3.cell? ⟨wr.heap.size, 4, none⟩ = some (.string tb) := Blk.cell HR3.out 4; have hqlt : wr.heap.size < w3.heap.size := Blk.lt HR3.out) | fail)
            have HW3 := Lib.hid (hB3 _ _ HB2.out (Nat.le_refl _))
            have HO3 := Lib.hid (own_below hO.out HW3.out)
            have HB3 := Lib.hid (hB.out.trans (HW3.out.mono hB.out.size))
            have HW := Lib.hid (fun W => wrong_any s ⟨1, ta, te, ti, bytes tb⟩ W hta hs)
            simp only [Tok.v] at HW
            refine (HW.out w3).mono ?_
            rintro e w4 ⟨v, rfl, hv, hb⟩
            have HV := Lib.hid hv
            have HB4 := Lib.hid (HB3.out.trans (hb.mono HB3.out.size))
            clear hv hb
            go_wp2
            go_ret2
            refine ⟨_, _, rfl, HB4.out, ?_⟩
            rw [hRX.out]
            exact ⟨rfl, HV.out⟩
        · have hRX : Hid (R = .inr (wrongL (bytes s) ⟨tk, ta, te, ti, tt⟩)) := Lib.hid (by rw [if_neg (fun h => hk1 h.1)] at HGO1; exact HGO1.symm)
          have n1 : (tk == 1) = false := by simpa using hk1
          clear HGO1
          go_wp2_with (first | (refine wpList_stE (E := eTk) (o := ⟨none, .store 93 (.tmp 7) _, _, _, _, _⟩) rfl rfl infoTk rfl ⟨tk, ta, te, ti, tt⟩ HO2.out rfl rfl ?_; intro w3 HR3 ho3 hB3; have q0 : w3.cell? ⟨wr.heap.size, 0, none⟩ = some (.int .i64 tk) := Blk.cell HR3.out 0; have q1 : w3.cell? ⟨wr.heap.size, 1, none⟩ = some (.int .i64 ta) := Blk.cell HR3.out 1; have q2 : w3.cell? ⟨wr.heap.size, 2, none⟩ = some (.int .i64 (te : Int)) := Blk.cell HR3.out 2; have q3 : w3.cell? ⟨wr.heap.size, 3, none⟩ = some (.int .i64 ti) := Blk.cell HR3.out 3; have q4 : w3.cell? ⟨wr.heap.size, 4, none⟩ = some (.string ⟨tt.toArray⟩) := Blk.cell HR3.out 4; have hqlt : wr.heap.size < w3.heap.size := Blk.lt HR3.out) | fail)
          have HW3 := Lib.hid (hB3 _ _ HB2.out (Nat.le_refl _))
          have HO3 := Lib.hid (own_below hO.out HW3.out)
          have HB3 := Lib.hid (hB.out.trans (HW3.out.mono hB.out.size))
          have HW := Lib.hid (fun W => wrong_any s ⟨tk, ta, te, ti, tt⟩ W hta hs)
          simp only [Tok.v] at HW
          refine (HW.out w3).mono ?_
          rintro e w4 ⟨v, rfl, hv, hb⟩
          have HV := Lib.hid hv
          have HB4 := Lib.hid (HB3.out.trans (hb.mono HB3.out.size))
          clear hv hb
          go_wp2
          go_ret2
          refine ⟨_, _, rfl, HB4.out, ?_⟩
          rw [hRX.out]
          exact ⟨rfl, HV.out⟩
    · obtain ⟨A, cp, rfl, hcap⟩ := own_shape hO.out
      go_wp2
      go_ret2
      exact ⟨_, _, rfl, hB.out, by rw [hRr.out]; exact ⟨rfl, hE.out⟩⟩
end Go.Proofs.YtfcegalckjeafaaGreatDoor
namespace Go.Proofs.YtfcegalckjeafaaGreatDoor
open Go.RowKit Go.BigFrame Go.Shelf
/-- A list under way, in a box. -/
def AppJ {α : Type} (E : Enc α) (ts e : TypeId) (w0 : World) (n₀ g : Nat) (l : List α) (W : World) : Prop := ∃ v, Blk W g ts #[v] ∧ W.ownsRow (n₀ + 3) e E.sz v l.length (E.fl l) ∧ Below w0.heap.size w0 W
theorem app_stay {α : Type} {E : Enc α} {ts e : TypeId} {w0 : World} {n₀ g : Nat} {l : List α} {W W' : World} {row : Option Nat} (h : AppJ E ts e w0 n₀ g l W) (h0 : w0.heap.size ≤ g) (h1 : g < n₀) (hg : W.grownBy W' row) (hr : ∀ r, row = some r → r = n₀ + 2 ∨ n₀ ≤ r ∧ ∃ o : Obj, W.heap[r]? = some o ∧ o.isCells = false) : AppJ E ts e w0 n₀ g l W' := by
  obtain ⟨v, hg1, hv, hb0⟩ := h
  have hC : Chg (fun b => some b = row) W W' := Chg.of_grown hg (fun j e => e.symm)
  have hrow : ∀ r, some r = row → n₀ ≤ r := fun r e => by rcases hr r e.symm with h | h <;> omega
  refine ⟨v, hC.blk hg1 (fun e => by have := hrow _ e; omega), hC.own hv (fun j e h => ?_), hC.below hb0 hb0.size (fun b e => by have := hrow _ e; omega)⟩
  rcases hr j h.symm with h' | ⟨_, o, ho, hc⟩
  · have := own_base hv e; omega
  · rw [own_cells hv e ho] at hc; cases hc
/-- What has been put behind, and into the box. -/
theorem app_fin {α : Type} {E : Enc α} {ts e : TypeId} {w0 w w4 w5 : World} {n₀ g : Nat} {l : List α} {x : α} {v v' : Value} (h0 : w0.heap.size ≤ g) (h1 : g < n₀) (hb0 : Below w0.heap.size w0 w) (hv : w.ownsRow (n₀ + 3) e E.sz v l.length (E.fl l)) (hg : Blk w g ts #[v])
    (hB : Below w.heap.size w w4) (hG : w4.grownBy w5 v.ownBlock) (hO : w5.ownsRow (n₀ + 3) e E.sz v' (l.length + 1) (E.fl l ++ E.fl [x])) :
    AppJ E ts e w0 n₀ g (l ++ [x]) (w5.setCell ⟨g, 0, none⟩ v') ∧ ∀ S : Nat → Prop, (∀ b, S b → b < n₀ ∧ b ≠ g) → Left n₀ S w (w5.setCell ⟨g, 0, none⟩ v') := by
  have ol : ∀ j, v.ownBlock = some j → n₀ + 3 ≤ j ∧ j < w.heap.size := fun j e => ⟨own_base hv e, own_lt hv e⟩
  have hC6 : Chg (fun b => b = g) w5 (w5.setCell ⟨g, 0, none⟩ v') := Chg.of_grown (chg_set w5 g 0 v') (fun j e => (Option.some.inj e).symm)
  have hC5 : Chg (fun b => b = g ∨ some b = v.ownBlock) w w5 := (Chg.of_below hB).trans (Chg.of_grown (F := fun b => b = g ∨ some b = v.ownBlock) hG (fun j e => .inr e.symm)) (fun _ _ h => h)
  have hC : Chg (fun b => b = g ∨ some b = v.ownBlock) w (w5.setCell ⟨g, 0, none⟩ v') := hC5.trans hC6 (fun _ _ h => .inl h)
  have hg5 : Blk w5 g ts #[v] := (hg.below hB hg.lt).grown hG (fun e => by have := ol _ e.symm; omega)
  refine ⟨⟨v', by simpa using hg5.set_ 0 v', ?_, hC.below hb0 hb0.size ?_⟩, fun S hS => hC.left (fun b hb => ?_) ?_ ?_⟩
  · rw [List.length_append, E.fl_app]
    exact hC6.own hO (fun j e h => by have := own_base hO e; omega)
  · rintro b (h | h)
    · omega
    · have := ol b h.symm; omega
  · rintro (h | h)
    · exact (hS b hb).2 h
    · have := ol b h.symm; have := (hS b hb).1; omega
  · rintro b o (h | h) ho hc
    · omega
    · rw [own_cells hv h.symm ho] at hc; cases hc
  · rintro b (h | h)
    · omega
    · have := ol b h.symm; omega
theorem reads_one_S (w : World) (s : St) : Reads (w.alloc (.cells #[.int .i64 s.K, .int .i64 s.I, .string ⟨s.T.toArray⟩] 48)) (fun j => j = w.heap.size) 3 (some ⟨w.heap.size, 0, none⟩) 1 (eSt.fl [s]) := reads_one_St w s.K s.I s.T
set_option maxRecDepth 100000 in
set_option maxHeartbeats 2000000 in
theorem steps1_any (w0 : World) (n₀ g : Nat) (s : St) (x : V) (l : List St) (w : World) (hJ : AppJ eSt 46 48 w0 n₀ g l w) (h0 : w0.heap.size ≤ g) (h1 : g < n₀) (h3 : n₀ + 3 ≤ w.heap.size) (hn : l.length ≤ 16384) :
    Calls Tryz.prog 132 #[s.a, x.a, .pointer (some ⟨g, 0, none⟩)] w fun e W' => (∃ u, e = .returned u) ∧ AppJ eSt 46 48 w0 n₀ g (l ++ [s]) W' ∧ ∀ S : Nat → Prop, (∀ b, S b → b < n₀ ∧ b ≠ g) → Left n₀ S w W' := by
  obtain ⟨v, hg, hv, hb0⟩ := hJ
  obtain ⟨A1, c1, rfl, hc1⟩ := own_shape hv
  have HG := Lib.hid hg
  have HV := Lib.hid hv
  have HB0 := Lib.hid hb0
  have gl := hg.lt
  have H0 := Lib.hid h0
  have H1 := Lib.hid h1
  have H3 := Lib.hid h3
  clear hg hv hb0 hc1 h0 h1 h3
  simp only [V.a, St.a]
  go_enter Tryz.func132, Tryz.ntmps132
  go_upto_region 1 with fail
  refine wp_at fun W hW => ?_
  obtain ⟨hB, hz, hS, -⟩ := boxes2 hW
  have HB := Lib.hid hB
  have g0 : W.cell? ⟨g, 0, none⟩ = some (.slice A1 l.length c1) := (HG.out.below hB gl).cell 0
  have f0 := (HG.out.below hB gl).frozen 0
  have s0 := hS.cell 0
  have s1 := hS.cell 1
  have s2 := hS.cell 2
  have HZ := Lib.hid hz
  simp only [List.getElem?_toArray, List.getElem?_cons_succ, List.getElem?_cons_zero] at s0 s1 s2
  have hgw : g < W.heap.size := Nat.lt_of_lt_of_le gl hB.size
  clear hW hB hz hS
  go_wp2_with (first
    | (at_builtin; refine wpList_app3 elSt (o := ⟨some 8, _, _, _, _, _⟩) rfl rfl (n := l.length) (own_below (own_below HV.out HB.out) ((Below.refl _ _).alloc (Nat.le_refl _) _)) rfl (reads_one_S W s) rfl (eSt.fl_one _) (by omega) (by decide) (by have := H3.out; have := HB.out.size; simp; omega) ?_; intro v5 w5 HO5 HG5 HK5; obtain ⟨A5, c5, rfl, -⟩ := own_shape HO5.out; have HG5' := Lib.hid (show World.grownBy _ w5 (Value.slice A1 l.length c1).ownBlock from HG5.out); have G5 := Lib.hid ((HG.out.below (HB.out.alloc HB.out.size (.cells #[.int .i64 s.K, .int .i64 s.I, .string ⟨s.T.toArray⟩] 48)) gl).grown HG5'.out (fun e => by have := own_base HV.out e.symm; have := H1.out; omega)); have q0 : w5.cell? ⟨g, 0, none⟩ = some (.slice A1 l.length c1) := G5.out.cell 0; have q1 := G5.out.frozen 0; clear HG5 HK5 g0 f0 s0 s1 s2)
    | fail)
  have HFIN := Lib.hid (app_fin (E := eSt) (ts := 46) (x := s) H0.out H1.out HB0.out HV.out HG.out (HB.out.alloc HB.out.size _) HG5'.out HO5.out)
  clear HO5 HG5' G5
  go_end0
  exact ⟨⟨_, rfl⟩, HFIN.out⟩
/-- The steps to a tree's parts. -/
def stepAt (x : T) (i : Nat) : St := if x.k = 4 then ⟨0, i, []⟩ else if x.k = 5 then ⟨1, 0, x.ks.getD i []⟩ else ⟨2, 0, (x.xs.getD i T.z).key⟩
def stepsT (x : T) : List St := (List.range x.xs.length).map (stepAt x)
theorem stepsT_len (x : T) : (stepsT x).length = x.xs.length := by simp [stepsT]
theorem parts_steps {w : World} {S : Nat → Prop} {x : T} {n : Nat} {st : Fin n → St} {vv : Fin n → V} (h : PartsOk w S x n st vv) (hk : x.k = 4 ∨ x.k = 5 ∨ x.k = 6 ∨ x.xs = []) : (List.finRange n).map st = stepsT x := by
  apply List.ext_getElem
  · simp [stepsT_len, h.1]
  · intro i h1 h2
    have hi : i < n := by simpa using h1
    simp only [List.getElem_map, List.getElem_finRange, stepsT, List.getElem_range]
    obtain ⟨-, a4, a5, a6⟩ := h.2 ⟨i, hi⟩
    rcases hk with hk | hk | hk | hk
    · simpa [stepAt, hk] using a4 hk
    · simpa [stepAt, hk] using a5 hk
    · simpa [stepAt, hk] using a6 hk
    · have := h.1; rw [hk] at this; simp at this; omega
/-- Steps in new memory. -/
def StsOut (w : World) (l : List St) (e : Ending) (w' : World) : Prop := ∃ v, e = .returned v ∧ w'.ownsRow w.heap.size 48 3 v l.length (eSt.fl l) ∧ Below w.heap.size w w'
set_option maxRecDepth 100000 in
set_option maxHeartbeats 4000000 in
theorem steps_any (x : T) (v : V) (S : Nat → Prop) (w : World) (hn : x.nodes ≤ 16384) (hk : x.k = 4 ∨ x.k = 5 ∨ x.k = 6 ∨ x.xs = []) (he : ∀ W, Below w.heap.size w W → EachAt W (fun k => S k ∧ k < w.heap.size) x v) :
    Calls Tryz.prog 85 #[v.a] w (StsOut w (stepsT x)) := by
  have HE := Lib.hid he
  have HN : Hid (x.xs.length ≤ 16384) := Lib.hid (by have := x.nodes_eq; have := len_nodesL x.xs; omega)
  have HK := Lib.hid hk
  clear he hn hk
  have hva : v.a = .agg v.l.toArray := rfl
  obtain ⟨sk, si, st, kd, vec, seed, bits, n, dic, bel, mor⟩ := v
  clear hva
  simp only [V.a]
  go_enter Tryz.func85, Tryz.ntmps85
  go_wp2_with fail
  refine calls_at fun W hW => ?_
  obtain ⟨hB, hz, -, HO⟩ := boxes2 hW
  have HZ := Lib.hid hz
  clear hW
  obtain ⟨m, stp, vv, hp, heach⟩ := HE.out W hB
  have hm' : m ≤ 16384 := by have := HN.out; have := hp.1; omega
  have HP := Lib.hid (parts_steps hp HK.out)
  have HM := Lib.hid hp.1
  refine (heach 132 #[.pointer (some ⟨w.heap.size + 1, 0, none⟩)] (fun pre W1 => AppJ eSt 46 48 w W.heap.size (w.heap.size + 1) (pre.map stp) W1)
    (enters_of Tryz.func132 (by kernel_rfl) rfl) (fun pre A B row hs hg hr => app_stay hs (by omega) (by omega) hg hr) ⟨_, HO, World.ownsRow_nil _ _ _ _, hB⟩ (fun pre y W1 hJ hlt h3 => ?_)).mono ?_
  · refine (steps1_any w W.heap.size (w.heap.size + 1) (stp y) (vv y) _ W1 hJ (by omega) (by omega) h3 (by simp; omega)).mono ?_
    rintro e W3 ⟨⟨u, rfl⟩, hJ3, hL⟩
    exact ⟨⟨_, rfl⟩, by simpa using hJ3, hL _ (fun b hb => by have := hb.2; omega)⟩
  · rintro e W3 ⟨⟨u, rfl⟩, v3, hg3, ho3, hb3⟩
    rw [HP.out] at ho3
    have HG3 := Lib.hid hg3
    have HO3 := Lib.hid ho3
    have HB3 := Lib.hid hb3
    have c0 := hg3.cell 0
    simp only [List.getElem?_toArray, List.getElem?_cons_zero] at c0
    clear hg3 ho3 hb3 hp heach hB HO HE
    go_wp2_with fail
    go_ret
    exact ⟨_, rfl, ⟨HO3.out.1, HO3.out.2.imp id fun ⟨g, cap, cur, e1, e2, r⟩ => ⟨g, cap, cur, e1, by have := HZ.out; omega, r⟩⟩, HB3.out⟩
theorem own_emptyS (w : World) : (w.alloc (.cells #[] 48)).ownsRow w.heap.size 48 3 (.slice (some ⟨w.heap.size, 0, none⟩) 0 0) 0 [] :=
  ⟨rfl, .inr ⟨w.heap.size, 0, #[], rfl, Nat.le_refl _, Blk.new _ _ _, Nat.le_refl _, Nat.zero_le _, rfl, rfl⟩⟩
set_option maxRecDepth 100000 in
set_option maxHeartbeats 2000000 in
theorem clones_some (l : List St) (ad : Addr) (c : Nat) (w : World) (S : Nat → Prop) (hr : Reads w S 3 (some ad) l.length (eSt.fl l)) (hn : l.length ≤ 65536) :
    Calls Tryz.prog 84 #[.slice (some ad) l.length c] w (StsOut w l) := by
  have HR := Lib.hid hr
  have hnil : ∀ W : World, (binOp .eql 46 (.slice (some ad) l.length c) (.slice none 0 0)).run Tryz.prog W = .ok (.bool false) W := fun _ => rfl
  clear hr
  go_enter Tryz.func84, Tryz.ntmps84
  go_wp2_with (at_builtin; refine wpList_app elSt rfl rfl (base := w.heap.size) (n := 0) (xs := []) (v := .slice (some ⟨w.heap.size, 0, none⟩) 0 0) (own_emptyS w) rfl (w0 := w) ((Below.refl _ _).alloc (Nat.le_refl _) _) (HR.out.keeps (.of_below ((Below.refl _ _).alloc (Nat.le_refl _) _))) rfl (eSt.fl_one l) (by omega) (by decide) (by simp) ?_; intro v w1 HO HB HG)
  go_ret
  exact ⟨_, rfl, by simpa using HO.out, HB.out⟩
set_option maxRecDepth 100000 in
set_option maxHeartbeats 2000000 in
theorem clones_nil (w : World) : Calls Tryz.prog 84 #[.slice none 0 0] w (StsOut w []) := by
  have hnil : ∀ W : World, (binOp .eql 46 (.slice none 0 0) (.slice none 0 0)).run Tryz.prog W = .ok (.bool true) W := fun _ => rfl
  go_enter Tryz.func84, Tryz.ntmps84
  go_wp2
  go_ret
  exact ⟨_, rfl, World.ownsRow_nil _ _ _ _, Below.refl _ _⟩
/-- A slice of steps, nil or not. -/
def StsIn (w : World) (S : Nat → Prop) (l : List St) (A : Option Addr) (c : Nat) : Prop := (A = none → c = 0) ∧ l.length ≤ c ∧ Reads w S 3 A l.length (eSt.fl l)
theorem clones_any (l : List St) (A : Option Addr) (c : Nat) (w : World) (S : Nat → Prop) (h : StsIn w S l A c) (hn : l.length ≤ 65536) :
    Calls Tryz.prog 84 #[.slice A l.length c] w (StsOut w l) := by
  obtain ⟨h1, h2, h3⟩ := h
  cases A with
  | some ad => exact clones_some l ad c w S h3 hn
  | none =>
    obtain rfl := h1 rfl
    have hl : l = [] := List.length_eq_zero_iff.1 (Nat.le_zero.1 h2)
    subst hl
    exact clones_nil w
end Go.Proofs.YtfcegalckjeafaaGreatDoor
namespace Go.Proofs.YtfcegalckjeafaaGreatDoor
open Go.RowKit Go.BigFrame Go.Shelf
/-- A slice's header. -/
structure Hd where
  A : Option Addr
  n : Nat
  c : Nat
def Hd.v (h : Hd) : Value := .slice h.A h.n h.c
def eH : Enc Hd := ⟨fun h => [h.v], 1, fun _ => rfl, fun s u hu => by
  simp only [List.mem_cons, List.not_mem_nil, or_false] at hu
  subst hu; rfl⟩
theorem elH : El 31 46 1 24 := El.mk' (z := .slice none 0 0) Tryz.underlying31 (by kernel_rfl) rfl (by decide)
/-- Addresses under way, each in memory of its own; P: what is not theirs. -/
def AllJ (w0 : World) (B g : Nat) (P : Nat → Prop) (l : List (List St)) (W : World) : Prop := ∃ (v : Value) (hs : List Hd),
  hs.length = l.length ∧ Blk W g 31 #[v] ∧ W.ownsRow B 46 1 v l.length (eH.fl hs) ∧
  (∀ (i : Nat) (h : Hd) (a : List St), hs[i]? = some h → l[i]? = some a → W.ownsRow B 48 3 h.v a.length (eSt.fl a)) ∧
  (∀ (i j : Nat) (h h' : Hd) (b : Nat), hs[i]? = some h → hs[j]? = some h' → h.v.ownBlock = some b → h'.v.ownBlock = some b → i = j) ∧
  (∀ (i : Nat) (h : Hd) (b : Nat), hs[i]? = some h → h.v.ownBlock = some b → b ≠ g ∧ v.ownBlock ≠ some b ∧ ¬ P b) ∧ (∀ b, v.ownBlock = some b → b ≠ g ∧ ¬ P b) ∧ ¬ P g ∧ (∀ b, P b → b < W.heap.size) ∧ Below w0.heap.size w0 W
section
variable {w0 W W' : World} {B g : Nat} {P Q : Nat → Prop} {l : List (List St)}
theorem AllJ.less (h : AllJ w0 B g P l W) (hQ : ∀ b, Q b → P b) : AllJ w0 B g Q l W := by
  obtain ⟨v, hs, h1, h2, h3, h4, h5, h6, h7, h8, h9, h10⟩ := h
  exact ⟨v, hs, h1, h2, h3, h4, h5, fun i h b hi hb => ⟨(h6 i h b hi hb).1, (h6 i h b hi hb).2.1, fun hq => (h6 i h b hi hb).2.2 (hQ b hq)⟩, fun b hb => ⟨(h7 b hb).1, fun hq => (h7 b hb).2 (hQ b hq)⟩, fun hq => h8 (hQ g hq), fun b hb => h9 b (hQ b hb), h10⟩
theorem AllJ.own_at (h : AllJ w0 B g P l W) : ∀ b, P b → b < W.heap.size := h.choose_spec.choose_spec.2.2.2.2.2.2.2.2.1
theorem AllJ.below (h : AllJ w0 B g P l W) : Below w0.heap.size w0 W := h.choose_spec.choose_spec.2.2.2.2.2.2.2.2.2
theorem AllJ.more (h : AllJ w0 B g P l W) (hb : Below W.heap.size W W') : AllJ w0 B g (fun b => P b ∨ W.heap.size ≤ b ∧ b < W'.heap.size) l W' := by
  obtain ⟨v, hs, h1, h2, h3, h4, h5, h6, h7, h8, h9, h10⟩ := h
  refine ⟨v, hs, h1, h2.below hb h2.lt, own_below h3 hb, fun i h a hi ha => own_below (h4 i h a hi ha) hb, h5, fun i h b hi hb' => ⟨(h6 i h b hi hb').1, (h6 i h b hi hb').2.1, ?_⟩, fun b hb' => ⟨(h7 b hb').1, ?_⟩, ?_, ?_, h10.trans (hb.mono h10.size)⟩
  · rintro (hp | hp)
    · exact (h6 i h b hi hb').2.2 hp
    · have hil : i < l.length := by rw [← h1]; exact (List.getElem?_eq_some_iff.1 hi).1
      have := own_lt (h4 i h _ hi (List.getElem?_eq_getElem hil)) hb'; omega
  · rintro (hp | hp)
    · exact (h7 b hb').2 hp
    · have := own_lt h3 hb'; omega
  · rintro (hp | hp)
    · exact h8 hp
    · have := h2.lt; omega
  · rintro b (hp | hp)
    · have := h9 b hp; have := hb.size; omega
    · exact hp.2
end
theorem fl_single (h : Hd) : eH.fl [h] = [h.v] := by simp [Enc.fl, eH]
set_option maxRecDepth 100000 in
set_option maxHeartbeats 2000000 in
theorem all1_any (w0 : World) (B g : Nat) (P : Nat → Prop) (l : List (List St)) (a : List St) (v : Value) (w : World) (hJ : AllJ w0 B g P l w) (h0 : w0.heap.size ≤ g) (hB0 : w0.heap.size ≤ B) (hBw : B ≤ w.heap.size) (hn : l.length ≤ 100000)
    (ho : w.ownsRow B 48 3 v a.length (eSt.fl a)) (hp : ∀ b, v.ownBlock = some b → P b) :
    Calls Tryz.prog 45 #[v, .pointer (some ⟨g, 0, none⟩)] w fun e W' => (∃ u, e = .returned u) ∧ AllJ w0 B g (fun b => P b ∧ some b ≠ v.ownBlock) (l ++ [a]) W' ∧ Kp P w W' := by
  obtain ⟨hv, hs, q1, q2, q3, q4, q5, q6, q7, q8, q9, q10⟩ := hJ
  obtain ⟨A1, c1, rfl, -⟩ := own_shape q3
  obtain ⟨A2, c2, rfl, -⟩ := own_shape ho
  have HG := Lib.hid q2
  have HV := Lib.hid q3
  have gl := q2.lt
  have g0 : w.cell? ⟨g, 0, none⟩ = some (.slice A1 l.length c1) := q2.cell 0
  have f0 := q2.frozen 0
  have HOV := Lib.hid ho
  have HPV := Lib.hid hp
  have H1 := Lib.hid q1
  have H4 := Lib.hid q4
  have H5 := Lib.hid q5
  have H6 := Lib.hid q6
  have H7 := Lib.hid q7
  have H8 := Lib.hid q8
  have H9 := Lib.hid q9
  have H10 := Lib.hid q10
  have HBW := Lib.hid hBw
  have HHH := Lib.hid (show w0.heap.size ≤ g ∧ w0.heap.size ≤ B from ⟨h0, hB0⟩)
  clear q1 q2 q3 q4 q5 q6 q7 q8 q9 q10 ho hp hBw h0 hB0
  go_enter Tryz.func45, Tryz.ntmps45
  go_wp2_with (first
    | (at_builtin; refine wpList_app3 elH (o := ⟨some 6, _, _, _, _, _⟩) rfl rfl (n := l.length) (own_below HV.out ((Below.refl _ _).alloc (Nat.le_refl _) _)) rfl (reads_one w 46 (.slice A2 a.length c2)) rfl (by simp [Value.oneCell']) (by omega) (by decide) (by have := HBW.out; simp; omega) ?_; intro v5 w5 HO5 HG5 HK5; obtain ⟨A5, c5, rfl, -⟩ := own_shape HO5.out; have HG5' := Lib.hid (show World.grownBy _ w5 (Value.slice A1 l.length c1).ownBlock from HG5.out); have HK5' := Lib.hid (show (Value.slice A5 (l.length + 1) c5).ownBlock = (Value.slice A1 l.length c1).ownBlock ∨ (Value.slice A5 (l.length + 1) c5).ownBlock = some (w.alloc (.cells #[.slice A2 a.length c2] 46)).heap.size from HK5.out); have G5 := Lib.hid ((HG.out.below ((Below.refl w.heap.size w).alloc (Nat.le_refl _) (.cells #[.slice A2 a.length c2] 46)) gl).grown HG5'.out (fun e => (H7.out g e.symm).1 rfl)); have q0 : w5.cell? ⟨g, 0, none⟩ = some (.slice A1 l.length c1) := G5.out.cell 0; have q1 := G5.out.frozen 0; clear HG5 HK5 g0 f0)
    | fail)
  have HFIN : Hid (AllJ w0 B g (fun b => P b ∧ some b ≠ (Value.slice A2 a.length c2).ownBlock) (l ++ [a]) (w5.setCell ⟨g, 0, none⟩ (.slice A5 (l.length + 1) c5)) ∧ Kp P w (w5.setCell ⟨g, 0, none⟩ (.slice A5 (l.length + 1) c5))) := by
    have hB4 : Below w.heap.size w (w.alloc (.cells #[.slice A2 a.length c2] 46)) := (Below.refl w.heap.size w).alloc (Nat.le_refl _) _
    have hz4 : (w.alloc (.cells #[.slice A2 a.length c2] 46)).heap.size = w.heap.size + 1 := by simp
    have hv1 : ∀ b, (Value.slice A1 l.length c1).ownBlock = some b → B ≤ b ∧ b < w.heap.size ∧ b ≠ g ∧ ¬ P b := fun b e => ⟨own_base HV.out e, own_lt HV.out e, (H7.out b e).1, (H7.out b e).2⟩
    have hv2 : ∀ b, (Value.slice A2 a.length c2).ownBlock = some b → b < w.heap.size ∧ P b := fun b e => ⟨own_lt HOV.out e, HPV.out b e⟩
    have hC : Chg (fun b => b = g ∨ some b = (Value.slice A1 l.length c1).ownBlock) w (w5.setCell ⟨g, 0, none⟩ (.slice A5 (l.length + 1) c5)) := (Chg.of_below hB4).trans ((Chg.of_grown (F := fun b => b = g ∨ some b = (Value.slice A1 l.length c1).ownBlock) HG5'.out (fun j e => .inr e.symm)).trans (Chg.of_grown (F := fun b => b = g) (chg_set w5 g 0 _) (fun j e => (Option.some.inj e).symm)) (fun _ _ h => .inl h)) (fun _ _ h => h)
    have h8 := H8.out
    have hk5 : ∀ b, (Value.slice A5 (l.length + 1) c5).ownBlock = some b → (Value.slice A1 l.length c1).ownBlock = some b ∨ b = w.heap.size + 1 := fun b e => by
      rcases HK5'.out with h | h
      · exact .inl (h ▸ e)
      · rw [h, hz4] at e; exact .inr (Option.some.inj e).symm
    have hP : ∀ b, P b → b < w.heap.size ∧ b ≠ g ∧ (Value.slice A1 l.length c1).ownBlock ≠ some b := fun b hb => ⟨H9.out b hb, fun e => h8 (e ▸ hb), fun e => (hv1 b e).2.2.2 hb⟩
    have hold : ∀ b, b < w.heap.size → b ≠ g → (Value.slice A1 l.length c1).ownBlock ≠ some b → ¬ (b = g ∨ some b = (Value.slice A1 l.length c1).ownBlock) := fun b _ h1 h2 h => by
      rcases h with h | h
      · exact h1 h
      · exact h2 h.symm
    refine ⟨⟨.slice A5 (l.length + 1) c5, hs ++ [(⟨A2, a.length, c2⟩ : Hd)], by simp [H1.out], by simpa using G5.out.set_ 0 (.slice A5 (l.length + 1) c5), ?_, ?_, ?_, ?_, ?_, fun h => h8 h.1, fun b hb => Nat.lt_of_lt_of_le (hP b hb.1).1 hC.size, hC.below H10.out H10.out.size ?_⟩, hC.size, hC.keeps fun b hb hp => hold b hb (hP b hp).2.1 (hP b hp).2.2⟩
    · rw [List.length_append, eH.fl_app, fl_single]
      exact (Chg.of_grown (F := fun b => b = g) (chg_set w5 g 0 _) (fun j e => (Option.some.inj e).symm)).own HO5.out (fun j e h => by
        rcases hk5 j e with h' | h'
        · exact (hv1 j h').2.2.1 h
        · omega)
    · intro i h x hi hx
      rw [List.getElem?_append] at hi hx
      rw [H1.out] at hi
      by_cases hil : i < l.length
      · rw [if_pos hil] at hi hx
        exact hC.own (H4.out i h x hi hx) (fun j e => hold j (own_lt (H4.out i h x hi hx) e) (H6.out i h j hi e).1 (H6.out i h j hi e).2.1)
      · rw [if_neg hil] at hi hx
        have hi0 : i - l.length = 0 := by have := (List.getElem?_eq_some_iff.1 hx).1; simp at this; omega
        rw [hi0] at hi hx
        simp at hi hx
        subst hi hx
        exact hC.own HOV.out (fun j e => hold j (hv2 j e).1 (hP j (hv2 j e).2).2.1 (hP j (hv2 j e).2).2.2)
    · intro i j h h' b hi hj e e'
      rw [List.getElem?_append, H1.out] at hi hj
      by_cases hil : i < l.length
      · rw [if_pos hil] at hi
        by_cases hjl : j < l.length
        · rw [if_pos hjl] at hj
          exact H5.out i j h h' b hi hj e e'
        · rw [if_neg hjl] at hj
          have hj0 : j - l.length = 0 := by have := (List.getElem?_eq_some_iff.1 hj).1; simp at this; omega
          rw [hj0] at hj
          simp at hj
          subst hj
          exact absurd (hv2 b e').2 (H6.out i h b hi e).2.2
      · rw [if_neg hil] at hi
        have hi0 : i - l.length = 0 := by have := (List.getElem?_eq_some_iff.1 hi).1; simp at this; omega
        by_cases hjl : j < l.length
        · rw [if_pos hjl] at hj
          rw [hi0] at hi
          simp at hi
          subst hi
          exact absurd (hv2 b e).2 (H6.out j h' b hj e').2.2
        · rw [if_neg hjl] at hj
          have hj0 : j - l.length = 0 := by have := (List.getElem?_eq_some_iff.1 hj).1; simp at this; omega
          omega
    · intro i h b hi e
      rw [List.getElem?_append, H1.out] at hi
      by_cases hil : i < l.length
      · rw [if_pos hil] at hi
        obtain ⟨r1, r2, r3⟩ := H6.out i h b hi e
        have hbl := own_lt (H4.out i h _ hi (List.getElem?_eq_getElem hil)) e
        exact ⟨r1, fun e' => by rcases hk5 b e' with h' | h'; exact r2 h'; omega, fun h' => r3 h'.1⟩
      · rw [if_neg hil] at hi
        have hi0 : i - l.length = 0 := by have := (List.getElem?_eq_some_iff.1 hi).1; simp at this; omega
        rw [hi0] at hi
        simp at hi
        subst hi
        obtain ⟨r1, r2, r3⟩ := hP b (hv2 b e).2
        exact ⟨r2, fun e' => by rcases hk5 b e' with h' | h'; exact r3 h'; omega, fun h' => h'.2 e.symm⟩
    · intro b e
      rcases hk5 b e with h' | h'
      · exact ⟨(hv1 b h').2.2.1, fun h => (hv1 b h').2.2.2 h.1⟩
      · exact ⟨by omega, fun h => by have := (hP b h.1).1; omega⟩
    · have := HHH.out
      rintro b (h | h)
      · omega
      · have := (hv1 b h.symm).1; omega
  clear HO5 HG5' HK5' G5
  go_end0
  exact ⟨⟨_, rfl⟩, HFIN.out⟩
end Go.Proofs.YtfcegalckjeafaaGreatDoor
