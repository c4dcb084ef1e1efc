/-
  Parts of the proof that AddrTold,AddrBegins calls on: Tm.
-/
import Derived.Test.YtfcegalckjeafaaGreatDoorM124
namespace Go.Proofs.YtfcegalckjeafaaGreatDoor
open Go.RowKit Go.BigFrame
theorem elSt : El 46 48 3 32 := El.mk' (z := .agg #[.int .i64 0, .int .i64 0, .string ⟨#[]⟩]) Tryz.underlying46 (by kernel_rfl) rfl (by decide)
theorem signL_le {l : List UInt8} {p a : Nat} {x : List UInt8} (hp : p ≤ l.length) (h : signL l p x = .inl a) : p ≤ a ∧ a ≤ l.length := by
  rw [signL] at h
  cases hnx : nextL l p with
  | inr r => rw [hnx] at h; cases h
  | inl t =>
    rw [hnx] at h
    have := nextL_le l p hp t hnx
    simp only at h
    split at h
    · cases h; omega
    · cases h
theorem stepL_le {l o : List UInt8} {p a : Nat} {x : St} (hp : p ≤ l.length) (h : stepL l o p = .inl (x, a)) : p ≤ a ∧ a ≤ l.length := by
  rw [stepL] at h
  cases hnx : nextL l p with
  | inr r => rw [hnx] at h; cases h
  | inl t =>
    rw [hnx] at h
    have h1 := nextL_le l p hp t hnx
    simp only at h
    split at h
    · cases h
    · cases hsg : signL l t.e.toNat (endL o) with
      | inr r => rw [hsg] at h; cases h
      | inl b =>
        rw [hsg] at h
        cases h
        have := signL_le (by omega) hsg
        omega
theorem reads_one_St (w : World) (K I : Int) (T : List UInt8) : Reads (w.alloc (.cells #[.int .i64 K, .int .i64 I, .string ⟨T.toArray⟩] 48)) (fun j => j = w.heap.size) 3 (some ⟨w.heap.size, 0, none⟩) [(⟨K, I, T⟩ : St)].length (eSt.fl [⟨K, I, T⟩]) := ⟨rfl, fun _ => ⟨_, rfl, rfl, fun j x hj => by
  have := (Blk.new w 48 #[.int .i64 K, .int .i64 I, .string ⟨T.toArray⟩]).cell j
  rw [addr_plain, this, ← hj]
  exact List.getElem?_toArray⟩⟩
theorem goL_succ (s : List UInt8) (n p : Nat) (acc : List St) : goL s (n + 1) p acc = match nextL s p with
    | .inr r => .inr r
    | .inl t => if t.k = 0 then .inl acc else if t.k = 1 ∧ (t.t = [91] ∨ t.t = [60]) then
        (match stepL s t.t t.e.toNat with
        | .inr r => .inr r
        | .inl x => goL s n x.2 (acc ++ [x.1])) else .inr (wrongL s t) := rfl
/-- Steps, or an error. -/
def PRes (B : Nat) (R : List St ⊕ (Nat × Int)) (v ev : Value) (w : World) : Prop := match R with
  | .inl l => ev = .nilIface ∧ ∃ A c, v = .slice A l.length c ∧ l.length ≤ c ∧ Reads w (fun k => B ≤ k) 3 A l.length (eSt.fl l)
  | .inr r => v = .slice none 0 0 ∧ ErrAt w ev r.1 r.2
def POut (R : List St ⊕ (Nat × Int)) (w : World) (e : Ending) (w' : World) : Prop := ∃ v ev, e = .returned (.tuple #[v, ev]) ∧ Below w.heap.size w w' ∧ PRes w.heap.size R v ev w'
def nilM (v : Value) (n : Nat) : Nat := match v with | .nilIface => n | _ => 0
set_option maxRecDepth 100000 in
set_option maxHeartbeats 8000000 in
theorem aparse_any (s : ByteArray) (w : World) (hs : s.size ≤ 8388608) (hT : SgT w) (hg : 0 < w.heap.size) :
    Calls Tryz.prog 19 #[.string s] w (POut (addrL (bytes s)) w) := by
  obtain ⟨R, hR⟩ : ∃ R, R = addrL (bytes s) := ⟨_, rfl⟩
  rw [← hR]
  have HT := Lib.hid hT
  have HR := Lib.hid hR
  clear hT hR
  go_enter Tryz.func19, Tryz.ntmps19
  go_wp2_with fail
  refine (asign_any s ⟨#[36]⟩ 0 w (Nat.zero_le _) hs HT.out hg).mono ?_
  rintro e w1 ⟨n1, v1, rfl, hb1, hres⟩
  have HS : Hid ((v1 = .nilIface ∧ ∃ p : Nat, n1 = p ∧ p ≤ s.size ∧ goL (bytes s) (s.size + 1) p [] = R) ∨ (∃ r, R = .inr r ∧ ErrAt w1 v1 r.1 r.2)) := Lib.hid (by
    have h36 : bytes ⟨#[36]⟩ = [36] := rfl
    rw [h36] at hres
    cases hsg : signL (bytes s) 0 [36] with
    | inl a =>
      rw [hsg] at hres
      refine .inl ⟨hres.2, a, hres.1, ?_, by rw [HR.out, addrL, hsg, bytes_len]⟩
      rw [signL] at hsg
      cases hnx : nextL (bytes s) 0 with
      | inr r => rw [hnx] at hsg; cases hsg
      | inl t =>
        rw [hnx] at hsg
        have := nextL_le (bytes s) 0 (Nat.zero_le _) t hnx
        rw [bytes_len] at this
        simp only at hsg
        split at hsg
        · cases hsg; omega
        · cases hsg
    | inr r =>
      rw [hsg] at hres
      exact .inr ⟨r, by rw [HR.out, addrL, hsg], hres⟩)
  have HB1 := Lib.hid hb1
  clear hb1 hres
  go_wp2_with fail
  go_loopw [4, 5, 6] (fun a ev v wr => ∃ (q : Int) (acc : List St), a = .int .i64 q ∧ Hid (wr.ownsRow w.heap.size 48 3 v acc.length (eSt.fl acc)) ∧ Hid (Below w.heap.size w wr) ∧
    ((ev = .nilIface ∧ ∃ (p n : Nat), q = p ∧ p ≤ s.size ∧ s.size - p < n ∧ acc.length ≤ p ∧ Hid (goL (bytes s) n p acc = R)) ∨ (∃ b c d, ev = .iface 152 (.pointer (some ⟨b, 0, none⟩)) ∧ Hid (R = .inr (c, d)) ∧ Hid (ErrAt wr (.iface 152 (.pointer (some ⟨b, 0, none⟩))) c d)))) (fun a ev _ _ => nilM ev (s.size + 1 - (intOf a).toNat))
  case atStart =>
    refine ⟨n1, [], rfl, World.ownsRow_nil _ _ _ _, HB1.out, ?_⟩
    rcases HS.out with ⟨rfl, p, rfl, hp, hgo⟩ | ⟨r, hr, h1, b, rfl, hb⟩
    · exact .inl ⟨rfl, p, s.size + 1, rfl, hp, by omega, Nat.zero_le _, hgo⟩
    · exact .inr ⟨b, r.1, r.2, rfl, hr, h1, b, rfl, hb⟩
  case round =>
    obtain ⟨q, acc, rfl, hO, hB, hrel | ⟨b, c, d, rfl, hRr, hE⟩⟩ := hrel
    · obtain ⟨rfl, p, n, rfl, hp, hn, hal, hgo⟩ := hrel
      have HTr := Lib.hid (HT.out.below hB.out hg)
      have hgr : 0 < wr.heap.size := Nat.lt_of_lt_of_le hg hB.out.size
      obtain ⟨A, cp, rfl, hcap⟩ := own_shape hO.out
      obtain ⟨m, rfl⟩ : ∃ m, n = m + 1 := ⟨n - 1, by omega⟩
      have hgo' := hgo.out
      rw [goL_succ] at hgo'
      clear hgo
      go_wp2_with fail
      refine calls_at fun W hW => ?_
      obtain ⟨hBW, hzW, HTk⟩ := boxes1 hW
      have hWs : wr.heap.size < W.heap.size := by omega
      clear hW
      refine (next_any s p W hp hs (HTr.out.below hBW hgr) (Nat.lt_of_lt_of_le hgr hBW.size)).mono ?_
      rintro e w2 hno
      cases hnx : nextL (bytes s) p with
      | inr r =>
        rw [hnx] at hgo' hno
        have hRX : Hid (R = .inr r) := Lib.hid hgo'.symm
        obtain ⟨hb2, v, rfl, hv⟩ := hno
        obtain ⟨hv1, b, rfl, hbk⟩ := hv
        have HO2 := Lib.hid (HTk.below hb2 HTk.lt)
        have HB2 := Lib.hid (hBW.trans (hb2.mono hBW.size))
        have HE2 : Hid (ErrAt w2 (.iface 152 (.pointer (some ⟨b, 0, none⟩))) r.1 r.2) := Lib.hid ⟨hv1, b, rfl, hbk⟩
        clear hb2 hbk hBW HTk hnx hgo'
        go_wp2_with (first
          | (refine wpList_stE (E := eTk) (o := ⟨none, .store 93 (.tmp 7) _, _, _, _, _⟩) rfl rfl infoTk rfl Tok.z HO2.out rfl rfl ?_; intro w3 HR3 ho3 hB3)
          | fail)
        go_ret2
        refine ⟨_, _, rfl, hB3 _ _ (hB.out.trans (HB2.out.mono hB.out.size)) hB.out.size, ?_⟩
        rw [hRX.out]
        exact ⟨rfl, ErrAt.far_ HE2.out ho3 HO2.out (by decide)⟩
      | inl t =>
        rw [hnx] at hgo' hno
        have hle := nextL_le (bytes s) p (by rw [bytes_len]; exact hp) t hnx
        rw [bytes_len] at hle
        obtain ⟨tk, ta, te, ti, tt⟩ := t
        simp only at hgo' hle
        obtain ⟨hle0, hle1, hle2, hle3, hle4⟩ := hle
        obtain ⟨te, rfl⟩ := Int.eq_ofNat_of_zero_le (show 0 ≤ te by omega)
        rw [Int.toNat_natCast] at hgo'
        have hts : te ≤ s.size := by omega
        have hta : 0 ≤ ta := by omega
        obtain ⟨hb2, rfl⟩ := hno
        have HO2 := Lib.hid (HTk.below hb2 HTk.lt)
        have HB2 := Lib.hid (hBW.trans (hb2.mono hBW.size))
        have HGO := Lib.hid hgo'
        clear hb2 hBW HTk hnx hgo'
        simp only [Tok.v]
        by_cases hk0 : tk = 0
        · subst hk0
          have hRX : Hid (R = .inl acc) := Lib.hid (by have := HGO.out; rw [if_pos rfl] at this; exact this.symm)
          go_wp2_with (first | (refine wpList_stE (E := eTk) (o := ⟨none, .store 93 (.tmp 7) _, _, _, _, _⟩) rfl rfl infoTk rfl ⟨0, ta, te, ti, tt⟩ HO2.out rfl rfl ?_; intro w3 HR3 ho3 hB3; have q0 : w3.cell? ⟨wr.heap.size, 0, none⟩ = some (.int .i64 0) := Blk.cell HR3.out 0; have q1 : w3.cell? ⟨wr.heap.size, 1, none⟩ = some (.int .i64 ta) := Blk.cell HR3.out 1; have q2 : w3.cell? ⟨wr.heap.size, 2, none⟩ = some (.int .i64 (te : Int)) := Blk.cell HR3.out 2; have q3 : w3.cell? ⟨wr.heap.size, 3, none⟩ = some (.int .i64 ti) := Blk.cell HR3.out 3; have q4 : w3.cell? ⟨wr.heap.size, 4, none⟩ = some (.string ⟨tt.toArray⟩) := Blk.cell HR3.out 4; have hqlt : wr.heap.size < w3.heap.size := Blk.lt HR3.out) | fail)
          have HW3 := Lib.hid (hB3 _ _ HB2.out (Nat.le_refl _))
          go_ret2
          refine ⟨_, _, rfl, hB.out.trans (HW3.out.mono hB.out.size), ?_⟩
          rw [hRX.out]
          exact ⟨rfl, A, cp, rfl, hcap, (Reads.of_own (own_below hO.out HW3.out)).more (fun _ h => h.1)⟩
        have n0 : (tk == 0) = false := by simpa using hk0
        have HGO1 := HGO.out
        rw [if_neg hk0] at HGO1
        by_cases hk1 : tk = 1
        · subst hk1
          by_cases h91 : tt = [91]
          · subst h91
            have hf : Hid (R = match stepL (bytes s) [91] te with | .inr r => .inr r | .inl x => goL (bytes s) m x.2 (acc ++ [x.1])) := Lib.hid (by rw [← HGO.out]; simp)
            go_wp2_with (first | (refine wpList_stE (E := eTk) (o := ⟨none, .store 93 (.tmp 7) _, _, _, _, _⟩) rfl rfl infoTk rfl ⟨1, ta, te, ti, [91]⟩ HO2.out rfl rfl ?_; intro w3 HR3 ho3 hB3; have q0 : w3.cell? ⟨wr.heap.size, 0, none⟩ = some (.int .i64 1) := Blk.cell HR3.out 0; have q1 : w3.cell? ⟨wr.heap.size, 1, none⟩ = some (.int .i64 ta) := Blk.cell HR3.out 1; have q2 : w3.cell? ⟨wr.heap.size, 2, none⟩ = some (.int .i64 (te : Int)) := Blk.cell HR3.out 2; have q3 : w3.cell? ⟨wr.heap.size, 3, none⟩ = some (.int .i64 ti) := Blk.cell HR3.out 3; have q4 : w3.cell? ⟨wr.heap.size, 4, none⟩ = some (.string ⟨#[91]⟩) := Blk.cell HR3.out 4; have hqlt : wr.heap.size < w3.heap.size := Blk.lt HR3.out) | fail)
            have HW3 := Lib.hid (hB3 _ _ HB2.out (Nat.le_refl _))
            have HO3 := Lib.hid (own_below hO.out HW3.out)
            have HB3 := Lib.hid (hB.out.trans (HW3.out.mono hB.out.size))
            refine calls_at fun W5 hW5 => ?_
            obtain ⟨hB5, hz5, HXk⟩ := boxes1 hW5
            clear hW5
            have hx5 := hB5.size
            refine (astep_any s ⟨1, ta, te, ti, [91]⟩ W5 (by simp) (by show (0 : Int) ≤ (te : Int); omega) (by show (te : Int) ≤ _; omega) hs (HTr.out.below (HW3.out.trans (hB5.mono HW3.out.size)) hgr) (Nat.lt_of_lt_of_le hgr (Nat.le_trans HW3.out.size hB5.size))).mono ?_
            rintro e w6 ⟨x, n6, v6, rfl, hb6, hres⟩
            obtain ⟨K, I, T⟩ := x
            simp only [Int.toNat_natCast] at hres
            have hb36 := hB5.trans (hb6.mono hB5.size)
            have HX6 := Lib.hid (HXk.below hb6 HXk.lt)
            have HO6 := Lib.hid (own_below HO3.out hb36)
            have HB6 := Lib.hid (HB3.out.trans (hb36.mono HB3.out.size))
            have hxl : w3.heap.size < w6.heap.size := HX6.out.lt
            have hw36 := HB3.out.size
            have HB36 := Lib.hid hb36
            clear hB5 hb6 hb36 HXk hz5 hx5
            simp only [St.v]
            cases hst : stepL (bytes s) [91] te with
            | inr r =>
              rw [hst] at hres
              have hRX : Hid (R = .inr r) := Lib.hid (by rw [hf.out, hst])
              obtain ⟨hv1, b, rfl, hbk⟩ := hres
              have HBK := Lib.hid hbk
              clear hbk hst
              go_wp2_with (first
                | (refine wpList_stE (E := eSt) (o := ⟨none, .store 48 (.tmp 8) _, _, _, _, _⟩) rfl rfl infoSt rfl ⟨K, I, T⟩ HX6.out rfl rfl ?_; intro w7 HR7 ho7 hB7)
                | fail)
              have hB77 := hB7 _ _ HB6.out (by omega)
              have hO7 := own_below HO3.out (hB7 _ _ HB36.out (Nat.le_refl _))
              go_roundw
              case rel => exact ⟨n6, acc, rfl, hO7, hB77, .inr ⟨b, r.1, r.2, rfl, hRX, ErrAt.far_ (a := r.1) (c := r.2) ⟨hv1, b, rfl, HBK.out⟩ ho7 HX6.out (by decide)⟩⟩
              case measure => simp [nilM, intOf]; omega
            | inl xa =>
              rw [hst] at hres
              obtain ⟨hx, hn6, rfl⟩ := hres
              obtain ⟨xs, a⟩ := xa
              simp only at hx hn6
              subst hx hn6
              have hsl := stepL_le (by rw [bytes_len]; exact hts) hst
              rw [bytes_len] at hsl
              have hgn : Hid (goL (bytes s) m a (acc ++ [⟨K, I, T⟩]) = R) := Lib.hid (by rw [hf.out, hst])
              clear hst
              go_wp2_with (first
                | (refine wpList_stE (E := eSt) (o := ⟨none, .store 48 (.tmp 8) _, _, _, _, _⟩) rfl rfl infoSt rfl ⟨K, I, T⟩ HX6.out rfl rfl ?_; intro w7 HR7 ho7 hB7; have y0 : w7.cell? ⟨w3.heap.size, 0, none⟩ = some (.int .i64 K) := Blk.cell HR7.out 0; have y1 : w7.cell? ⟨w3.heap.size, 1, none⟩ = some (.int .i64 I) := Blk.cell HR7.out 1; have y2 : w7.cell? ⟨w3.heap.size, 2, none⟩ = some (.string ⟨T.toArray⟩) := Blk.cell HR7.out 2; have hO7 := own_below HO3.out (hB7 _ _ HB36.out (Nat.le_refl _)); have hB77 := hB7 _ _ HB6.out (by omega); have hs7 : w.heap.size ≤ w7.heap.size := hB77.size)
                | (at_builtin; refine wpList_app elSt (o := ⟨some 56, _, _, _, _, _⟩) rfl rfl (n := acc.length) (World.ownsRow.alloc hO7 _) rfl (w0 := w) (hB77.alloc hs7 _) (reads_one_St w7 K I T) rfl (eSt.fl_one _) (by simp; omega) (by decide) (by simp; omega) ?_; intro v9 w9 HO9 HB9 HG9)
                | fail)
              go_roundw
              case rel => exact ⟨a, acc ++ [⟨K, I, T⟩], rfl, by rw [List.length_append, Enc.fl_app]; exact HO9, HB9, .inl ⟨rfl, a, m, rfl, hsl.2, by omega, by simp; omega, hgn⟩⟩
              case measure => simp [nilM, intOf]; omega
          by_cases h60 : tt = [60]
          · subst h60
            have hf : Hid (R = match stepL (bytes s) [60] te with | .inr r => .inr r | .inl x => goL (bytes s) m x.2 (acc ++ [x.1])) := Lib.hid (by rw [← HGO.out]; simp)
            go_wp2_with (first | (refine wpList_stE (E := eTk) (o := ⟨none, .store 93 (.tmp 7) _, _, _, _, _⟩) rfl rfl infoTk rfl ⟨1, ta, te, ti, [60]⟩ HO2.out rfl rfl ?_; intro w3 HR3 ho3 hB3; have q0 : w3.cell? ⟨wr.heap.size, 0, none⟩ = some (.int .i64 1) := Blk.cell HR3.out 0; have q1 : w3.cell? ⟨wr.heap.size, 1, none⟩ = some (.int .i64 ta) := Blk.cell HR3.out 1; have q2 : w3.cell? ⟨wr.heap.size, 2, none⟩ = some (.int .i64 (te : Int)) := Blk.cell HR3.out 2; have q3 : w3.cell? ⟨wr.heap.size, 3, none⟩ = some (.int .i64 ti) := Blk.cell HR3.out 3; have q4 : w3.cell? ⟨wr.heap.size, 4, none⟩ = some (.string ⟨#[60]⟩) := Blk.cell HR3.out 4; have hqlt : wr.heap.size < w3.heap.size := Blk.lt HR3.out) | fail)
            have HW3 := Lib.hid (hB3 _ _ HB2.out (Nat.le_refl _))
            have HO3 := Lib.hid (own_below hO.out HW3.out)
            have HB3 := Lib.hid (hB.out.trans (HW3.out.mono hB.out.size))
            refine calls_at fun W5 hW5 => ?_
            obtain ⟨hB5, hz5, HXk⟩ := boxes1 hW5
            clear hW5
            have hx5 := hB5.size
            refine (astep_any s ⟨1, ta, te, ti, [60]⟩ W5 (by simp) (by show (0 : Int) ≤ (te : Int); omega) (by show (te : Int) ≤ _; omega) hs (HTr.out.below (HW3.out.trans (hB5.mono HW3.out.size)) hgr) (Nat.lt_of_lt_of_le hgr (Nat.le_trans HW3.out.size hB5.size))).mono ?_
            rintro e w6 ⟨x, n6, v6, rfl, hb6, hres⟩
            obtain ⟨K, I, T⟩ := x
            simp only [Int.toNat_natCast] at hres
            have hb36 := hB5.trans (hb6.mono hB5.size)
            have HX6 := Lib.hid (HXk.below hb6 HXk.lt)
            have HO6 := Lib.hid (own_below HO3.out hb36)
            have HB6 := Lib.hid (HB3.out.trans (hb36.mono HB3.out.size))
            have hxl : w3.heap.size < w6.heap.size := HX6.out.lt
            have hw36 := HB3.out.size
            have HB36 := Lib.hid hb36
            clear hB5 hb6 hb36 HXk hz5 hx5
            simp only [St.v]
            cases hst : stepL (bytes s) [60] te with
            | inr r =>
              rw [hst] at hres
              have hRX : Hid (R = .inr r) := Lib.hid (by rw [hf.out, hst])
              obtain ⟨hv1, b, rfl, hbk⟩ := hres
              have HBK := Lib.hid hbk
              clear hbk hst
              go_wp2_with (first
                | (refine wpList_stE (E := eSt) (o := ⟨none, .store 48 (.tmp 8) _, _, _, _, _⟩) rfl rfl infoSt rfl ⟨K, I, T⟩ HX6.out rfl rfl ?_; intro w7 HR7 ho7 hB7)
                | fail)
              have hB77 := hB7 _ _ HB6.out (by omega)
              have hO7 := own_below HO3.out (hB7 _ _ HB36.out (Nat.le_refl _))
              go_roundw
              case rel => exact ⟨n6, acc, rfl, hO7, hB77, .inr ⟨b, r.1, r.2, rfl, hRX, ErrAt.far_ (a := r.1) (c := r.2) ⟨hv1, b, rfl, HBK.out⟩ ho7 HX6.out (by decide)⟩⟩
              case measure => simp [nilM, intOf]; omega
            | inl xa =>
              rw [hst] at hres
              obtain ⟨hx, hn6, rfl⟩ := hres
              obtain ⟨xs, a⟩ := xa
              simp only at hx hn6
              subst hx hn6
              have hsl := stepL_le (by rw [bytes_len]; exact hts) hst
              rw [bytes_len] at hsl
              have hgn : Hid (goL (bytes s) m a (acc ++ [⟨K, I, T⟩]) = R) := Lib.hid (by rw [hf.out, hst])
              clear hst
              go_wp2_with (first
                | (refine wpList_stE (E := eSt) (o := ⟨none, .store 48 (.tmp 8) _, _, _, _, _⟩) rfl rfl infoSt rfl ⟨K, I, T⟩ HX6.out rfl rfl ?_; intro w7 HR7 ho7 hB7; have y0 : w7.cell? ⟨w3.heap.size, 0, none⟩ = some (.int .i64 K) := Blk.cell HR7.out 0; have y1 : w7.cell? ⟨w3.heap.size, 1, none⟩ = some (.int .i64 I) := Blk.cell HR7.out 1; have y2 : w7.cell? ⟨w3.heap.size, 2, none⟩ = some (.string ⟨T.toArray⟩) := Blk.cell HR7.out 2; have hO7 := own_below HO3.out (hB7 _ _ HB36.out (Nat.le_refl _)); have hB77 := hB7 _ _ HB6.out (by omega); have hs7 : w.heap.size ≤ w7.heap.size := hB77.size)
                | (at_builtin; refine wpList_app elSt (o := ⟨some 56, _, _, _, _, _⟩) rfl rfl (n := acc.length) (World.ownsRow.alloc hO7 _) rfl (w0 := w) (hB77.alloc hs7 _) (reads_one_St w7 K I T) rfl (eSt.fl_one _) (by simp; omega) (by decide) (by simp; omega) ?_; intro v9 w9 HO9 HB9 HG9)
                | fail)
              go_roundw
              case rel => exact ⟨a, acc ++ [⟨K, I, T⟩], rfl, by rw [List.length_append, Enc.fl_app]; exact HO9, HB9, .inl ⟨rfl, a, m, rfl, hsl.2, by omega, by simp; omega, hgn⟩⟩
              case measure => simp [nilM, intOf]; omega
          · have hRX : Hid (R = .inr (wrongL (bytes s) ⟨1, ta, te, ti, tt⟩)) := Lib.hid (by rw [if_neg (by rintro ⟨_, h | h⟩ <;> contradiction)] at HGO1; exact HGO1.symm)
            obtain ⟨tb, rfl⟩ : ∃ tb : ByteArray, tt = bytes tb := ⟨⟨tt.toArray⟩, rfl⟩
            have g1 : (tb.toList == [91]) = false := by rw [Lib.toList_data]; exact beq_eq_false_iff_ne.2 h91
            have g2 : (tb.toList == [60]) = false := by rw [Lib.toList_data]; exact beq_eq_false_iff_ne.2 h60
            have htb : (⟨(bytes tb).toArray⟩ : ByteArray) = tb := ba_eta tb
            rw [htb]
            clear HGO1 h91 h60 htb
            go_wp2_with (first | (refine wpList_stE (E := eTk) (o := ⟨none, .store 93 (.tmp 7) _, _, _, _, _⟩) rfl rfl infoTk rfl ⟨1, ta, te, ti, bytes tb⟩ HO2.out rfl rfl ?_; intro w3 HR3 ho3 hB3; have q0 : w3.cell? ⟨wr.heap.size, 0, none⟩ = some (.int .i64 1) := Blk.cell HR3.out 0; have q1 : w3.cell? ⟨wr.heap.size, 1, none⟩ = some (.int .i64 ta) := Blk.cell HR3.out 1; have q2 : w3.cell? ⟨wr.heap.size, 2, none⟩ = some (.int .i64 (te : Int)) := Blk.cell HR3.out 2; have q3 : w3.cell? ⟨wr.heap.size, 3, none⟩ = some (.int .i64 ti) := Blk.cell HR3.out 3; have q4 : w3.cell? ⟨wr.heap.size, 4, none⟩ = some (.string tb) := Blk.cell HR3.out 4; have hqlt : wr.heap.size < w3.heap.size := Blk.lt HR3.out) | fail)
            have HW3 := Lib.hid (hB3 _ _ HB2.out (Nat.le_refl _))
            have HO3 := Lib.hid (own_below hO.out HW3.out)
            have HB3 := Lib.hid (hB.out.trans (HW3.out.mono hB.out.size))
            have HW := Lib.hid (fun W => wrong_any s ⟨1, ta, te, ti, bytes tb⟩ W hta hs)
            simp only [Tok.v] at HW
            refine (HW.out w3).mono ?_
            rintro e w4 ⟨v, rfl, hv, hb⟩
            have HV := Lib.hid hv
            have HB4 := Lib.hid (HB3.out.trans (hb.mono HB3.out.size))
            clear hv hb
            go_wp2
            go_ret2
            refine ⟨_, _, rfl, HB4.out, ?_⟩
            rw [hRX.out]
            exact ⟨rfl, HV.out⟩
        · have hRX : Hid (R = .inr (wrongL (bytes s) ⟨tk, ta, te, ti, tt⟩)) := Lib.hid (by rw [if_neg (fun h => hk1 h.1)] at HGO1; exact HGO1.symm)
          have n1 : (tk == 1) = false := by simpa using hk1
          clear HGO1
          go_wp2_with (first | (refine wpList_stE (E := eTk) (o := ⟨none, .store 93 (.tmp 7) _, _, _, _, _⟩) rfl rfl infoTk rfl ⟨tk, ta, te, ti, tt⟩ HO2.out rfl rfl ?_; intro w3 HR3 ho3 hB3; have q0 : w3.cell? ⟨wr.heap.size, 0, none⟩ = some (.int .i64 tk) := Blk.cell HR3.out 0; have q1 : w3.cell? ⟨wr.heap.size, 1, none⟩ = some (.int .i64 ta) := Blk.cell HR3.out 1; have q2 : w3.cell? ⟨wr.heap.size, 2, none⟩ = some (.int .i64 (te : Int)) := Blk.cell HR3.out 2; have q3 : w3.cell? ⟨wr.heap.size, 3, none⟩ = some (.int .i64 ti) := Blk.cell HR3.out 3; have q4 : w3.cell? ⟨wr.heap.size, 4, none⟩ = some (.string ⟨tt.toArray⟩) := Blk.cell HR3.out 4; have hqlt : wr.heap.size < w3.heap.size := Blk.lt HR3.out) | fail)
          have HW3 := Lib.hid (hB3 _ _ HB2.out (Nat.le_refl _))
          have HO3 := Lib.hid (own_below hO.out HW3.out)
          have HB3 := Lib.hid (hB.out.trans (HW3.out.mono hB.out.size))
          have HW := Lib.hid (fun W => wrong_any s ⟨tk, ta, te, ti, tt⟩ W hta hs)
          simp only [Tok.v] at HW
          refine (HW.out w3).mono ?_
          rintro e w4 ⟨v, rfl, hv, hb⟩
          have HV := Lib.hid hv
          have HB4 := Lib.hid (HB3.out.trans (hb.mono HB3.out.size))
          clear hv hb
          go_wp2
          go_ret2
          refine ⟨_, _, rfl, HB4.out, ?_⟩
          rw [hRX.out]
          exact ⟨rfl, HV.out⟩
    · obtain ⟨A, cp, rfl, hcap⟩ := own_shape hO.out
      go_wp2
      go_ret2
      exact ⟨_, _, rfl, hB.out, by rw [hRr.out]; exact ⟨rfl, hE.out⟩⟩
end Go.Proofs.YtfcegalckjeafaaGreatDoor
