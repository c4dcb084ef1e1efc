/-
  Parts of the proof that AddrBegins,AddrTexts calls on: Tf, Sq, TxTold.
-/
import Derived.WalkKit
import Derived.WalkMore
import Derived.Test.YtfcegalckjeafaaGreatDoorM303
import Derived.Test.YtfcegalckjeafaaGreatDoorM305
namespace Go.Proofs.YtfcegalckjeafaaGreatDoor
open Go.RowKit Go.BigFrame
theorem elB : El 116 5 1 1 := El.mk' (z := .int .u8 0) Tryz.underlying116 (by kernel_rfl) rfl (by decide)
theorem pairL_ok {l : List UInt8} {p : Nat} {r : UInt8 × Nat} (h : pairL l p = .inl r) : r.2 = p + 2 ∧ 2 ≤ l.length := by
  unfold pairL at h
  split at h
  · cases h
  split at h
  · cases h
  split at h
  · cases h
  split at h
  · cases h
  cases h
  simp
theorem pairL_err {l : List UInt8} {p : Nat} {r : Nat × Int} (h : pairL l p = .inr r) : r.2 = 10 ∨ r.2 = 2 := by
  unfold pairL at h
  split at h
  · cases h; simp
  split at h
  · cases h; simp
  split at h
  · cases h; simp
  split at h
  · cases h; simp
  cases h
theorem unq_x (t : List UInt8) (p : Nat) : unqB (92 :: 120 :: t) p = match pairL t (p + 2) with | .inr r => .inr r | .inl r => consU r.1 (unqB (t.drop 2) (p + 4)) := by
  rw [unqB.eq_def]
  simp only [show (92 : UInt8) ≠ 34 by decide, if_false, show ¬ ((92 : UInt8).toNat < 32) by decide, ne_eq, not_true_eq_false, if_true, pairL]
  cases t with
  | nil => rfl
  | cons a t =>
    simp only
    cases hexv a with
    | none => rfl
    | some m =>
      simp only
      cases t with
      | nil => rfl
      | cons b t =>
        simp only
        cases hexv b with
        | none => rfl
        | some n => rfl
theorem unq_by (x : UInt8) (t : List UInt8) (p : Nat) (hx : x ≠ 120) : unqB (92 :: x :: t) p = match byLet x with | none => .inr (p + 1, 2) | some y => consU y (unqB t (p + 2)) := by
  rw [unqB.eq_def]
  simp only [show (92 : UInt8) ≠ 34 by decide, if_false, show ¬ ((92 : UInt8).toNat < 32) by decide, ne_eq, not_true_eq_false, hx]
  cases byLet x <;> rfl
theorem unq_plain (c : UInt8) (t : List UInt8) (p : Nat) (h1 : c ≠ 34) (h2 : ¬ c.toNat < 32) (h3 : c ≠ 92) : unqB (c :: t) p = consU c (unqB t (p + 1)) := by
  rw [unqB.eq_def]
  simp only [h1, h2, h3, if_false, ne_eq, not_false_eq_true, if_true]
def unqR : (List UInt8 × Nat) ⊕ (Nat × Int) → Value
  | .inl r => .tuple #[sv r.1, .int .i64 r.2, .int .i64 0]
  | .inr r => .tuple #[.string ⟨#[]⟩, .int .i64 r.1, .int .i64 r.2]
set_option maxRecDepth 100000 in
set_option maxHeartbeats 8000000 in
theorem unq_any (s : ByteArray) (w : World) (hs : s.size ≤ 8388608) : Calls Tryz.prog 144 #[.string s] w (VBOut w (unqR (unqL (bytes s)))) := by
  obtain ⟨R, hR⟩ : ∃ R, R = unqL (bytes s) := ⟨_, rfl⟩
  rw [← hR]
  by_cases h0 : s.toList = []
  · have he : bytes s = [] := (Lib.toList_data s).symm.trans h0
    obtain rfl : R = .inr (0, 10) := by rw [hR, he]; rfl
    clear hR he
    go_enter Tryz.func144, Tryz.ntmps144
    go_wp2
    go_step3
    go_wp2
    try rw [Exit.noGoto_ret]
    go_ret3
    exact ⟨rfl, Below.refl _ _⟩
  have hne : s.toList.isEmpty = false := by rw [Bool.eq_false_iff]; intro h; exact h0 (List.isEmpty_iff.1 h)
  have hp0 : 0 < s.size := by
    rw [← bytes_len]
    exact List.length_pos_iff.2 (fun e => h0 ((Lib.toList_data s).trans e))
  have hpi : (0 : Int) < (s.size : Int) := by omega
  by_cases h34 : (s[0].toNat : Int) = 34
  · have hE : s[0] = 34 := u8_of s[0] 34 (by decide) h34
    have hR1 : Hid (R = unqB ((bytes s).drop 1) 1) := Lib.hid (by
      have := bytes_drop s 0 hp0
      rw [List.drop_zero] at this
      rw [hR, this, hE]
      rfl)
    clear hR hE
    go_enter Tryz.func144, Tryz.ntmps144
    go_wp2
    go_step3
    go_wp2_with (first | apply wp_label | (at_make; refine wpList_mk elB rfl rfl s.size rfl rfl rfl (by omega) (by decide) ?_; intro w1 HO1 HB1 HG1; clear HG1))
    go_loopw [5, 6] (fun v i wr => ∃ (k : Nat) (acc : List UInt8), 1 ≤ k ∧ k ≤ s.size ∧ i = .int .i64 k ∧ acc.length ≤ k ∧ Hid (wr.ownsRow w.heap.size 5 1 v acc.length (acc.map bv)) ∧ Hid (Below w.heap.size w wr) ∧ Hid (withU acc (unqB ((bytes s).drop k) k) = R)) (fun _ i _ => (s.size - intOf i).toNat)
    case atStart => exact ⟨1, [], Nat.le_refl _, hp0, rfl, by simp, HO1, HB1, by rw [Hid, withU_nil]; exact hR1.out.symm⟩
    case round =>
      obtain ⟨k, acc, hk1, hk, rfl, hal, hO, hB, hU⟩ := hrel
      have hz0 := hB.out.size
      obtain ⟨A, c, rfl, hcap⟩ := own_shape hO.out
      by_cases hlt : k < s.size
      · have hd := bytes_drop s k hlt
        have hki : (k : Int) < (s.size : Int) := by omega
        have hgk : s[k] = s[k] := rfl
        by_cases c34 : (s[k].toNat : Int) = 34
        · have hE : s[k] = 34 := u8_of s[k] 34 (by decide) c34
          have hX : Hid (R = .inl (acc, k + 1)) := Lib.hid (by rw [← hU.out, hd, hE, unqB.eq_def]; simp [withU])
          have hcv := run_string_own hO.out
          clear hd hE hgk hU
          go_wp2
          try rw [Exit.noGoto_ret]
          go_ret3
          exact ⟨by rw [hX.out]; rfl, hB.out⟩
        have n34 : ((s[k].toNat : Int) == 34) = false := by simpa using c34
        have m34 : s[k] ≠ 34 := fun e => c34 (by rw [e]; rfl)
        by_cases c32 : (s[k].toNat : Int) < 32
        · have hX : Hid (R = .inr (k, 2)) := Lib.hid (by rw [← hU.out, hd, unqB.eq_def]; simp only [m34, if_false]; rw [if_pos (by omega)]; rfl)
          clear hd hgk hU m34
          go_wp2
          try rw [Exit.noGoto_ret]
          go_ret3
          exact ⟨by rw [hX.out]; rfl, hB.out⟩
        by_cases c92 : (s[k].toNat : Int) = 92
        · have hE : s[k] = 92 := u8_of s[k] 92 (by decide) c92
          rw [hE] at hd
          by_cases hlt1 : k + 1 < s.size
          · have hd1 := bytes_drop s (k + 1) hlt1
            have hki1 : (k : Int) + 1 < (s.size : Int) := by omega
            have hki2 : ¬ ((s.size : Int) ≤ (k : Int) + 1) := by omega
            have hgk1 : s[k + 1] = s[k + 1] := rfl
            by_cases c120 : (s[k + 1].toNat : Int) = 120
            · have hE1 : s[k + 1] = 120 := u8_of s[k + 1] 120 (by decide) c120
              have hP := Lib.hid (fun W => pair_any s (k + 2) W (by omega) (by omega))
              have hU' := hU.out
              rw [hd, hd1, hE1, unq_x] at hU'
              cases hpr : pairL ((bytes s).drop (k + 2)) (k + 2) with
              | inr r =>
                have he := pairL_err hpr
                rw [hpr] at hU' hP
                have hX : Hid (R = .inr r) := Lib.hid (by rw [← hU']; rfl)
                have hne0 : (r.2 == 0) = false := by simp; omega
                simp only [pairR] at hP
                have e2 : ((k + 2 : Nat) : Int) = (k : Int) + 1 + 1 := by omega
                rw [e2] at hP
                clear hd hd1 hE hE1 hgk hgk1 hU hU' hpr e2
                go_wp2_with fail
                refine (hP.out _).mono ?_
                rintro e w1 ⟨rfl, rfl⟩
                go_wp2
                try rw [Exit.noGoto_ret]
                go_ret3
                exact ⟨by rw [hX.out]; rfl, hB.out⟩
              | inl r =>
                obtain ⟨hr2, hr3⟩ := pairL_ok hpr
                rw [List.length_drop, bytes_len] at hr3
                rw [hpr] at hU' hP
                have hN : Hid (withU (acc ++ [r.1]) (unqB ((bytes s).drop (k + 4)) (k + 4)) = R) := Lib.hid (by rw [← hU', ← withU_cons]; simp only [List.drop_drop])
                simp only [pairR, hr2, bv] at hP
                have e2 : ((k + 2 : Nat) : Int) = (k : Int) + 1 + 1 := by omega
                have e3 : ((k + 2 + 2 : Nat) : Int) = (k : Int) + 1 + 1 + 2 := by omega
                rw [e2, e3] at hP
                clear hd hd1 hE hE1 hgk hgk1 hU hU' hpr e2 e3
                go_wp2_with fail
                refine (hP.out _).mono ?_
                rintro e w1 ⟨rfl, rfl⟩
                go_wp2_with (first | (at_builtin; refine wpList_app elB rfl rfl (n := acc.length) (World.ownsRow.alloc hO.out _) rfl (w0 := w) (hB.out.alloc hz0 _) (reads_new w1 5 [bv r.1]) rfl (by simp [bv, Value.oneCell']) (by simp; omega) (by decide) (by simp; omega) ?_; intro v9 w9 HO9 HB9 HG9; clear HG9) | fail)
                go_roundw
                case rel => exact ⟨k + 4, acc ++ [r.1], by omega, by omega, by go_num, by simp; omega, by simpa [bv] using HO9, HB9, hN⟩
                case measure => simp [intOf]; omega
            · have n120 : ((s[k + 1].toNat : Int) == 120) = false := by simpa using c120
              have m120 : s[k + 1] ≠ 120 := fun e => c120 (by rw [e]; rfl)
              have hY := Lib.hid (fun W => byLetter_any s[k + 1] W)
              have hU' := hU.out
              rw [hd, hd1, unq_by _ _ _ m120] at hU'
              cases hby : byLet s[k + 1] with
              | none =>
                rw [hby] at hU'
                have hX : Hid (R = .inr (k + 1, 2)) := Lib.hid (by rw [← hU']; rfl)
                have hy : byR s[k + 1] = .tuple #[.int .u8 0, .bool false] := by rw [byR, hby]
                rw [hy] at hY
                simp only [bv] at hY
                clear hd hd1 hE hgk hgk1 hU hU' hby m120 hy
                go_wp2_with fail
                refine (hY.out _).mono ?_
                rintro e w1 ⟨rfl, hb⟩
                have HB1 := Lib.hid (hB.out.trans (hb.mono hz0))
                clear hb
                go_wp2
                try rw [Exit.noGoto_ret]
                go_ret3
                exact ⟨by rw [hX.out]; rfl, HB1.out⟩
              | some y =>
                rw [hby] at hU'
                have hN : Hid (withU (acc ++ [y]) (unqB ((bytes s).drop (k + 2)) (k + 2)) = R) := Lib.hid (by rw [← hU', ← withU_cons])
                have hy : byR s[k + 1] = .tuple #[bv y, .bool true] := by rw [byR, hby]
                rw [hy] at hY
                simp only [bv] at hY
                clear hd hd1 hE hgk hgk1 hU hU' hby m120 hy
                go_wp2_with fail
                refine (hY.out _).mono ?_
                rintro e w1 ⟨rfl, hb⟩
                have hz1 : w.heap.size ≤ w1.heap.size := Nat.le_trans hz0 hb.size
                go_wp2_with (first | (at_builtin; refine wpList_app elB rfl rfl (n := acc.length) (World.ownsRow.alloc (own_below hO.out hb) _) rfl (w0 := w) ((hB.out.trans (hb.mono hz0)).alloc hz1 _) (reads_new w1 5 [bv y]) rfl (by simp [bv, Value.oneCell']) (by simp; omega) (by decide) (by simp; omega) ?_; intro v9 w9 HO9 HB9 HG9; clear HG9) | fail)
                go_roundw
                case rel => exact ⟨k + 2, acc ++ [y], by omega, by omega, by go_num, by simp; omega, by simpa [bv] using HO9, HB9, hN⟩
                case measure => simp [intOf]; omega
          · have hX : Hid (R = .inr (s.size, 10)) := Lib.hid (by
              have he : (bytes s).drop (k + 1) = [] := List.drop_of_length_le (by rw [bytes_len]; omega)
              have hk' : s.size = k + 1 := by omega
              rw [← hU.out, hd, he, unqB.eq_def, hk']
              simp [withU])
            have hki2 : (s.size : Int) ≤ (k : Int) + 1 := by omega
            clear hd hE hgk hU
            go_wp2
            try rw [Exit.noGoto_ret]
            go_ret3
            exact ⟨by rw [hX.out]; rfl, hB.out⟩
        · have n92 : ((s[k].toNat : Int) == 92) = false := by simpa using c92
          have m92 : s[k] ≠ 92 := fun e => c92 (by rw [e]; rfl)
          have hN : Hid (withU (acc ++ [s[k]]) (unqB ((bytes s).drop (k + 1)) (k + 1)) = R) := Lib.hid (by rw [← hU.out, hd, unq_plain _ _ _ m34 (by omega) m92, withU_cons])
          clear hd hgk hU m34 m92
          go_wp2_with (first | (at_builtin; refine wpList_app elB rfl rfl (n := acc.length) (World.ownsRow.alloc hO.out _) rfl (w0 := w) (hB.out.alloc hz0 _) (reads_new wr 5 [bv s[k]]) rfl (by simp [bv, Value.oneCell']) (by simp; omega) (by decide) (by simp; omega) ?_; intro v9 w9 HO9 HB9 HG9; clear HG9) | fail)
          go_roundw
          case rel => exact ⟨k + 1, acc ++ [s[k]], by omega, by omega, by go_num, by simp; omega, by simpa [bv] using HO9, HB9, hN⟩
          case measure => simp [intOf]; omega
      · have hX : Hid (R = .inr (s.size, 10)) := Lib.hid (by
          have he : (bytes s).drop k = [] := List.drop_of_length_le (by rw [bytes_len]; omega)
          have hk' : k = s.size := by omega
          rw [← hU.out, he, hk']; rfl)
        clear hU
        go_wp2
        try rw [Exit.noGoto_ret]
        go_ret3
        exact ⟨by rw [hX.out]; rfl, hB.out⟩
  · have n34 : ((s[0].toNat : Int) == 34) = false := by simpa using h34
    obtain rfl : R = .inr (0, 2) := by
      have := bytes_drop s 0 hp0
      rw [List.drop_zero] at this
      rw [hR, this, unqL, if_neg (fun e => h34 (by rw [e]; rfl))]
    clear hR
    go_enter Tryz.func144, Tryz.ntmps144
    go_wp2
    go_step3
    go_wp2
    try rw [Exit.noGoto_ret]
    go_ret3
    exact ⟨rfl, Below.refl _ _⟩
end Go.Proofs.YtfcegalckjeafaaGreatDoor
namespace Go.Proofs.YtfcegalckjeafaaGreatDoor
open Go
section
variable {P : Program} {ops : Array Oper} {Q : Exit → Act → World → Prop} {md : Region.Mode} {S : World → Prop} {T : Act → World → Prop} {n g : Nat}
/-- The order is one that may be taken. -/
def ordB (md : Region.Mode) (ops : Array Oper) (n g : Nat) : List (Nat × Bool) → Array Bool → Bool
  | [], l => Region.seqB md ops g n l
  | (i, true) :: r, l => takeB md ops n l i && ordB md ops n g r (l.setIfInBounds i true)
  | (i, false) :: r, l => (Region.ready md ops l == [i]) && decide (i < n) && ordB md ops n g r (l.setIfInBounds i true)
def wpSq (P : Program) (ops : Array Oper) (Q : Exit → Act → World → Prop) (S : World → Prop) (T : Act → World → Prop) : List (Nat × Bool) → Act → World → Prop
  | [], a, w => T a w
  | (i, true) :: r, a, w => ∃ o v, ops[i]? = some o ∧ YieldsIf P ops S o v a ∧ wpSq P ops Q S T r (a.put o.dst v) w
  | (i, false) :: r, a, w => ∃ o, ops[i]? = some o ∧ ∀ K' : Act → World → Prop, Shut (∀ a w, S w → (S w → wpSq P ops Q S T r a w) → K' a w) → if Region.wanted o (yielded ops a.tmps) = true then Oper.wp P o a w K' Q else K' (a.put o.dst undef) w
theorem wpAnyT_sq (hst : htB md ops n = true) (hQ : ∀ c a d v w, Q (.panic c) (Act.put a d v) w → Q (.panic c) a w) : ∀ (r : List (Nat × Bool)) (listed : Array Bool) (a : Act) (w : World), ordB md ops n g r listed = true → S w → wpSq P ops Q S T r a w → wpAnyT P md ops Q S n g T r.length listed a w
  | [], _, _, _, ho, _, h => wpAnyT_done ho h
  | (i, true) :: r, listed, a, w, ho, hS, h => by
    simp only [ordB, Bool.and_eq_true] at ho
    obtain ⟨o, v, h1, h2, h3⟩ := h
    exact wpAnyT_take i hst h1 ho.1 (fun c a w h => hQ c a _ _ w h) h2 hS (wpAnyT_sq hst hQ r _ _ _ ho.2 hS h3)
  | (i, false) :: r, listed, a, w, ho, hS, h => by
    simp only [ordB, Bool.and_eq_true] at ho
    obtain ⟨o, h1, h2⟩ := h
    refine wpAnyT_one i (by simpa using ho.1.1) ho.1.2 h1 fun K' hK => h2 K' ?_
    have hK' := hK.out
    exact fun a w hS hW => hK' a w hS fun hS => wpAnyT_sq hst hQ r _ _ _ ho.2 hS (hW hS)
theorem sq_t {i : Nat} {r : List (Nat × Bool)} {o : Oper} {a : Act} {w : World} {v : Value} (hi : ops[i]? = some o) (hw : Region.wanted o (yielded ops a.tmps) = true) (hy : ∀ w, S w → (execOp a.eval o).run P w = .ok (.value v) w) (h : wpSq P ops Q S T r (a.put o.dst v) w) : wpSq P ops Q S T ((i, true) :: r) a w := ⟨o, v, hi, .inl ⟨hw, hy⟩, h⟩
theorem sq_n {i : Nat} {r : List (Nat × Bool)} {o : Oper} {a : Act} {w : World} (hi : ops[i]? = some o) (hw : Region.wanted o (yielded ops a.tmps) = false) (h : wpSq P ops Q S T r (a.put o.dst undef) w) : wpSq P ops Q S T ((i, true) :: r) a w := ⟨o, undef, hi, .inr ⟨hw, rfl⟩, h⟩
theorem sq_c {i : Nat} {r : List (Nat × Bool)} {o : Oper} {a : Act} {w : World} (hi : ops[i]? = some o) (h : ∀ K' : Act → World → Prop, Shut (∀ a w, S w → (S w → wpSq P ops Q S T r a w) → K' a w) → if Region.wanted o (yielded ops a.tmps) = true then Oper.wp P o a w K' Q else K' (a.put o.dst undef) w) : wpSq P ops Q S T ((i, false) :: r) a w := ⟨o, hi, h⟩
/-- The beginning. -/
theorem wp_region_sq {id : Nat} {l : List Oper} {a : Act} {w : World} (n : Nat) (r : List (Nat × Bool)) (S : World → Prop) (hm : P.follows .mixedOrders = true) (hst : (htB .any l.toArray n && ordB .any l.toArray n (l.length - n) r (Array.replicate l.length false) && decide (r.length = n)) = true) (hS : S w.drew)
    (h : S w.drew → wpSq P l.toArray (NoPanic Q) S (fun a w => wpList P l.toArray (NoPanic Q) (l.drop n) a w) r a w.drew) : (Code.region id l.toArray true).wp P Q a w := by
  refine wp_region_noPanic ?_
  simp only [Bool.and_eq_true, decide_eq_true_eq] at hst
  refine wp_region_ht n S hm hst.1.1 hS fun hst' hS' => ?_
  have := wpAnyT_sq hst' (fun _ _ _ _ _ h => h) r (Array.replicate l.length false) a w.drew hst.1.2 hS' (h hS')
  rwa [hst.2] at this
end
end Go.Proofs.YtfcegalckjeafaaGreatDoor
namespace Go.Proofs.YtfcegalckjeafaaGreatDoor
theorem u8_all (p : UInt8 → Bool) (h : ∀ n : Fin 256, p (UInt8.ofNat n.val) = true) (c : UInt8) : p c = true := by
  have := h ⟨c.toNat, c.toNat_lt⟩
  simpa using this
theorem unq_q1 : ∀ (c : UInt8) (rest : List UInt8) (p : Nat), unqB (q1 c ++ rest) p = consU c (unqB rest (p + (q1 c).length)) := by
  intro c rest p
  by_cases h : letL c = 0
  · by_cases h2 : c.toNat < 32 ∨ 126 < c.toNat
    · have hk : (hexv (hexd (c.toNat / 16))).bind (fun m => (hexv (hexd (c.toNat % 16))).map fun n => UInt8.ofNat (16 * m + n)) = some c :=
        eq_of_beq (u8_all (fun c => (hexv (hexd (c.toNat / 16))).bind (fun m => (hexv (hexd (c.toNat % 16))).map fun n => UInt8.ofNat (16 * m + n)) == some c) (by decide +kernel) c)
      have e : q1 c = [92, 120, hexd (c.toNat / 16), hexd (c.toNat % 16)] := by unfold q1; rw [if_neg (by simp [h]), if_pos h2]
      rw [e]
      simp only [List.cons_append, List.nil_append, List.length_cons, List.length_nil]
      rw [unqB.eq_def]
      simp only [show (92 : UInt8) ≠ 34 by decide, if_false, show ¬ ((92 : UInt8).toNat < 32) by decide, ne_eq, not_true_eq_false, if_true]
      cases h1 : hexv (hexd (c.toNat / 16)) with
      | none => rw [h1] at hk; cases hk
      | some m =>
        cases h3 : hexv (hexd (c.toNat % 16)) with
        | none => rw [h1, h3] at hk; cases hk
        | some n =>
          rw [h1, h3] at hk
          simp only [Option.bind_some, Option.map_some, Option.some.injEq] at hk
          simp only [hk]
    · have e : q1 c = [c] := by unfold q1; rw [if_neg (by simp [h]), if_neg h2]
      rw [e]
      simp only [List.cons_append, List.nil_append, List.length_cons, List.length_nil]
      have h34 : c ≠ 34 := by rintro rfl; exact absurd h (by decide)
      have h92 : c ≠ 92 := by rintro rfl; exact absurd h (by decide)
      rw [unqB.eq_def]
      simp only [h34, if_false, h92, ne_eq, not_false_eq_true, if_true]
      rw [if_neg (by omega)]
  · have hk : byLet (letL c) = some c ∧ letL c ≠ 120 := by
      have := u8_all (fun c => letL c == 0 || (byLet (letL c) == some c && letL c != 120)) (by decide +kernel) c
      simpa [h] using this
    have e : q1 c = [92, letL c] := by unfold q1; rw [if_pos h]
    rw [e]
    simp only [List.cons_append, List.nil_append, List.length_cons, List.length_nil]
    rw [unqB.eq_def]
    simp only [show (92 : UInt8) ≠ 34 by decide, if_false, show ¬ ((92 : UInt8).toNat < 32) by decide, ne_eq, not_true_eq_false, hk.2, hk.1]
theorem unq_flat : ∀ (s rest : List UInt8) (p : Nat), unqB (s.flatMap q1 ++ 34 :: rest) p = .inl (s, p + (s.flatMap q1).length + 1)
  | [], rest, p => by rw [List.flatMap_nil, List.nil_append, unqB.eq_def]; simp
  | c :: s, rest, p => by
    rw [List.flatMap_cons, List.append_assoc, unq_q1, unq_flat s rest]
    simp only [consU, List.length_append]
    congr 2
    omega
theorem unq_quote (s rest : List UInt8) : unqL (quoteL s ++ rest) = .inl (s, (quoteL s).length) := by
  have h := unq_flat s rest 1
  simp only [quoteL, List.cons_append, List.append_assoc, List.nil_append, unqL, if_true, h, List.length_cons, List.length_append, List.length_nil]
  congr 2
  omega
theorem skip_none {s : List UInt8} {p : Nat} {c : UInt8} {u : List UInt8} (h : s.drop p = c :: u) (hc : blank c = false) : skipL s p = p := by
  rw [skipL, h, List.takeWhile_cons, hc]
  rfl
theorem next_tok {s : List UInt8} {p : Nat} {c : UInt8} {u : List UInt8} (h : s.drop p = c :: u) (hc : blank c = false) : nextL s p = tokL (c :: u) p := by
  rw [nextL, skip_none h hc, h]
theorem next_quote {s : List UInt8} {p : Nat} {x rest : List UInt8} (h : s.drop p = quoteL x ++ rest) : nextL s p = .inl ⟨4, p, (p + (quoteL x).length : Nat), 0, x⟩ := by
  have h' : s.drop p = 34 :: (x.flatMap q1 ++ [34] ++ rest) := by rw [h]; rfl
  rw [next_tok h' (by decide)]
  have hq := unq_quote x rest
  rw [show quoteL x ++ rest = 34 :: (x.flatMap q1 ++ [34] ++ rest) from rfl] at hq
  simp only [tokL, if_true, hq]
theorem next_one {s : List UInt8} {p : Nat} {c : UInt8} {u : List UInt8} (h : s.drop p = c :: u) (hc : c = 36 ∨ c = 91 ∨ c = 93 ∨ (c = 60 ∨ c = 62) ∧ u.head? ≠ some 61) : nextL s p = .inl ⟨1, p, (p + 1 : Nat), 0, [c]⟩ := by
  have hb : blank c = false := by rcases hc with rfl | rfl | rfl | ⟨rfl | rfl, _⟩ <;> decide
  rw [next_tok h hb]
  rcases hc with rfl | rfl | rfl | ⟨rfl | rfl, hu⟩
  · simp [tokL, letB, isDig, signsL, List.isPrefixOf]
  · simp [tokL, letB, isDig, signsL, List.isPrefixOf]
  · simp [tokL, letB, isDig, signsL, List.isPrefixOf]
  · have : List.isPrefixOf [61] u = false := by
      cases u with
      | nil => rfl
      | cons d u => simp [List.isPrefixOf] at hu ⊢; exact fun h => hu h.symm
    simp [tokL, letB, isDig, signsL, List.isPrefixOf, this]
  · have : List.isPrefixOf [61] u = false := by
      cases u with
      | nil => rfl
      | cons d u => simp [List.isPrefixOf] at hu ⊢; exact fun h => hu h.symm
    simp [tokL, letB, isDig, signsL, List.isPrefixOf, this]
/-- The number of decimal digits is the number. -/
theorem val_snoc (l : List UInt8) (b : UInt8) : valL (l ++ [b]) = 10 * valL l + (b.toNat - 48) := by simp [valL]
theorem val_ndig : ∀ (k n : Nat), n ≤ k → valL (ndig n) = n
  | k, n, h => by
    by_cases h9 : n < 10
    · rw [ndig, if_pos h9]
      simp [valL]
      omega
    · rw [ndig, if_neg h9, val_snoc]
      cases k with
      | zero => omega
      | succ k =>
        rw [val_ndig k (n / 10) (by omega)]
        have : (UInt8.ofNat (48 + n % 10)).toNat = 48 + n % 10 := UInt8.toNat_ofNat_of_lt' (by simp [UInt8.size]; omega)
        rw [this]
        omega
theorem isDig_ndig (n : Nat) : (ndig n).all isDig = true := List.all_eq_true.2 fun b hb => by
  have := ndig_dig n n (Nat.le_refl _) b hb
  simp [isDig]; omega
theorem ndig_head : ∀ (k n : Nat), n ≤ k → 10 ≤ n → (ndig n).head? ≠ some 48
  | k, n, h, h10 => by
    rw [ndig, if_neg (by omega)]
    have hp := ndig_pos (n / 10)
    have hh : (ndig (n / 10) ++ [UInt8.ofNat (48 + n % 10)]).head? = (ndig (n / 10)).head? := by
      cases e : ndig (n / 10) with
      | nil => rw [e] at hp; simp at hp
      | cons b t => rfl
    rw [hh]
    cases k with
    | zero => omega
    | succ k =>
      by_cases h9 : n / 10 < 10
      · rw [ndig, if_pos h9]
        have : (UInt8.ofNat (48 + n / 10)).toNat = 48 + n / 10 := UInt8.toNat_ofNat_of_lt' (by simp [UInt8.size]; omega)
        intro e
        have e' := congrArg UInt8.toNat (Option.some.inj e)
        rw [this, show (48 : UInt8).toNat = 48 by rfl] at e'
        omega
      · exact ndig_head k (n / 10) (by omega) (by omega)
theorem ndig_len1 (n : Nat) (h : 1 < (ndig n).length) : 10 ≤ n := by
  by_cases h9 : n < 10
  · rw [ndig, if_pos h9] at h; simp at h
  · omega
theorem ndig_zero (n : Nat) (h : (ndig n).head? = some 48) : n = 0 := by
  by_cases h9 : n < 10
  · rw [ndig, if_pos h9] at h
    have : (UInt8.ofNat (48 + n)).toNat = 48 + n := UInt8.toNat_ofNat_of_lt' (by simp [UInt8.size]; omega)
    have e' := congrArg UInt8.toNat (Option.some.inj h)
    rw [this, show (48 : UInt8).toNat = 48 by rfl] at e'
    omega
  · exact absurd h (ndig_head n n (Nat.le_refl _) (by omega))
theorem parse_dec (i : Int) (h1 : -9223372036854775808 ≤ i) (h2 : i ≤ 9223372036854775807) : parseL (decL i) = (i, 0) := by
  have hp := ndig_pos i.natAbs
  have hne : ndig i.natAbs ≠ [] := by intro e; rw [e] at hp; simp at hp
  by_cases hn : i < 0
  · rw [decL, if_pos hn]
    have e1 : negL (45 :: ndig i.natAbs) = true := by rfl
    have e2 : digsL (45 :: ndig i.natAbs) = ndig i.natAbs := by rw [digsL, e1]; rfl
    have e3 : wordL (45 :: ndig i.natAbs) = true := by
      rw [wordL, e2, isDig_ndig]
      have : (ndig i.natAbs).head? ≠ some 48 := fun e => by have := ndig_zero _ e; omega
      simp [hne, this]
    rw [parseL, e3, if_pos rfl, e1, e2, val_ndig _ _ (Nat.le_refl _), sgnN, if_pos rfl, if_neg (by omega)]
    congr 1
    omega
  · rw [decL, if_neg hn]
    have h45 : (ndig i.natAbs).head? ≠ some 45 := by
      obtain ⟨b, t, e⟩ := List.exists_cons_of_ne_nil hne
      rw [e]
      intro e'
      obtain rfl : b = 45 := by simpa using e'
      have := ndig_dig i.natAbs i.natAbs (Nat.le_refl _) 45 (by rw [e]; simp)
      exact absurd this (by decide)
    have e1 : negL (ndig i.natAbs) = false := by rw [negL]; simp [h45]
    have e2 : digsL (ndig i.natAbs) = ndig i.natAbs := by rw [digsL, e1]; rfl
    have e3 : wordL (ndig i.natAbs) = true := by
      rw [wordL, e2, isDig_ndig]
      have : ¬ ((ndig i.natAbs).head? = some 48 ∧ 1 < (ndig i.natAbs).length) := fun ⟨a, b⟩ => by have := ndig_zero _ a; have := ndig_len1 _ b; omega
      simp [hne]
      by_cases a : (ndig i.natAbs).head? = some 48
      · exact .inr (Nat.le_of_not_lt fun b => this ⟨a, b⟩)
      · exact .inl a
    rw [parseL, e3, if_pos rfl, e1, e2, val_ndig _ _ (Nat.le_refl _), sgnN, if_neg (by simp), if_neg (by omega)]
    congr 1
    omega
theorem take_digs (l : List UInt8) (rest : List UInt8) (h : l.all isDig = true) : (l ++ 93 :: rest).takeWhile isDig = l := by
  induction l with
  | nil => rfl
  | cons c l ih =>
    simp only [List.all_cons, Bool.and_eq_true] at h
    rw [List.cons_append, List.takeWhile_cons, h.1, if_pos rfl, ih h.2]
theorem isDig_tail {c : UInt8} {t : List UInt8} {n : Nat} (e : ndig n = c :: t) : isDig c = true ∧ t.all isDig = true := by
  have := isDig_ndig n
  rw [e] at this
  simpa using this
theorem next_dec {s : List UInt8} {p : Nat} {i : Int} {rest : List UInt8} (h : s.drop p = decL i ++ 93 :: rest) (h1 : -9223372036854775808 ≤ i) (h2 : i ≤ 9223372036854775807) : nextL s p = .inl ⟨3, p, (p + (decL i).length : Nat), i, []⟩ := by
  have hpd := parse_dec i h1 h2
  have notl : ∀ c : UInt8, isDig c = true → c ≠ 34 ∧ letB c false = false ∧ blank c = false := fun c hc => by
    have := u8_all (fun c => !isDig c || (c != 34 && !letB c false && !blank c)) (by decide +kernel) c
    simpa [hc, and_assoc] using this
  by_cases hn : i < 0
  · have e : decL i = 45 :: ndig i.natAbs := if_pos hn
    rw [e] at h hpd ⊢
    rw [List.cons_append] at h
    rw [next_tok h (by decide)]
    simp only [tokL, take_digs _ _ (isDig_ndig _), hpd, show (45 : UInt8) ≠ 34 by decide, if_false, show letB 45 false = false by decide, Bool.false_eq_true, true_or, if_true]
    simp only [List.length_cons]
    rw [Nat.add_assoc, Nat.add_comm 1]
  · have e : decL i = ndig i.natAbs := if_neg hn
    have hp := ndig_pos i.natAbs
    obtain ⟨c, t, e'⟩ := List.exists_cons_of_ne_nil (l := ndig i.natAbs) (by intro e; rw [e] at hp; simp at hp)
    obtain ⟨d1, d2⟩ := isDig_tail e'
    obtain ⟨n1, n2, n3⟩ := notl c d1
    rw [e, e'] at h hpd ⊢
    rw [List.cons_append] at h
    rw [next_tok h n3]
    simp only [tokL, take_digs _ _ d2, hpd, n1, if_false, n2, Bool.false_eq_true, d1, or_true, if_true]
    simp only [List.length_cons]
    rw [Nat.add_assoc, Nat.add_comm 1]
theorem drop_more {s a b : List UInt8} {p : Nat} (h : s.drop p = a ++ b) : s.drop (p + a.length) = b := by
  rw [← List.drop_drop, h, List.drop_left]
/-- Steps of the three kinds, with nothing that their kinds do not need. -/
def goodS (x : St) : Prop := (x.K = 0 ∧ x.T = [] ∨ (x.K = 1 ∨ x.K = 2) ∧ x.I = 0) ∧ -9223372036854775808 ≤ x.I ∧ x.I ≤ 9223372036854775807
theorem head_flat (l : List St) (h : ∀ x ∈ l, goodS x) : (l.flatMap stepT).head? ≠ some 61 := by
  cases l with
  | nil => simp
  | cons x l =>
    rw [List.flatMap_cons]
    obtain ⟨(⟨a, _⟩ | ⟨a | a, _⟩), _⟩ := h x (by simp) <;> simp [stepT, a]
theorem sign_one {s : List UInt8} {p : Nat} {c : UInt8} {u : List UInt8} (h : s.drop p = c :: u) (hc : c = 36 ∨ c = 91 ∨ c = 93 ∨ (c = 60 ∨ c = 62) ∧ u.head? ≠ some 61) : signL s p [c] = .inl (p + 1) := by
  rw [signL, next_one h hc]
  simp
theorem step_told {s : List UInt8} {p : Nat} {x : St} {rest : List UInt8} (hx : goodS x) (h : s.drop p = stepT x ++ rest) (hr : rest.head? ≠ some 61) :
    ∃ o u, s.drop p = o :: u ∧ nextL s p = .inl ⟨1, p, (p + 1 : Nat), 0, [o]⟩ ∧ (o = 91 ∨ o = 60) ∧ stepL s [o] (p + 1) = .inl (x, p + (stepT x).length) := by
  obtain ⟨K, I, T⟩ := x
  obtain ⟨(⟨a, b⟩ | ⟨a | a, b⟩), c1, c2⟩ := hx <;> simp only at a b c1 c2 <;> subst a b
  · have e : stepT ⟨0, I, []⟩ = 91 :: (decL I ++ [93]) := by simp [stepT]
    rw [e] at h
    have h' : s.drop p = 91 :: (decL I ++ 93 :: rest) := by rw [h]; simp
    have h1 : s.drop (p + 1) = decL I ++ 93 :: rest := drop_more (a := [91]) h'
    have h2 : s.drop (p + 1 + (decL I).length) = 93 :: rest := drop_more h1
    refine ⟨91, _, h', next_one h' (by simp), by simp, ?_⟩
    have h3 := sign_one h2 (by simp)
    have hs : saysL [91] ⟨3, (p + 1 : Nat), (p + 1 + (decL I).length : Nat), I, []⟩ = some ⟨0, I, []⟩ := by simp [saysL]
    have hE : endL [91] = [93] := by decide
    rw [stepL, next_dec h1 c1 c2]
    simp only [hs, hE, Int.toNat_natCast, h3, e, List.length_cons, List.length_append, List.length_nil]
    congr 2
    omega
  · have e : stepT ⟨1, 0, T⟩ = 91 :: (quoteL T ++ [93]) := by simp [stepT]
    rw [e] at h
    have h' : s.drop p = 91 :: (quoteL T ++ 93 :: rest) := by rw [h]; simp
    have h1 : s.drop (p + 1) = quoteL T ++ 93 :: rest := drop_more (a := [91]) h'
    have h2 : s.drop (p + 1 + (quoteL T).length) = 93 :: rest := drop_more h1
    refine ⟨91, _, h', next_one h' (by simp), by simp, ?_⟩
    have h3 := sign_one h2 (by simp)
    have hs : saysL [91] ⟨4, (p + 1 : Nat), (p + 1 + (quoteL T).length : Nat), 0, T⟩ = some ⟨1, 0, T⟩ := by simp [saysL]
    have hE : endL [91] = [93] := by decide
    rw [stepL, next_quote h1]
    simp only [hs, hE, Int.toNat_natCast, h3, e, List.length_cons, List.length_append, List.length_nil]
    congr 2
    omega
  · have e : stepT ⟨2, 0, T⟩ = 60 :: (quoteL T ++ [62]) := by simp [stepT]
    rw [e] at h
    have h' : s.drop p = 60 :: (quoteL T ++ 62 :: rest) := by rw [h]; simp
    have h1 : s.drop (p + 1) = quoteL T ++ 62 :: rest := drop_more (a := [60]) h'
    have h2 : s.drop (p + 1 + (quoteL T).length) = 62 :: rest := drop_more h1
    refine ⟨60, _, h', next_one h' (by simp [quoteL]), by simp, ?_⟩
    have h3 := sign_one h2 (.inr (.inr (.inr ⟨.inr rfl, hr⟩)))
    have hs : saysL [60] ⟨4, (p + 1 : Nat), (p + 1 + (quoteL T).length : Nat), 0, T⟩ = some ⟨2, 0, T⟩ := by simp [saysL]
    have hE : endL [60] = [62] := by decide
    rw [stepL, next_quote h1]
    simp only [hs, hE, Int.toNat_natCast, h3, e, List.length_cons, List.length_append, List.length_nil]
    congr 2
    omega
theorem next_end {s : List UInt8} {p : Nat} (h : s.drop p = []) : nextL s p = .inl ⟨0, p, p, 0, []⟩ := by
  have : skipL s p = p := by rw [skipL, h]; rfl
  rw [nextL, this, h]
  rfl
theorem go_told : ∀ (l : List St) (s : List UInt8) (n p : Nat) (acc : List St), (∀ x ∈ l, goodS x) → s.drop p = l.flatMap stepT → l.length < n → goL s n p acc = .inl (acc ++ l)
  | _, _, 0, _, _, _, _, h => by omega
  | [], s, n + 1, p, acc, _, h, _ => by
    rw [goL, next_end (by simpa using h)]
    simp
  | x :: l, s, n + 1, p, acc, hg, h, hn => by
    rw [List.flatMap_cons] at h
    have hl : ∀ y ∈ l, goodS y := fun y hy => hg y (by simp [hy])
    obtain ⟨o, u, h1, h2, h3, h4⟩ := step_told (hg x (by simp)) h (head_flat l hl)
    have h5 := drop_more h
    rw [goL, h2]
    have ho : ([o] : List UInt8) = [91] ∨ ([o] : List UInt8) = [60] := by rcases h3 with rfl | rfl <;> simp
    simp only [Int.toNat_natCast, h4, ho, and_self, if_true]
    rw [if_neg (by decide), go_told l s n _ _ hl h5 (by simp at hn; omega)]
    simp
theorem step_pos (x : St) : 0 < (stepT x).length := by unfold stepT; split <;> (try split) <;> (try split) <;> simp
theorem addr_told (l : List St) (h : ∀ x ∈ l, goodS x) : addrL (printL l) = .inl l := by
  have h0 : (printL l).drop 0 = 36 :: l.flatMap stepT := rfl
  rw [addrL, sign_one h0 (by simp)]
  have hl : l.length ≤ (l.flatMap stepT).length := by
    clear h h0
    induction l with
    | nil => simp
    | cons x l ih => have := step_pos x; rw [List.flatMap_cons, List.length_append]; simp only [List.length_cons]; omega
  have := go_told l (printL l) ((printL l).length + 1) 1 [] h rfl (by simp only [printL, List.length_cons]; omega)
  simpa using this
end Go.Proofs.YtfcegalckjeafaaGreatDoor
