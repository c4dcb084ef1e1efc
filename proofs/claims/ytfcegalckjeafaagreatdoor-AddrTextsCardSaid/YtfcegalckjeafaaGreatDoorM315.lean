/-
  Parts of the proof that AddrBegins,AddrTexts calls on: Sr, Ti.
-/
import Derived.Test.YtfcegalckjeafaaGreatDoorM306
import Derived.Test.YtfcegalckjeafaaGreatDoorM307
namespace Go.Proofs.YtfcegalckjeafaaGreatDoor
open Go
section
variable {P : Program} {ops : Array Oper} {Q : Exit → Act → World → Prop} {md : Region.Mode} {S : World → Prop} {T T' : Act → World → Prop} {n g : Nat}
def listedOf : List Nat → Array Bool → Array Bool
  | [], l => l
  | i :: r, l => listedOf r (l.setIfInBounds i true)
def preB (md : Region.Mode) (ops : Array Oper) (n : Nat) : List Nat → Array Bool → Bool
  | [], _ => true
  | i :: r, l => takeB md ops n l i && preB md ops n r (l.setIfInBounds i true)
theorem wpAnyT_pre (hst : htB md ops n = true) (hQ : ∀ c a d v w, Q (.panic c) (Act.put a d v) w → Q (.panic c) a w) (m : Nat) : ∀ (r : List Nat) (listed : Array Bool) (a : Act) (w : World), preB md ops n r listed = true → S w → wpSq P ops Q S T (r.map (·, true)) a w →
    (∀ a w, S w → T a w → wpAnyT P md ops Q S n g T' m (listedOf r listed) a w) → wpAnyT P md ops Q S n g T' (m + r.length) listed a w
  | [], _, a, w, _, hS, h, hT => hT a w hS h
  | i :: r, listed, a, w, ho, hS, h, hT => by
    simp only [preB, Bool.and_eq_true] at ho
    obtain ⟨o, v, h1, h2, h3⟩ := h
    exact wpAnyT_take i hst h1 ho.1 (fun c a w h => hQ c a _ _ w h) h2 hS (wpAnyT_pre hst hQ m r _ _ _ ho.2 hS h3 hT)
/-- Both orders. -/
def wpBoth (P : Program) (ops : Array Oper) (Q : Exit → Act → World → Prop) (S : World → Prop) (T : Act → World → Prop) (i j : Nat) (r1 r2 : List (Nat × Bool)) (a : Act) (w : World) : Prop :=
  wpSq P ops Q S T ((i, false) :: r1) a w ∧ wpSq P ops Q S T ((j, false) :: r2) a w
theorem wpAnyT_both (hst : htB md ops n = true) (hQ : ∀ c a d v w, Q (.panic c) (Act.put a d v) w → Q (.panic c) a w) (i j : Nat) (r1 r2 : List (Nat × Bool)) (listed : Array Bool) (a : Act) (w : World) (hl : r1.length = r2.length)
    (hr : ((Region.ready md ops listed == [i, j]) && (decide (i < n) && decide (j < n)) && ordB md ops n g r1 (listed.setIfInBounds i true) && ordB md ops n g r2 (listed.setIfInBounds j true)) = true)
    (h : wpBoth P ops Q S T i j r1 r2 a w) : wpAnyT P md ops Q S n g T (r1.length + 1) listed a w := by
  simp only [Bool.and_eq_true, beq_iff_eq] at hr
  obtain ⟨⟨⟨h1, h2⟩, h3⟩, h4⟩ := hr
  obtain ⟨⟨o, ho, hk⟩, ⟨o', ho', hk'⟩⟩ := h
  refine wpAnyT_two i j h1 (by simpa using h2) ho ho' (fun K' hK => hk K' ?_) (fun K' hK => hk' K' ?_)
  · have hK' := hK.out
    exact fun a w hS hW => hK' a w hS fun hS => wpAnyT_sq hst hQ r1 _ _ _ h3 hS (hW hS)
  · have hK' := hK.out
    exact fun a w hS hW => hK' a w hS fun hS => by rw [hl]; exact wpAnyT_sq hst hQ r2 _ _ _ h4 hS (hW hS)
/-- The beginning. -/
theorem wp_region_both {id : Nat} {l : List Oper} {a : Act} {w : World} (n : Nat) (r : List Nat) (i j : Nat) (r1 r2 : List (Nat × Bool)) (S : World → Prop) (hm : P.follows .mixedOrders = true)
    (hst : (htB .any l.toArray n && preB .any l.toArray n r (Array.replicate l.length false) && decide (r1.length + 1 + r.length = n) && decide (r1.length = r2.length)) = true)
    (hrd : ((Region.ready .any l.toArray (listedOf r (Array.replicate l.length false)) == [i, j]) && (decide (i < n) && decide (j < n)) && ordB .any l.toArray n (l.length - n) r1 ((listedOf r (Array.replicate l.length false)).setIfInBounds i true) && ordB .any l.toArray n (l.length - n) r2 ((listedOf r (Array.replicate l.length false)).setIfInBounds j true)) = true) (hS : S w.drew)
    (h : S w.drew → wpSq P l.toArray (NoPanic Q) S (fun a w => S w ∧ wpBoth P l.toArray (NoPanic Q) S (fun a w => wpList P l.toArray (NoPanic Q) (l.drop n) a w) i j r1 r2 a w) (r.map (·, true)) a w.drew) : (Code.region id l.toArray true).wp P Q a w := by
  refine wp_region_noPanic ?_
  simp only [Bool.and_eq_true, decide_eq_true_eq] at hst
  obtain ⟨⟨⟨h1, h2⟩, h3⟩, h4⟩ := hst
  refine wp_region_ht n S hm h1 hS fun hst' hS' => ?_
  have := wpAnyT_pre (T' := fun a w => wpList P l.toArray (NoPanic Q) (l.drop n) a w) (g := l.length - n) hst' (fun _ _ _ _ _ h => h) (r1.length + 1) r (Array.replicate l.length false) a w.drew h2 hS' (h hS')
    (fun a w _ hT => wpAnyT_both hst' (fun _ _ _ _ _ h => h) i j r1 r2 _ a w h4 hrd hT.2)
  rwa [h3] at this
end
end Go.Proofs.YtfcegalckjeafaaGreatDoor
namespace Go.Proofs.YtfcegalckjeafaaGreatDoor
open Go.RowKit Go.BigFrame
/-- The token of a text in quotes. -/
def textTok (l : List UInt8) (p : Nat) : Tok ⊕ (Nat × Int) := match unqL l with
  | .inl r => .inl ⟨4, p, (p + r.2 : Nat), 0, r.1⟩
  | .inr r => .inr (p + r.1, r.2)
theorem bytes_ext (s : ByteArray) (p : Nat) : bytes (s.extract p s.size) = (bytes s).drop p := by
  show (s.extract p s.size).data.toList = _
  rw [Lib.extract_data, List.take_of_length_le (by rw [List.length_drop]; show s.data.toList.length - p ≤ _; rw [← Lib.size_eq]; exact Nat.le_refl _)]
theorem ext_size (s : ByteArray) (p : Nat) : (s.extract p s.size).size = s.size - p := by
  rw [← bytes_len, bytes_ext, List.length_drop, bytes_len]
theorem unqB_err : ∀ (n : Nat) (l : List UInt8) (p : Nat) (r : Nat × Int), l.length ≤ n → unqB l p = .inr r → (r.2 = 10 ∨ r.2 = 2) ∧ r.1 ≤ p + l.length
  | _, [], p, r, _, h => by simp [unqB] at h; subst h; simp
  | 0, c :: t, _, _, h, _ => by simp at h
  | n + 1, c :: t, p, r, hn, h => by
    unfold unqB at h
    have key : ∀ (x : UInt8) (t' : List UInt8) (k : Nat), t'.length + k ≤ (c :: t).length → 0 < k → consU x (unqB t' (p + k)) = .inr r → (r.2 = 10 ∨ r.2 = 2) ∧ r.1 ≤ p + (c :: t).length := fun x t' k hk h0 h => by
      cases hu : unqB t' (p + k) with
      | inl q => rw [hu] at h; simp [consU] at h
      | inr q =>
        rw [hu] at h
        simp [consU] at h
        subst h
        have := unqB_err n t' (p + k) q (by simp at hn hk; omega) hu
        exact ⟨this.1, by have := this.2; simp at hk ⊢; omega⟩
    split at h
    · cases h
    split at h
    · cases h; simp
    split at h
    · exact key _ _ _ (by simp) (by omega) h
    split at h
    · cases h; simp
    split at h
    · split at h
      · cases h; simp
      split at h
      · cases h; simp
      split at h
      · cases h; simp
      split at h
      · cases h; simp
      exact key _ _ _ (by simp) (by omega) h
    · split at h
      · cases h; simp
      exact key _ _ _ (by simp) (by omega) h
theorem unqL_err {l : List UInt8} {r : Nat × Int} (h : unqL l = .inr r) : (r.2 = 10 ∨ r.2 = 2) ∧ r.1 ≤ l.length := by
  cases l with
  | nil => simp [unqL] at h; subst h; simp
  | cons c t =>
    rw [unqL] at h
    split at h
    · have := unqB_err _ t 1 r (Nat.le_refl _) h
      exact ⟨this.1, by have := this.2; simp; omega⟩
    · cases h; simp
set_option maxRecDepth 100000 in
set_option maxHeartbeats 4000000 in
theorem text_any2 (s : ByteArray) (p : Nat) (w : World) (hp : p ≤ s.size) (hs : s.size ≤ 8388608) : Calls Tryz.prog 93 #[.string s, .int .i64 p] w (NextOut (textTok ((bytes s).drop p) p) w) := by
  have hq := fun W => unq_any (s.extract p s.size) W (by rw [ext_size]; omega)
  rw [bytes_ext] at hq
  have hpi : (p : Int) ≤ (s.size : Int) := by omega
  have hpn : p ≤ s.size := hp
  cases hu : unqL ((bytes s).drop p) with
  | inl r =>
    rw [hu] at hq
    obtain ⟨r1, r2⟩ := r
    have hle := unqL_le _ _ hu
    rw [List.length_drop, bytes_len] at hle
    simp only at hle
    have hR : Hid (textTok ((bytes s).drop p) p = .inl ⟨4, p, (p + r2 : Nat), 0, r1⟩) := Lib.hid (by rw [textTok, hu])
    rw [hR.out]
    have HQ : Hid (∀ W, Calls Tryz.prog 144 #[.string (s.extract p s.size)] W fun e w' => e = .returned (.tuple #[.string ⟨r1.toArray⟩, .int .i64 r2, .int .i64 0]) ∧ Below W.heap.size W w') := Lib.hid hq
    have hi2 : (r2 : Int) ≤ 8388608 := by omega
    clear hq hu hR hle
    go_enter Tryz.func93, Tryz.ntmps93
    go_wp2_with fail
    refine (HQ.out _).mono ?_
    rintro e w1 ⟨rfl, hb⟩
    have hB0 := (Below.refl w.heap.size w).alloc (Nat.le_refl _) (.cells (Tok.l Tok.z).toArray 93)
    have HO := Lib.hid ((Blk.new w 93 (Tok.l Tok.z).toArray).below hb (Blk.new w 93 (Tok.l Tok.z).toArray).lt)
    have HB := Lib.hid (hB0.trans (hb.mono hB0.size))
    clear hb hB0
    go_wp2_with (refine wpList_stE (E := eTk) rfl rfl infoTk rfl ⟨4, p, (p + r2 : Nat), 0, r1⟩ HO.out rfl rfl ?_; intro w8 HR8 ho8 hB8)
    exact ret_ct (p := 4) (u := 5) rfl rfl rfl HR8.out (by kernel_rfl) rfl ⟨hB8 _ _ HB.out (Nat.le_refl _), rfl⟩
  | inr r =>
    rw [hu] at hq
    obtain ⟨r1, r2⟩ := r
    have hle := unqL_err hu
    rw [List.length_drop, bytes_len] at hle
    simp only at hle
    have hR : Hid (textTok ((bytes s).drop p) p = .inr (p + r1, r2)) := Lib.hid (by rw [textTok, hu])
    rw [hR.out]
    have HQ : Hid (∀ W, Calls Tryz.prog 144 #[.string (s.extract p s.size)] W fun e w' => e = .returned (.tuple #[.string ⟨#[]⟩, .int .i64 r1, .int .i64 r2]) ∧ Below W.heap.size W w') := Lib.hid hq
    have hi2 : (r1 : Int) ≤ 8388608 := by omega
    have hne : (r2 == 0) = false := by simp; omega
    have hn0 : r2 ≠ 0 := by omega
    clear hq hu hR hle
    go_enter Tryz.func93, Tryz.ntmps93
    go_wp2_with fail
    refine (HQ.out _).mono ?_
    rintro e w1 ⟨rfl, hb⟩
    have hB0 := (Below.refl w.heap.size w).alloc (Nat.le_refl _) (.cells (Tok.l Tok.z).toArray 93)
    have HO := Lib.hid ((Blk.new w 93 (Tok.l Tok.z).toArray).below hb (Blk.new w 93 (Tok.l Tok.z).toArray).lt)
    have HB := Lib.hid (hB0.trans (hb.mono hB0.size))
    clear hb hB0
    go_wp2_with fail
    refine (new_err r2 _ w1 hn0).mono ?_
    rintro e w9 ⟨v, rfl, hv, hb⟩
    have HV := Lib.hid hv
    have HB9 := Lib.hid (HB.out.trans (hb.mono HB.out.size))
    have HO9 := Lib.hid (HO.out.below hb HO.out.lt)
    clear hv hb HB HO
    go_wp2_with (refine wpList_stE (E := eTk) rfl rfl infoTk rfl Tok.z HO9.out rfl rfl ?_; intro w8 HR8 ho8 hB8)
    refine ret_ct (p := 4) (u := 5) rfl rfl rfl HR8.out (by kernel_rfl) rfl ⟨hB8 _ _ HB9.out (Nat.le_refl _), ?_⟩
    obtain ⟨h1, b, h2, h3⟩ := HV.out
    refine ⟨v, rfl, h1, b, h2, (ho8 b (fun e => ?_)).trans h3⟩
    rw [e] at h3
    exact absurd (blk_type h3 HO9.out) (by decide)
end Go.Proofs.YtfcegalckjeafaaGreatDoor
