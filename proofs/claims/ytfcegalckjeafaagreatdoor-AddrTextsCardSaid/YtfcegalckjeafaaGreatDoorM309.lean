/-
  Parts of the proof that AddrBegins,AddrTexts calls on: Rg, Rh, Ri, Rj, Rk, Rl, Rm, Rn.
-/
import Derived.IntWalk
import Derived.Test.YtfcegalckjeafaaGreatDoorM304
import Derived.Test.YtfcegalckjeafaaGreatDoorM306
import Derived.Test.YtfcegalckjeafaaGreatDoorM308
namespace Go.Proofs.YtfcegalckjeafaaGreatDoor
open Go.RowKit Go.BigFrame
theorem leaves_at {vs : List V} {n : Nat} (hn : Hid (vs.length = n)) (A : Option Addr) (c : Nat) (S : Nat → Prop) (w : World) (hr : Reads w S 11 A n (flat vs)) (h1 : 1 ≤ n) (h2 : n ≤ 32) (hc : n ≤ c) :
    Calls Tryz.prog 219 #[.slice A n c] w (NodesOut w S 1 vs) := by
  obtain rfl : n = vs.length := hn.out.symm
  by_cases h : vs.length ≤ 16
  · exact leaves_one A c vs S w hr h1 h hc
  · exact leaves_two A c vs S w hr (by omega) h2 hc
theorem inners_at {ks : List (List V)} {n : Nat} (hn : Hid (ks.length = n)) (A : Option Addr) (c d : Nat) (ps : List (Option Addr)) (S : Nat → Prop) (w : World) (hr : Reads w S 1 A n (ps.map .pointer)) (hk : Kids w S d ks ps) (h1 : 2 ≤ n) (h2 : n ≤ 32) (hc : n ≤ c) (hf : flen ks ≤ 65536) (hd : d ≤ 64) :
    Calls Tryz.prog 218 #[.slice A n c] w (NodesOut w S (d + 1) ks.flatten) := by
  obtain rfl : n = ks.length := hn.out.symm
  by_cases h : ks.length ≤ 16
  · exact inners_one A c d ks ps S w hr hk h1 h hc hf hd
  · exact inners_two A c d ks ps S w hr hk (by omega) h2 hc hf hd
theorem NodesOut.mono {w w1 w' : World} {S : Nat → Prop} {d : Nat} {vs : List V} {e : Ending} {B : Nat} (h : NodesOut w1 (up S B) d vs e w') (hb : Below w.heap.size w w1) (hB : w.heap.size ≤ B) : NodesOut w S d vs e w' := by
  obtain ⟨A, c, ks, ps, h1, h2, h3, h4, h5, h6, h7, h8⟩ := h
  exact ⟨A, c, ks, ps, h1, h2, h3, h4, h5.more fun _ => up2 hB hb.size, h6.more fun _ => up2 hB hb.size, h7, hb.trans (h8.mono hb.size)⟩
theorem cb {w w' : World} {p : Addr} {u : Value} (hb : Below w.heap.size w w') (h : w.cell? p = some u) : w'.cell? p = some u := cell_keeps (S := fun _ => True) h (.of_below hb) trivial
theorem flen_app (a b : List (List V)) : flen (a ++ b) = flen a + flen b := by simp [flen]
set_option maxHeartbeats 2000000 in
theorem glue_leaf (xs ys : List V) (p q : Option Addr) (S : Nat → Prop) (w : World) (hp : IsR w S 1 xs p) (hq : IsR w S 1 ys q) : Calls Tryz.prog 200 #[.pointer p, .pointer q] w (NodesOut w S 1 (xs ++ ys)) := by
  have HP := Lib.hid hp
  have HQ := Lib.hid hq
  obtain ⟨b1, A1, c1, rfl, -, hb1, n1, m1, k1, r1⟩ := hp.leaf
  obtain ⟨b2, A2, c2, rfl, -, hb2, n2, m2, k2, r2⟩ := hq.leaf
  have f1 := hb1.cell 1
  have f3 := hb1.cell 3
  have g3 := hb2.cell 3
  have R1 := Lib.hid r1
  have R2 := Lib.hid r2
  simp at f1 f3 g3
  clear hp hq hb1 hb2 r1 r2
  have hxy : Hid ((xs ++ ys).length = xs.length + ys.length) := Lib.hid List.length_append
  by_cases h1 : 8 ≤ xs.length ∧ 8 ≤ ys.length
  · have h1' : (8 : Int) ≤ xs.length := by omega
    have h2' : (8 : Int) ≤ ys.length := by omega
    go_enter Tryz.func200, Tryz.ntmps200
    go_wp2
    go_ret
    exact nodes_two (HP.out.more fun _ => up_in) (HQ.out.more fun _ => up_in) (Below.refl _ _) rfl
  · have hc : (¬ (8 : Int) ≤ xs.length) ∨ ((8 : Int) ≤ xs.length ∧ ¬ (8 : Int) ≤ ys.length) := by omega
    have h9 : xs.length + ys.length ≤ 32 := by omega
    clear h1
    rcases hc with h1' | ⟨h1', h2'⟩
    all_goals
      go_enter Tryz.func200, Tryz.ntmps200
      go_wp2_with fail
      go_region_held3 (fun w' => w'.cell? ⟨b1, 3, none⟩ = some (.slice A1 xs.length c1) ∧ w'.cell? ⟨b2, 3, none⟩ = some (.slice A2 ys.length c2) ∧ Below w.heap.size w w') (first | exact ⟨f3, g3, (Below.refl _ _).drew⟩ | exact ⟨cb hB2 f3, cb hB2 g3, hB2⟩ | exact ⟨cb hB1 f3, cb hB1 g3, hB1⟩)
        (first
          | (go_at_call 219; refine Calls.mono (leaves_at hxy A0 c0 _ w1 (Reads.of_new (S := S) HO1.out) (by omega) h9 hc0) ?_; rintro e w2 hq2; have HN := Lib.hid (hq2.mono hB1 (Nat.le_refl _)); obtain ⟨A5, c5, ks5, ps5, rfl, -, -, -, -, -, -, hB2⟩ := HN.out; clear hq2 HO1)
          | (go_at_call 180; refine Calls.mono (bothV A1 A2 _ _ c1 c2 xs ys S S w.drew R1.out R2.out (by omega)) ?_; rintro e w1 ⟨v1, rfl, ho1, hb1⟩; have hB1 := (Below.refl w.heap.size w).drew.trans hb1; obtain ⟨A0, c0, rfl, hc0⟩ := own_shape ho1; have HO1 := Lib.hid ho1; clear ho1 hb1))
      go_wp2
      go_ret
      exact HN.out
set_option maxHeartbeats 2000000 in
theorem glue_inner (d : Nat) (xs ys : List V) (p q : Option Addr) (S : Nat → Prop) (w : World) (hp : IsR w S (d + 2) xs p) (hq : IsR w S (d + 2) ys q) (hn : xs.length + ys.length ≤ 65536) (hd : d + 2 ≤ 64) : Calls Tryz.prog 200 #[.pointer p, .pointer q] w (NodesOut w S (d + 2) (xs ++ ys)) := by
  have HP := Lib.hid hp
  have HQ := Lib.hid hq
  obtain ⟨b1, A1, c1, ks, ps, rfl, -, hx, hb1, n1, m1, k1, r1, K1⟩ := hp.inner
  obtain ⟨b2, A2, c2, ls, qs, rfl, -, hy, hb2, n2, m2, k2, r2, K2⟩ := hq.inner
  have hxy : Hid ((ks ++ ls).length = ks.length + ls.length) := Lib.hid List.length_append
  have hfl : flen (ks ++ ls) ≤ 65536 := by rw [flen_app]; unfold flen; rw [← hx, ← hy]; exact hn
  have hfx : Hid ((ks ++ ls).flatten = xs ++ ys) := Lib.hid (by rw [List.flatten_append, ← hx, ← hy])
  have f1 := hb1.cell 1
  have f3 := hb1.cell 2
  have g3 := hb2.cell 2
  have R1 := Lib.hid r1
  have R2 := Lib.hid r2
  have HK := Lib.hid (K1.app K2)
  have hd1 : (((d + 2 : Nat) : Int) == 1) = false := by simp; omega
  simp only [List.getElem?_toArray, List.getElem?_cons_succ, List.getElem?_cons_zero] at f1 f3 g3
  clear hp hq hb1 hb2 r1 r2 hx hy K1 K2
  generalize ((d + 2 : Nat) : Int) = D at *
  by_cases h1 : 8 ≤ ks.length ∧ 8 ≤ ls.length
  · have h1' : (8 : Int) ≤ ks.length := by omega
    have h2' : (8 : Int) ≤ ls.length := by omega
    go_enter Tryz.func200, Tryz.ntmps200
    go_wp2
    go_ret
    exact nodes_two (HP.out.more fun _ => up_in) (HQ.out.more fun _ => up_in) (Below.refl _ _) rfl
  · have hc : (¬ (8 : Int) ≤ ks.length) ∨ ((8 : Int) ≤ ks.length ∧ ¬ (8 : Int) ≤ ls.length) := by omega
    have h9 : ks.length + ls.length ≤ 32 := by omega
    clear h1
    rcases hc with h1' | ⟨h1', h2'⟩
    all_goals
      go_enter Tryz.func200, Tryz.ntmps200
      go_wp2_with fail
      go_region_held3 (fun w' => w'.cell? ⟨b1, 2, none⟩ = some (.slice A1 ks.length c1) ∧ w'.cell? ⟨b2, 2, none⟩ = some (.slice A2 ls.length c2) ∧ Below w.heap.size w w') (first | exact ⟨f3, g3, (Below.refl _ _).drew⟩ | exact ⟨cb hB2 f3, cb hB2 g3, hB2⟩ | exact ⟨cb hB1 f3, cb hB1 g3, hB1⟩)
        (first
          | (go_at_call 218; refine Calls.mono (inners_at hxy A0 c0 (d + 1) (ps ++ qs) _ w1 (Reads.of_new (S := S) HO1.out) ((HK.out.keeps (.of_below hB1)).more fun _ => up_in) (by omega) h9 hc0 hfl (by omega)) ?_; rintro e w2 hq2; have HN := Lib.hid (hq2.mono hB1 (Nat.le_refl _)); obtain ⟨A5, c5, ks5, ps5, rfl, -, -, -, -, -, -, hB2⟩ := HN.out; clear hq2 HO1)
          | (go_at_call 197; refine Calls.mono (bothP A1 A2 _ _ c1 c2 ps qs S S w.drew R1.out R2.out (by omega)) ?_; rintro e w1 ⟨v1, rfl, ho1, hb1⟩; have hB1 := (Below.refl w.heap.size w).drew.trans hb1; obtain ⟨A0, c0, rfl, hc0⟩ := own_shape ho1; have HO1 := Lib.hid ho1; clear ho1 hb1))
      go_wp2
      go_ret
      have := HN.out
      rwa [hfx.out] at this
end Go.Proofs.YtfcegalckjeafaaGreatDoor
namespace Go.Proofs.YtfcegalckjeafaaGreatDoor
open Go.RowKit Go.BigFrame
theorem glue_any {d : Nat} {xs ys : List V} {p q : Option Addr} {S : Nat → Prop} {w : World} (hp : IsR w S d xs p) (hq : IsR w S d ys q) (hn : xs.length + ys.length ≤ 65536) (hd : d ≤ 64) : Calls Tryz.prog 200 #[.pointer p, .pointer q] w (NodesOut w S d (xs ++ ys)) := by
  match d, hp, hq with
  | 0, hp, _ => exact hp.elim
  | 1, hp, hq => exact glue_leaf xs ys p q S w hp hq
  | d + 2, hp, hq => exact glue_inner d xs ys p q S w hp hq hn hd
theorem kids_last {ks : List (List V)} {l : Nat} (h : ks.length = l + 1) : ∃ k, ks[l]? = some k ∧ ks = ks.take l ++ [k] := by
  have hl : l < ks.length := by omega
  exact ⟨ks[l], List.getElem?_eq_getElem hl, by rw [← List.take_succ_eq_append_getElem hl, List.take_of_length_le (by omega)]⟩
theorem flen_flat (ks : List (List V)) : flen ks = ks.flatten.length := rfl
theorem below_drewN (w : World) (n : Nat) : Below w.heap.size w (w.drewN n) := ⟨rfl, rfl, rfl, Nat.le_refl _, fun _ _ => rfl⟩
theorem up3 {S : Nat → Prop} {a b B k : Nat} (ha : B ≤ a) (hb : B ≤ b) (h : up (up (up S B) a) b k) : up S B k := by
  rcases h with ((h | h) | h) | h
  · exact .inl h
  · exact .inr h
  · exact .inr (Nat.le_trans ha h)
  · exact .inr (Nat.le_trans hb h)
def BehindOk (d : Nat) : Prop := ∀ (e : Nat) (xs ys : List V) (p q : Option Addr) (S : Nat → Prop) (w : World), IsR w S (d + 2) xs p → IsR w S e ys q → e < d + 2 → xs.length + ys.length ≤ 65536 → d + 2 ≤ 64 →
    Calls Tryz.prog 198 #[.pointer p, .pointer q] w (NodesOut w S (d + 2) (xs ++ ys))
set_option maxHeartbeats 4000000 in
theorem behind_step (d : Nat) (ih : ∀ d', d = d' + 1 → BehindOk d') : BehindOk d := by
  intro e xs ys p q S w hp hq he hn hd
  obtain ⟨b1, A1, c1, ks, ps, rfl, -, hx, hb1, n1, m1, k1, r1, K1⟩ := hp.inner
  have HQ := Lib.hid hq
  obtain ⟨b2, u2, x2, rfl, -, hb2⟩ := hq.head
  have he0 := hq.dpos
  obtain ⟨l, hl⟩ : ∃ l, ks.length = l + 1 := ⟨ks.length - 1, by omega⟩
  obtain ⟨k, hk, hks⟩ := kids_last hl
  obtain ⟨r, hr, ik⟩ := K1.at_ (i := l) (by omega)
  obtain rfl : ks[l] = k := by rw [List.getElem?_eq_getElem (by omega)] at hk; simpa using hk
  generalize ks[l] = k at *
  obtain ⟨b3, u3, x3, rfl, -, hb3⟩ := ik.head
  obtain ⟨ad, rfl, cl⟩ := r1.ptr hr
  have hxk : xs = (ks.take l).flatten ++ k := by rw [hx]; conv => lhs; rw [hks]; simp
  have hkl : k.length ≤ xs.length := by rw [hxk]; simp
  have f1 := hb1.cell 2
  have f2 := hb2.cell 1
  have f3 := hb3.cell 1
  simp only [List.getElem?_toArray, List.getElem?_cons_succ, List.getElem?_cons_zero] at f1 f2 f3
  rw [hl] at f1 r1 k1 n1 m1
  have FL : Hid (flen (ks.take l) + k.length = xs.length) := Lib.hid (by rw [flen_flat, hxk]; simp)
  have FX : Hid ((ks.take l).flatten ++ (k ++ ys) = xs ++ ys) := Lib.hid (by rw [hxk]; simp)
  have HT := Lib.hid ((K1.take l))
  have HIK := Lib.hid ik
  have HR : Hid (∀ w', Below w.heap.size w w' → Reads w' S 1 (some ad) l ((ps.take l).map .pointer)) := Lib.hid fun w' hb => by
    have := (r1.keeps (.of_below hb)).take_ (k := l) (by omega)
    rwa [Nat.mul_one, ← List.map_take] at this
  have FT : Hid ((ks.take l).length = l) := Lib.hid (by rw [List.length_take]; omega)
  have h1 : (0 : Int) ≤ (l : Int) := by omega
  have h2 : (l : Int) ≤ c1 := by omega
  have h3 : (l : Int) < (l : Int) + 1 := by omega
  clear hp hq hx hb1 hb2 hb3 r1 K1 hk hr hks hxk ik hl
  have hW : ∀ n, Below w.heap.size w (w.drewN n) := below_drewN w
  have HC : (((d + 1 : Nat) : Int) == (e : Int)) = true ∧ Hid (∀ n, Calls Tryz.prog 200 #[.pointer (some ⟨b3, 0, none⟩), .pointer (some ⟨b2, 0, none⟩)] (w.drewN n) (NodesOut (w.drewN n) S (d + 1) (k ++ ys))) ∨ (((d + 1 : Nat) : Int) == (e : Int)) = false ∧ Hid (∀ n, Calls Tryz.prog 198 #[.pointer (some ⟨b3, 0, none⟩), .pointer (some ⟨b2, 0, none⟩)] (w.drewN n) (NodesOut (w.drewN n) S (d + 1) (k ++ ys))) := by
    by_cases h : e = d + 1
    · subst h
      exact .inl ⟨by simp, Lib.hid fun n => glue_any (HIK.out.keeps (.of_below (hW n))) (HQ.out.keeps (.of_below (hW n))) (by omega) (by omega)⟩
    · obtain ⟨d', rfl⟩ : ∃ d', d = d' + 1 := ⟨d - 1, by omega⟩
      exact .inr ⟨by simp; omega, Lib.hid fun n => ih d' rfl e k ys _ _ S (w.drewN n) (HIK.out.keeps (.of_below (hW n))) (HQ.out.keeps (.of_below (hW n))) (by omega) (by omega) (by omega)⟩
  generalize ((d + 1 : Nat) : Int) = D at *
  generalize (e : Int) = E at *
  clear hW HIK HQ ih
  rcases HC with ⟨hDE, HG⟩ | ⟨hDE, HG⟩
  all_goals
    go_enter Tryz.func198, Tryz.ntmps198
    go_wp2_with fail
    go_quiet (fail)
    go_wp2_with fail
    refine (HG.out _).mono ?_
    rintro e1 w1 hq1
    have HN := Lib.hid hq1
    obtain ⟨A5, c5, ls, qs, rfl, m5, m6, k5, r5, K5, e5, hb5⟩ := hq1
    have HB := Lib.hid ((below_drewN w _).trans hb5)
    have g1 := cb HB.out f1
    have R5 := Lib.hid r5
    have FE : Hid (flen ls = k.length + ys.length) := Lib.hid (by rw [flen_flat, e5, List.length_append])
    have E5 := Lib.hid e5
    have KK : Hid (Kids w1 (up S w.heap.size) (d + 1) (ks.take l ++ ls) (ps.take l ++ qs)) := Lib.hid (((HT.out.keeps (.of_below HB.out)).more fun _ => up_in).app (K5.more fun _ h => h))
    have hfl : flen (ks.take l ++ ls) ≤ 65536 := by rw [flen_app, FE.out]; have := FL.out; omega
    have hxy : Hid ((ks.take l ++ ls).length = l + ls.length) := Lib.hid (by rw [List.length_append, FT.out])
    clear r5 K5 e5 hb5 HG f1 f2 f3 cl HN
    go_wp2_with fail
    refine (bothP _ _ _ _ _ _ (ps.take l) qs S _ w1 (HR.out _ HB.out) R5.out (by omega)).mono ?_
    rintro e2 w2 ⟨v2, rfl, ho2, hb2⟩
    obtain ⟨A0, c0, rfl, hc0⟩ := own_shape ho2
    have HO := Lib.hid ho2
    have HB2 := Lib.hid (HB.out.trans (hb2.mono HB.out.size))
    have HK2 := Lib.hid ((KK.out.keeps (.of_below hb2)).more (S' := up (up S w.heap.size) w1.heap.size) fun _ => up_in)
    clear ho2 hb2
    go_wp2_with fail
    refine (inners_at hxy A0 c0 (d + 1) (ps.take l ++ qs) _ w2 (Reads.of_new HO.out) HK2.out (by omega) (by omega) hc0 hfl (by omega)).mono ?_
    rintro e3 w3 hq3
    have HN := Lib.hid hq3
    obtain ⟨A6, c6, ls6, ps6, rfl, -⟩ := hq3
    go_wp2
    go_ret
    obtain ⟨A7, c7, ks7, ps7, a1, a2, a3, a4, a5, a6, a7, a8⟩ := HN.out
    refine ⟨A7, c7, ks7, ps7, a1, a2, a3, a4, a5.more fun _ h => ?_, a6.more fun _ h => ?_, ?_, HB2.out.trans (a8.mono HB2.out.size)⟩
    · exact up3 HB.out.size HB2.out.size h
    · exact up3 HB.out.size HB2.out.size h
    · rw [a7, List.flatten_append, E5.out, FX.out]
theorem behind_any : ∀ d, BehindOk d
  | 0 => behind_step 0 (fun d' h => by omega)
  | d + 1 => behind_step (d + 1) (fun _ h => Nat.succ.inj h ▸ behind_any d)
end Go.Proofs.YtfcegalckjeafaaGreatDoor
namespace Go.Proofs.YtfcegalckjeafaaGreatDoor
open Go.RowKit Go.BigFrame
def AheadOk (d : Nat) : Prop := ∀ (e : Nat) (xs ys : List V) (p q : Option Addr) (S : Nat → Prop) (w : World), IsR w S e xs p → IsR w S (d + 2) ys q → e < d + 2 → xs.length + ys.length ≤ 65536 → d + 2 ≤ 64 →
    Calls Tryz.prog 199 #[.pointer p, .pointer q] w (NodesOut w S (d + 2) (xs ++ ys))
set_option maxHeartbeats 4000000 in
theorem ahead_step (d : Nat) (ih : ∀ d', d = d' + 1 → AheadOk d') : AheadOk d := by
  intro e xs ys p q S w hp hq he hn hd
  obtain ⟨b1, A1, c1, ks, ps, rfl, -, hx, hb1, n1, m1, k1, r1, K1⟩ := hq.inner
  have HQ := Lib.hid hp
  obtain ⟨b2, u2, x2, rfl, -, hb2⟩ := hp.head
  have he0 := hp.dpos
  obtain ⟨l, hl⟩ : ∃ l, ks.length = l + 1 := ⟨ks.length - 1, by omega⟩
  obtain ⟨r, hr, ik⟩ := K1.at_ (i := 0) (by omega)
  have hks : ks = ks[0] :: ks.drop 1 := by rw [List.drop_one]; cases ks with | nil => simp at hl | cons a t => rfl
  generalize ks[0] = k at *
  obtain ⟨b3, u3, x3, rfl, -, hb3⟩ := ik.head
  obtain ⟨ad, rfl, cl⟩ := r1.ptr hr
  have cl' : w.cell? ad = some (.pointer (some ⟨b3, 0, none⟩)) := by simpa [Addr.add] using cl
  have hxk : ys = k ++ (ks.drop 1).flatten := by rw [hx]; conv => lhs; rw [hks, List.flatten_cons]
  have hkl : k.length ≤ ys.length := by rw [hxk]; simp
  have f1 := hb1.cell 2
  have f2 := hb2.cell 1
  have f3 := hb3.cell 1
  simp only [List.getElem?_toArray, List.getElem?_cons_succ, List.getElem?_cons_zero] at f1 f2 f3
  have FL : Hid (k.length + flen (ks.drop 1) = ys.length) := Lib.hid (by rw [flen_flat, hxk]; simp)
  have FX : Hid ((xs ++ k) ++ (ks.drop 1).flatten = xs ++ ys) := Lib.hid (by rw [hxk]; simp)
  have HT := Lib.hid ((K1.drop 1))
  have HIK := Lib.hid ik
  have hc1 : ¬ c1 = 1 := by omega
  have HR : Hid (∀ w', Below w.heap.size w w' → Reads w' S 1 (some (ad.add 1)) l ((ps.drop 1).map .pointer)) := Lib.hid fun w' hb => by
    have := (r1.keeps (.of_below hb)).cut (k := 1) (by omega) k1
    rw [Nat.mul_one, if_neg hc1, ← List.map_drop, hl] at this
    exact this
  have FT : Hid ((ks.drop 1).length = l) := Lib.hid (by rw [List.length_drop]; omega)
  rw [hl] at f1 k1 n1 m1
  have h1 : (0 : Int) < (l : Int) + 1 := by omega
  have h2 : (1 : Int) ≤ (l : Int) + 1 := by omega
  have h3 : (l : Int) + 1 ≤ c1 := by omega
  clear hp hq hx hb1 hb2 hb3 r1 K1 hr hks hxk ik hl cl
  have hW : ∀ n, Below w.heap.size w (w.drewN n) := below_drewN w
  have HC : (((d + 1 : Nat) : Int) == (e : Int)) = true ∧ Hid (∀ n, Calls Tryz.prog 200 #[.pointer (some ⟨b2, 0, none⟩), .pointer (some ⟨b3, 0, none⟩)] (w.drewN n) (NodesOut (w.drewN n) S (d + 1) (xs ++ k))) ∨ (((d + 1 : Nat) : Int) == (e : Int)) = false ∧ Hid (∀ n, Calls Tryz.prog 199 #[.pointer (some ⟨b2, 0, none⟩), .pointer (some ⟨b3, 0, none⟩)] (w.drewN n) (NodesOut (w.drewN n) S (d + 1) (xs ++ k))) := by
    by_cases h : e = d + 1
    · subst h
      exact .inl ⟨by simp, Lib.hid fun n => glue_any (HQ.out.keeps (.of_below (hW n))) (HIK.out.keeps (.of_below (hW n))) (by omega) (by omega)⟩
    · obtain ⟨d', rfl⟩ : ∃ d', d = d' + 1 := ⟨d - 1, by omega⟩
      exact .inr ⟨by simp; omega, Lib.hid fun n => ih d' rfl e xs k _ _ S (w.drewN n) (HQ.out.keeps (.of_below (hW n))) (HIK.out.keeps (.of_below (hW n))) (by omega) (by omega) (by omega)⟩
  generalize ((d + 1 : Nat) : Int) = D at *
  generalize (e : Int) = E at *
  clear hW HIK HQ ih
  rcases HC with ⟨hDE, HG⟩ | ⟨hDE, HG⟩
  all_goals
    go_enter Tryz.func199, Tryz.ntmps199
    go_wp2_with fail
    go_quiet (fail)
    go_wp2_with fail
    refine (HG.out _).mono ?_
    rintro e1 w1 hq1
    have HN := Lib.hid hq1
    obtain ⟨A5, c5, ls, qs, rfl, m5, m6, k5, r5, K5, e5, hb5⟩ := hq1
    have HB := Lib.hid ((below_drewN w _).trans hb5)
    have g1 := cb HB.out f1
    have R5 := Lib.hid r5
    have FE : Hid (flen ls = xs.length + k.length) := Lib.hid (by rw [flen_flat, e5, List.length_append])
    have E5 := Lib.hid e5
    have KK : Hid (Kids w1 (up S w.heap.size) (d + 1) (ls ++ ks.drop 1) (qs ++ ps.drop 1)) := Lib.hid ((K5.more fun _ h => h).app ((HT.out.keeps (.of_below HB.out)).more fun _ => up_in))
    have hfl : flen (ls ++ ks.drop 1) ≤ 65536 := by rw [flen_app, FE.out]; have := FL.out; omega
    have hxy : Hid ((ls ++ ks.drop 1).length = ls.length + l) := Lib.hid (by rw [List.length_append, FT.out])
    clear r5 K5 e5 hb5 HG f1 f2 f3 cl' HN
    go_wp2_with fail
    refine (bothP _ _ _ _ _ _ qs (ps.drop 1) _ S w1 R5.out (HR.out _ HB.out) (by omega)).mono ?_
    rintro e2 w2 ⟨v2, rfl, ho2, hb2⟩
    obtain ⟨A0, c0, rfl, hc0⟩ := own_shape ho2
    have HO := Lib.hid ho2
    have HB2 := Lib.hid (HB.out.trans (hb2.mono HB.out.size))
    have HK2 := Lib.hid ((KK.out.keeps (.of_below hb2)).more (S' := up (up S w.heap.size) w1.heap.size) fun _ => up_in)
    clear ho2 hb2
    go_wp2_with fail
    refine (inners_at hxy A0 c0 (d + 1) (qs ++ ps.drop 1) _ w2 (Reads.of_new HO.out) HK2.out (by omega) (by omega) hc0 hfl (by omega)).mono ?_
    rintro e3 w3 hq3
    have HN := Lib.hid hq3
    obtain ⟨A6, c6, ls6, ps6, rfl, -⟩ := hq3
    go_wp2
    go_ret
    obtain ⟨A7, c7, ks7, ps7, a1, a2, a3, a4, a5, a6, a7, a8⟩ := HN.out
    refine ⟨A7, c7, ks7, ps7, a1, a2, a3, a4, a5.more fun _ h => ?_, a6.more fun _ h => ?_, ?_, HB2.out.trans (a8.mono HB2.out.size)⟩
    · exact up3 HB.out.size HB2.out.size h
    · exact up3 HB.out.size HB2.out.size h
    · rw [a7, List.flatten_append, E5.out, FX.out]
theorem ahead_any : ∀ d, AheadOk d
  | 0 => ahead_step 0 (fun d' h => by omega)
  | d + 1 => ahead_step (d + 1) (fun _ h => Nat.succ.inj h ▸ ahead_any d)
end Go.Proofs.YtfcegalckjeafaaGreatDoor
namespace Go.Proofs.YtfcegalckjeafaaGreatDoor
open Go.RowKit Go.BigFrame
theorem IsR.shallow {w : World} {S : Nat → Prop} {d : Nat} {vs : List V} {p : Option Addr} (h : IsR w S d vs p) (hn : vs.length ≤ 65536) : d ≤ 17 := by
  have := h.big
  by_cases hd : d ≤ 17
  · exact hd
  · have h1 : 2 ^ 18 ≤ 2 ^ d := Nat.pow_le_pow_right (by omega) (by omega)
    have h2 : (2 : Nat) ^ 18 = 262144 := by decide
    omega
theorem inner_tree {ks : List (List V)} {n : Nat} (hn : Hid (ks.length = n)) (A : Option Addr) (c d : Nat) (ps : List (Option Addr)) (S : Nat → Prop) (w : World) (hr : Reads w S 1 A n (ps.map .pointer)) (hk : Kids w S d ks ps) (h2 : n ≤ 16) (hc : n ≤ c) (hf : flen ks ≤ 65536) (hd : d ≤ 64) :
    Calls Tryz.prog 196 #[.slice A n c] w (TreeOut w S ks.flatten) := by
  match n, hn.out, hr, h2, hc with
  | 0, e, _, _, _ =>
    refine (inner_none A c w).mono ?_
    rintro e' w' ⟨rfl, rfl⟩
    obtain rfl : ks = [] := List.length_eq_zero_iff.1 e
    exact ⟨none, rfl, .inl ⟨rfl, rfl⟩, Below.refl _ _⟩
  | 1, e, hr, _, _ =>
    obtain ⟨k, rfl⟩ : ∃ k, ks = [k] := List.length_eq_one_iff.1 e
    obtain ⟨q, hq, hi⟩ := hk.at_ (i := 0) (by simp)
    obtain ⟨ad, rfl, hcell⟩ := hr.ptr hq
    refine (inner_one ad c w q (by simpa [Addr.add] using hcell)).mono ?_
    rintro e' w' ⟨rfl, rfl⟩
    exact ⟨q, rfl, by simpa using (hi.more fun _ => up_in).rope, Below.refl _ _⟩
  | n + 2, e, hr, h2, hc =>
    refine (inner_at hn A c d ps S w hr hk (by omega) h2 hc hf hd).mono ?_
    rintro e' w' ⟨p, rfl, hp, hb⟩
    exact ⟨p, rfl, hp.rope, hb⟩
theorem TreeOut.mono {w w1 w' : World} {S : Nat → Prop} {vs : List V} {e : Ending} {B : Nat} (h : TreeOut w1 (up S B) vs e w') (hb : Below w.heap.size w w1) (hB : w.heap.size ≤ B) : TreeOut w S vs e w' := by
  obtain ⟨p, h1, h2, h3⟩ := h
  exact ⟨p, h1, h2.more fun _ => up2 hB hb.size, hb.trans (h3.mono hb.size)⟩
/-- The tree over what glue, behind, ahead hand back. -/
theorem inner_nodes {w w1 : World} {S : Nat → Prop} {d : Nat} {vs : List V} {A : Option Addr} {n c : Nat} (h : NodesOut w S d vs (.returned (.slice A n c)) w1) (hd : d ≤ 64) (hn : vs.length ≤ 65536) :
    Calls Tryz.prog 196 #[.slice A n c] w1 (TreeOut w S vs) := by
  obtain ⟨A', c', ks, ps, h1, h2, h3, h4, h5, h6, h7, h8⟩ := h
  simp only [Ending.returned.injEq, Value.slice.injEq] at h1
  obtain ⟨rfl, rfl, rfl⟩ := h1
  have := inner_tree (Lib.hid rfl) A c d ps _ w1 h5 h6 (by omega) h4 (by rw [flen_flat, h7]; exact hn) hd
  refine this.mono fun e w' h => ?_
  rw [h7] at h
  exact h.mono h8 (Nat.le_refl _)
set_option maxHeartbeats 1000000 in
theorem join_nil (q : Option Addr) (w : World) : Calls Tryz.prog 166 #[.pointer none, .pointer q] w fun e w' => e = .returned (.pointer q) ∧ w' = w := by
  go_enter Tryz.func166, Tryz.ntmps166
  go_wp2
  go_ret
  exact ⟨rfl, rfl⟩
set_option maxHeartbeats 1000000 in
theorem join_nil2 (b : Nat) (w : World) : Calls Tryz.prog 166 #[.pointer (some ⟨b, 0, none⟩), .pointer none] w fun e w' => e = .returned (.pointer (some ⟨b, 0, none⟩)) ∧ w' = w := by
  go_enter Tryz.func166, Tryz.ntmps166
  go_wp2
  go_ret
  exact ⟨rfl, rfl⟩
theorem NodesOut.of_drewN {w w' : World} {n : Nat} {S : Nat → Prop} {d : Nat} {vs : List V} {e : Ending} (h : NodesOut (w.drewN n) S d vs e w') : NodesOut w S d vs e w' := by
  obtain ⟨A, c, ks, ps, h1, h2, h3, h4, h5, h6, h7, h8⟩ := h
  exact ⟨A, c, ks, ps, h1, h2, h3, h4, h5, h6, h7, (below_drewN w n).trans h8⟩
set_option maxHeartbeats 2000000 in
theorem join_two (d e : Nat) (xs ys : List V) (p q : Option Addr) (S : Nat → Prop) (w : World) (hp : IsR w S d xs p) (hq : IsR w S e ys q) (hn : xs.length + ys.length ≤ 65536) :
    Calls Tryz.prog 166 #[.pointer p, .pointer q] w (TreeOut w S (xs ++ ys)) := by
  have hd := hp.shallow (by omega)
  have he := hq.shallow (by omega)
  have hd0 := hp.dpos
  have he0 := hq.dpos
  have HP := Lib.hid hp
  have HQ := Lib.hid hq
  obtain ⟨b1, u1, x1, rfl, -, hb1⟩ := hp.head
  obtain ⟨b2, u2, x2, rfl, -, hb2⟩ := hq.head
  have f1 := hb1.cell 1
  have f2 := hb2.cell 1
  simp only [List.getElem?_toArray, List.getElem?_cons_succ, List.getElem?_cons_zero] at f1 f2
  have hl : (xs ++ ys).length ≤ 65536 := by rw [List.length_append]; exact hn
  clear hp hq hb1 hb2
  have hW : ∀ n, Below w.heap.size w (w.drewN n) := below_drewN w
  rcases Nat.lt_trichotomy d e with h | h | h
  · obtain ⟨e', rfl⟩ : ∃ e', e = e' + 2 := ⟨e - 2, by omega⟩
    have HG : Hid (∀ n, Calls Tryz.prog 199 #[.pointer (some ⟨b1, 0, none⟩), .pointer (some ⟨b2, 0, none⟩)] (w.drewN n) (NodesOut w S (e' + 2) (xs ++ ys))) := Lib.hid fun n => (ahead_any e' d xs ys _ _ S _ (HP.out.keeps (.of_below (hW n))) (HQ.out.keeps (.of_below (hW n))) h hn (by omega)).mono fun _ _ h => h.of_drewN
    clear hW HP HQ
    have h1 : ¬ ((d : Int) > ((e' + 2 : Nat) : Int)) := by omega
    have h2 : ((d : Int) < ((e' + 2 : Nat) : Int)) := by omega
    generalize ((e' + 2 : Nat) : Int) = E at *
    go_enter Tryz.func166, Tryz.ntmps166
    go_wp2_with fail
    go_quiet (fail)
    go_wp2_with fail
    go_quiet (fail)
    go_wp2_with fail
    refine (HG.out _).mono ?_
    rintro e1 w1 hq1
    have HN := Lib.hid hq1
    obtain ⟨A5, c5, ks5, ps5, rfl, -⟩ := hq1
    go_wp2_with fail
    refine (inner_nodes HN.out (by omega) hl).mono ?_
    rintro e2 w2 ht
    have HT := Lib.hid ht
    obtain ⟨p5, rfl, -⟩ := ht
    go_wp2
    go_ret
    exact HT.out
  · subst h
    have HG : Hid (∀ n, Calls Tryz.prog 200 #[.pointer (some ⟨b1, 0, none⟩), .pointer (some ⟨b2, 0, none⟩)] (w.drewN n) (NodesOut w S d (xs ++ ys))) := Lib.hid fun n => (glue_any (HP.out.keeps (.of_below (hW n))) (HQ.out.keeps (.of_below (hW n))) hn (by omega)).mono fun _ _ h => h.of_drewN
    clear hW HP HQ
    have h1 : ¬ ((d : Int) > (d : Int)) := by omega
    have h2 : ¬ ((d : Int) < (d : Int)) := by omega
    go_enter Tryz.func166, Tryz.ntmps166
    go_wp2_with fail
    go_quiet (fail)
    go_wp2_with fail
    go_quiet (fail)
    go_wp2_with fail
    refine (HG.out _).mono ?_
    rintro e1 w1 hq1
    have HN := Lib.hid hq1
    obtain ⟨A5, c5, ks5, ps5, rfl, -⟩ := hq1
    go_wp2_with fail
    refine (inner_nodes HN.out (by omega) hl).mono ?_
    rintro e2 w2 ht
    have HT := Lib.hid ht
    obtain ⟨p5, rfl, -⟩ := ht
    go_wp2
    go_ret
    exact HT.out
  · obtain ⟨d', rfl⟩ : ∃ d', d = d' + 2 := ⟨d - 2, by omega⟩
    have HG : Hid (∀ n, Calls Tryz.prog 198 #[.pointer (some ⟨b1, 0, none⟩), .pointer (some ⟨b2, 0, none⟩)] (w.drewN n) (NodesOut w S (d' + 2) (xs ++ ys))) := Lib.hid fun n => (behind_any d' e xs ys _ _ S _ (HP.out.keeps (.of_below (hW n))) (HQ.out.keeps (.of_below (hW n))) h hn (by omega)).mono fun _ _ h => h.of_drewN
    clear hW HP HQ
    have h1 : ((d' + 2 : Nat) : Int) > (e : Int) := by omega
    generalize ((d' + 2 : Nat) : Int) = D at *
    go_enter Tryz.func166, Tryz.ntmps166
    go_wp2_with fail
    go_quiet (fail)
    go_wp2_with fail
    refine (HG.out _).mono ?_
    rintro e1 w1 hq1
    have HN := Lib.hid hq1
    obtain ⟨A5, c5, ks5, ps5, rfl, -⟩ := hq1
    go_wp2_with fail
    refine (inner_nodes HN.out (by omega) hl).mono ?_
    rintro e2 w2 ht
    have HT := Lib.hid ht
    obtain ⟨p5, rfl, -⟩ := ht
    go_wp2
    go_ret
    exact HT.out
theorem join_any (xs ys : List V) (p q : Option Addr) (S : Nat → Prop) (w : World) (hp : IsRope w S xs p) (hq : IsRope w S ys q) (hn : xs.length + ys.length ≤ 65536) :
    Calls Tryz.prog 166 #[.pointer p, .pointer q] w (TreeOut w S (xs ++ ys)) := by
  rcases hp with ⟨rfl, rfl⟩ | ⟨d, hp⟩
  · refine (join_nil q w).mono ?_
    rintro e w' ⟨rfl, rfl⟩
    exact ⟨q, rfl, hq.more fun _ => up_in, Below.refl _ _⟩
  · rcases hq with ⟨rfl, rfl⟩ | ⟨e, hq⟩
    · obtain ⟨b, rfl⟩ := hp.some_
      refine (join_nil2 b w).mono ?_
      rintro e w' ⟨rfl, rfl⟩
      exact ⟨_, rfl, by rw [List.append_nil]; exact (hp.more fun _ => up_in).rope, Below.refl _ _⟩
    · exact join_two d e xs ys p q S w hp hq hn
end Go.Proofs.YtfcegalckjeafaaGreatDoor
namespace Go.Proofs.YtfcegalckjeafaaGreatDoor
open Go.RowKit Go.BigFrame
/-- A tree's first things, and the others. -/
def CutOut (w : World) (S : Nat → Prop) (i : Nat) (vs : List V) (e : Ending) (w' : World) : Prop := ∃ p q, e = .returned (.tuple #[.pointer p, .pointer q]) ∧ IsRope w' (up S w.heap.size) (vs.take i) p ∧ IsRope w' (up S w.heap.size) (vs.drop i) q ∧ Below w.heap.size w w'
end Go.Proofs.YtfcegalckjeafaaGreatDoor
namespace Go.Proofs.YtfcegalckjeafaaGreatDoor
open Go.RowKit Go.BigFrame
theorem CutOut.high {w : World} {S : Nat → Prop} {vs : List V} {p : Option Addr} {i : Nat} (h : IsRope w S vs p) (hi : vs.length ≤ i) : CutOut w S i vs (.returned (.tuple #[.pointer p, .pointer none])) w :=
  ⟨p, none, rfl, by rw [List.take_of_length_le hi]; exact h.more fun _ => up_in, by rw [List.drop_eq_nil_of_le hi]; exact .inl ⟨rfl, rfl⟩, Below.refl _ _⟩
theorem flat_parts {ks : List (List V)} {k : Nat} (h : k < ks.length) : ks.flatten = (ks.take k).flatten ++ (ks[k] ++ (ks.drop (k + 1)).flatten) := by
  have : ks.flatten = (ks.take k ++ ks[k] :: ks.drop (k + 1)).flatten := by rw [← List.drop_eq_getElem_cons h, List.take_append_drop]
  rw [this, List.flatten_append, List.flatten_cons]
theorem TreeOut.same {w w1 w' : World} {S : Nat → Prop} {vs : List V} {e : Ending} (h : TreeOut w1 (up S w.heap.size) vs e w') (hb : Below w.heap.size w w1) : ∃ p, e = .returned (.pointer p) ∧ IsRope w' (up S w.heap.size) vs p ∧ Below w1.heap.size w1 w' := by
  obtain ⟨p, h1, h2, h3⟩ := h
  exact ⟨p, h1, h2.more fun _ h => up_up h hb.size, h3⟩
end Go.Proofs.YtfcegalckjeafaaGreatDoor
namespace Go.Proofs.YtfcegalckjeafaaGreatDoor
open Go.RowKit Go.BigFrame
theorem IsRope.len {w : World} {S : Nat → Prop} {vs : List V} {p : Option Addr} (h : IsRope w S vs p) : (p = none ∧ vs.length = 0) ∨ ∃ b, p = some ⟨b, 0, none⟩ ∧ w.cell? ⟨b, 0, none⟩ = some (.int .i64 (vs.length : Int)) := by
  rcases h with ⟨rfl, rfl⟩ | ⟨d, h⟩
  · exact .inl ⟨rfl, rfl⟩
  · obtain ⟨b, u, x, e, -, hb⟩ := h.head
    exact .inr ⟨b, e, hb.cell 0⟩
set_option maxHeartbeats 1000000 in
theorem rlen_any (vs : List V) (p : Option Addr) (S : Nat → Prop) (w : World) (h : IsRope w S vs p) : Calls Tryz.prog 164 #[.agg #[.pointer p]] w fun e w' => e = .returned (.int .i64 (vs.length : Int)) ∧ Below w.heap.size w w' := by
  rcases h.len with ⟨rfl, hn⟩ | ⟨b, rfl, hc⟩
  · rw [hn]
    clear h hn
    go_enter Tryz.func164, Tryz.ntmps164
    go_wp2
    go_ret
    exact ⟨rfl, (Below.refl _ _).alloc (Nat.le_refl _) _⟩
  · clear h
    generalize (vs.length : Int) = N at *
    have hlt := World.block_lt_of_cell? w _ hc
    go_enter Tryz.func164, Tryz.ntmps164
    go_wp2
    go_ret
    exact ⟨rfl, (Below.refl _ _).alloc (Nat.le_refl _) _⟩
/-- Is there a place? -/
def inB (i : Int) (n : Nat) : Bool := decide (0 ≤ i ∧ i < (n : Int))
set_option maxHeartbeats 1000000 in
theorem has_any (i : Int) (vs : List V) (p : Option Addr) (S : Nat → Prop) (w : World) (h : IsRope w S vs p) : Calls Tryz.prog 151 #[.agg #[.pointer p], .int .i64 i] w fun e w' => e = .returned (.bool (inB i vs.length)) ∧ Below w.heap.size w w' := by
  have H := Lib.hid h
  clear h
  obtain ⟨b, hb⟩ : ∃ b, b = inB i vs.length := ⟨_, rfl⟩
  have HB := Lib.hid hb
  rw [← hb]
  clear hb
  by_cases h0 : 0 ≤ i
  · by_cases h1 : i < (vs.length : Int)
    · have hbt : b = true := by rw [HB.out, inB]; simp [h0, h1]
      subst hbt
      go_enter Tryz.func151, Tryz.ntmps151
      go_wp2_with fail
      refine (rlen_any vs p S _ (H.out.keeps (.of_below ((Below.refl _ _).alloc (Nat.le_refl _) _)))).mono ?_
      rintro e w1 ⟨rfl, hb1⟩
      go_wp2
      go_ret
      exact ⟨rfl, ((Below.refl _ _).alloc (Nat.le_refl _) _).trans (hb1.mono (by simp))⟩
    · have hbt : b = false := by rw [HB.out, inB]; simp [h1]
      subst hbt
      go_enter Tryz.func151, Tryz.ntmps151
      go_wp2_with fail
      refine (rlen_any vs p S _ (H.out.keeps (.of_below ((Below.refl _ _).alloc (Nat.le_refl _) _)))).mono ?_
      rintro e w1 ⟨rfl, hb1⟩
      go_wp2
      go_ret
      exact ⟨by simp [h1], ((Below.refl _ _).alloc (Nat.le_refl _) _).trans (hb1.mono (by simp))⟩
  · have hbt : b = false := by rw [HB.out, inB]; simp [h0]
    subst hbt
    go_enter Tryz.func151, Tryz.ntmps151
    go_wp2
    go_ret
    exact ⟨rfl, (Below.refl _ _).alloc (Nat.le_refl _) _⟩
/-- A rope and a code. -/
def RopeOut (w : World) (S : Nat → Prop) (vs : List V) (c : Int) (e : Ending) (w' : World) : Prop := ∃ p, e = .returned (.tuple #[.agg #[.pointer p], .int .i64 c]) ∧ IsRope w' (up S w.heap.size) vs p ∧ Below w.heap.size w w'
theorem reads_one_V (w : World) (v : V) : Reads (w.alloc (.cells v.l.toArray 42)) (fun j => j = w.heap.size) 11 (some ⟨w.heap.size, 0, none⟩) [v].length (flat [v]) := ⟨rfl, fun _ => ⟨_, rfl, rfl, fun j x hj => by
  have := (Blk.new w 42 v.l.toArray).cell j
  simp only [List.getElem?_toArray] at this
  rw [show flat [v] = v.l by simp [flat]] at hj
  rw [← hj, ← this]
  cases j with
  | zero => rfl
  | succ j => simp [Addr.add]⟩⟩
end Go.Proofs.YtfcegalckjeafaaGreatDoor
namespace Go.Proofs.YtfcegalckjeafaaGreatDoor
open Go.RowKit Go.BigFrame
/-- A rope alone. -/
def RopeOut1 (w : World) (S : Nat → Prop) (vs : List V) (e : Ending) (w' : World) : Prop := ∃ p, e = .returned (.agg #[.pointer p]) ∧ IsRope w' (up S w.heap.size) vs p ∧ Below w.heap.size w w'
set_option maxHeartbeats 4000000 in
theorem of_any (A : Option Addr) (c : Nat) (vs : List V) (S : Nat → Prop) (w : World) (hr : Reads w S 11 A vs.length (flat vs)) (hc : vs.length ≤ c) (hn : vs.length ≤ 32768) :
    Calls Tryz.prog 136 #[.slice A vs.length c] w (RopeOut1 w S vs) := by
  have HR := Lib.hid (hr.bound (by omega))
  clear hr
  obtain ⟨n, hnn⟩ : ∃ n, n = vs.length := ⟨_, rfl⟩
  have HN := Lib.hid hnn
  rw [← hnn] at HR hc hn ⊢
  clear hnn
  go_enter Tryz.func136, Tryz.ntmps136
  go_wp2_with fail
  go_loopw [4] (fun t wr => ∃ (k : Nat) (p : Option Addr), t = .int .i64 k ∧ k ≤ 32800 ∧ Hid (IsRope wr (up (fun k => S k ∧ k < w.heap.size) (w.heap.size + 1 + 1)) (vs.take k) p) ∧ Hid (Blk wr (w.heap.size + 1) 37 #[.pointer p]) ∧ Hid (Blk wr w.heap.size 37 #[.pointer none]) ∧ Hid (Below w.heap.size w wr)) (fun t _ => (n + 16 - intOf t).toNat)
  case atStart =>
    obtain ⟨hB, hz, HO, HP⟩ := boxes2 (rfl : (w.alloc (.cells #[.pointer none] 37)).alloc (.cells #[.pointer none] 37) = _)
    exact ⟨0, none, rfl, by omega, Lib.hid (.inl ⟨rfl, rfl⟩), Lib.hid HP, Lib.hid HO, Lib.hid hB⟩
  case round =>
    obtain ⟨k, p, rfl, hk, HQ, HP, HO, HB⟩ := hrel
    have hPl := HP.out.lt
    by_cases hlt : k < n
    · have f0 := HP.out.cell 0
      have f1 := HP.out.frozen 0
      simp only [List.getElem?_toArray, List.getElem?_cons_zero] at f0
      have hck : ¬ c = k := by omega
      have hpl : Hid (vs.take k ++ (vs.drop k).take 16 = vs.take (k + 16)) := Lib.hid (by rw [List.take_add])
      obtain ⟨L, hL, hL1, hLk, hL16, hM⟩ : ∃ L : Nat, Hid (((vs.drop k).take 16).length = L) ∧ 1 ≤ L ∧ k + L ≤ n ∧ L ≤ 16 ∧ (if (n : Int) < (k : Int) + 16 then (n : Int) else (k : Int) + 16) = ((k + L : Nat) : Int) := by
        refine ⟨min 16 (n - k), Lib.hid (by rw [List.length_take, List.length_drop, HN.out]), by omega, by omega, by omega, ?_⟩
        split <;> omega
      have F : Hid (∀ w', Below w.heap.size w w' → Reads w' (fun k => S k ∧ k < w.heap.size) 11 (A.map fun x => x.add (k * 11)) L (flat ((vs.drop k).take 16))) := Lib.hid fun w' hb => by
        have h1 := (HR.out.keeps (.of_below hb)).cut (k := k) (by omega) hc
        rw [if_neg hck, flat_drop] at h1
        have h2 := h1.take_ (k := L) (by omega)
        rw [flat_take] at h2
        have h3 := hL.out
        rw [List.length_take] at h3
        rw [show (vs.drop k).take L = (vs.drop k).take 16 by rw [← h3, List.take_eq_take_iff]; omega] at h2
        exact h2
      have hl3 : (vs.take k).length + ((vs.drop k).take 16).length ≤ 65536 := by have := List.length_take_le k vs; have := List.length_take_le 16 (vs.drop k); omega
      obtain ⟨M, hMM⟩ : ∃ M : Int, M = ((k + L : Nat) : Int) := ⟨_, rfl⟩
      rw [← hMM] at hM
      have b1 : (0 : Int) ≤ M := by omega
      have b5 : M ≤ (c : Int) := by omega
      have o1 : L ≤ 65536 := by omega
      have b2 : M.toNat = k + L := by omega
      have b3 : IntKind.i64.wrap ((k : Int) + 16) = (k : Int) + 16 := IntWalk.i64_in _ (by omega)
      have hz := HB.out.size
      clear hMM
      go_wp2_with fail
      refine wp_region_sq 13 [(0, true), (1, true), (2, true), (3, true), (4, true), (5, true), (6, true), (7, true), (8, true), (9, true), (10, false), (11, false), (12, false)] (fun w' => w'.cell? ⟨w.heap.size + 1, 0, none⟩ = some (.pointer p) ∧ Below wr.heap.size wr w') (by kernel_rfl) (by kernel_rfl) ⟨f0, (Below.refl _ _).drew⟩ (fun hS => ?_)
      iterate 10 (refine sq_t (v := ?_) rfl (by rfl) ?_ ?_; rotate_left; (· (intro w hSw; (try dsimp only at hSw); go_simp; try with_reducible rfl)); try simp only [Act.put, List.setIfInBounds_toArray])
      clear b2 b3 hM
      refine sq_c rfl (fun K hK => ?_)
      go_simp
      refine (copyV _ _ _ ((vs.drop k).take 16) _ _ (F.out _ (HB.out.trans (Below.mono (Below.refl _ _).drew hz))) o1).mono ?_
      rintro e w1 ⟨v1, rfl, ho1, hb1⟩
      obtain ⟨A1, c1, rfl, hc1⟩ := own_shape ho1
      go_wp2_with fail
      have hB1 : Below wr.heap.size wr w1 := (Below.refl _ _).drew.trans hb1
      refine hK.out _ _ ⟨cb hB1 f0, hB1⟩ (fun hS => ?_)
      clear hK K
      try simp only [Act.put, List.setIfInBounds_toArray, List.set_cons_zero, List.set_cons_succ]
      have hz2 : w.heap.size + 1 + 1 ≤ wr.heap.size := hPl
      have HO1 := Lib.hid (show w1.ownsRow wr.heap.size 42 11 _ _ _ from ho1)
      clear ho1 hb1 f1
      refine sq_c rfl (fun K hK => ?_)
      go_simp
      refine (leaf_at hL A1 c1 (up (fun k => S k ∧ k < w.heap.size) (w.heap.size + 1 + 1)) w1 ((Reads.of_new HO1.out).more fun _ => up_le hz2) hL1 hL16 hc1).mono ?_
      rintro e w2 ⟨p2, rfl, hp2, hb2⟩
      go_wp2_with fail
      have hB2 := hB1.trans (hb2.mono hB1.size)
      refine hK.out _ _ ⟨cb hB2 f0, hB2⟩ (fun hS => ?_)
      clear hK K
      try simp only [Act.put, List.setIfInBounds_toArray, List.set_cons_zero, List.set_cons_succ]
      have HP2 := Lib.hid (hp2.more fun _ h => up_up h (Nat.le_trans hz2 hB1.size)).rope
      clear hp2 hb2
      refine sq_c rfl (fun K hK => ?_)
      go_simp
      refine (join_any (vs.take k) _ p p2 _ w2 (HQ.out.keeps (.of_below hB2)) HP2.out hl3).mono ?_
      rintro e w3 ⟨p3, rfl, hp3, hb3⟩
      go_wp2_with fail
      have hB3 := hB2.trans (hb3.mono hB2.size)
      refine hK.out _ _ ⟨cb hB3 f0, hB3⟩ (fun hS => ?_)
      clear hK K
      try simp only [Act.put, List.setIfInBounds_toArray, List.set_cons_zero, List.set_cons_succ]
      have HP3 := Lib.hid (hp3.more fun _ h => up_up h (Nat.le_trans hz2 hB2.size))
      have HW3 := Lib.hid (HP.out.below hB3 hPl)
      have f3 := HW3.out.frozen 0
      have c3 := HW3.out.cell 0
      have HO3 := Lib.hid (HO.out.below hB3 HO.out.lt)
      have HB3 := Lib.hid (HB.out.trans (hB3.mono hz))
      clear hp3 hb3 hB1 hB2 hB3 f0 HO1 HP2 F HQ
      simp only [wpSq, List.drop_succ_cons, List.drop_zero]
      go_wp2_with fail
      refine NoPanic.normal ?_
      have HQ4 := Lib.hid (HP3.out.keeps (keeps_box (w := w3) (u := .pointer p3) (o := 0) (B := w.heap.size + 1 + 1) (g := w.heap.size + 1) (by omega) (by omega)))
      have HW4 := Lib.hid (HW3.out.set_ 0 (.pointer p3))
      have HO4 := Lib.hid (HO3.out.far (p := ⟨w.heap.size + 1, 0, none⟩) (by simp) (.pointer p3))
      have HB4 := Lib.hid (HB3.out.setCell (p := ⟨w.heap.size + 1, 0, none⟩) (by simp) (.pointer p3))
      clear f3 c3 HW3 HO3 HB3 HP3
      go_wp2_with fail
      go_roundw
      case rel => exact ⟨k + 16, p3, by go_num, by omega, by rw [← hpl.out]; exact HQ4, HW4, HO4, HB4⟩
      case measure => simp [intOf]; omega
    · have f0 := HP.out.cell 0
      have c0 := HO.out.cell 0
      have f1 := HO.out.frozen 0
      have hnk : Hid (vs.take k = vs) := Lib.hid (List.take_of_length_le (by rw [← HN.out]; omega))
      go_wp2
      refine ret_c (p := 2) rfl rfl rfl (HO.out.set_ 0 (.pointer p)) (by kernel_rfl) ⟨p, rfl, ?_, HB.out.setCell (Nat.le_refl _) _⟩
      have h1 := HQ.out.keeps (keeps_box (w := wr) (u := .pointer p) (o := 0) (B := w.heap.size + 1 + 1) (g := w.heap.size) (by omega) (by omega))
      rw [hnk.out] at h1
      exact h1.more fun _ h => up_bound h (by omega)
end Go.Proofs.YtfcegalckjeafaaGreatDoor
