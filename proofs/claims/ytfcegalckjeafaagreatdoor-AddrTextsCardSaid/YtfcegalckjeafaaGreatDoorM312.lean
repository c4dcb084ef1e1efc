/-
  Parts of the proof that AddrBegins,AddrTexts calls on: Ru, Ve, Vc, Vo, Vp, Vm.
-/
import Derived.LoopIn
import Derived.LoopNIn
import Derived.OwnWalkIn
import Derived.RangeFuncCalls
import Derived.RangeFuncLeaves
import Derived.RangeFuncNested
import Derived.RangeFuncWrites
import Derived.TacticsInMore
import Derived.Test.YtfcegalckjeafaaGreatDoorM309
import Derived.Test.YtfcegalckjeafaaGreatDoorM310
import Derived.Test.YtfcegalckjeafaaGreatDoorM311
namespace Go.Proofs.YtfcegalckjeafaaGreatDoor
open Go.RowKit Go.BigFrame Go.Shelf
attribute [local go_sem] Oper.semAt_some
def ReachOk (d : Nat) : Prop := ∀ (n l : Nat) (S : Nat → Prop) (L : List V) (J Jx : List (Fin L.length) → World → Prop) (_ : RoundOk l S L J Jx) (_ : Lives L J) (vs : List V) (p : Option Addr) (off : Nat) (W : World) (_ : IsR W S d vs p) (_ : off + vs.length ≤ L.length) (_ : ∀ i, i < vs.length → L[off + i]? = vs[i]?) (_ : L.length ≤ 65536) (_ : J (fins L.length off) W),
    CallsIn Fence.wide n Tryz.prog 172 #[.pointer p, .int .i64 off, .func (.yield l) #[] #[]] W (EachIn S L J Jx off vs W)
set_option maxRecDepth 100000 in
set_option maxHeartbeats 4000000 in
theorem reach_inner (d : Nat) (ih : ReachOk (d + 1)) : ReachOk (d + 2) := by
  intro n l S L J Jx hY hJ vs p off W hp ho hv hL h0
  obtain ⟨b, A, c, ks, ps, rfl, hs, hx, hb, n1, m1, k1, r1, K1⟩ := hp.inner
  have f2 := hb.cell 2
  have f3 := hb.cell 3
  simp only [List.getElem?_toArray, List.getElem?_cons_succ, List.getElem?_cons_zero] at f2 f3
  have HR := Lib.hid r1
  have HK := Lib.hid K1
  have HX := Lib.hid hx
  have HF : Hid (flen ks = vs.length) := Lib.hid (by rw [flen_flat, hx])
  have HV := Lib.hid hv
  have H0 := Lib.hid h0
  clear hp hb r1 K1 hv h0 hx
  refine callsIn_of_wp Tryz.func172 rfl trivial ?_ rfl
  simp only [Tryz.ntmps172, List.size_toArray, List.length_cons, List.length_nil, Nat.reduceAdd, Nat.reduceSub, Array.replicate_succ, Array.replicate_zero, List.push_toArray, List.append_toArray, List.nil_append, List.cons_append]
  gi_wp2
  gi_loopw [16] (fun t wx => W = wx ∧ t = .int .i64 0) (fun _ _ => 0)
  case atStart => exact ⟨rfl, rfl⟩
  case round =>
    obtain ⟨rfl, rfl⟩ := hrel
    gi_wp2
    gi_loopw [1, 34] (fun t1 t wr => ∃ k : Nat, k ≤ ks.length ∧ t = .int .i64 k ∧ t1 = .int .i64 ((off + flen (ks.take k) : Nat) : Int) ∧ Hid (J (fins L.length (off + flen (ks.take k))) wr) ∧ Hid (Kp S W wr)) (fun _ t _ => ks.length - (intOf t).toNat)
    case atStart => exact ⟨0, Nat.zero_le _, rfl, by simp [flen], by simpa [flen] using H0, Kp.refl⟩
    case round =>
      obtain ⟨k, hk, rfl, rfl, hJs, hK⟩ := hrel
      have hle : flen (ks.take k) ≤ vs.length := by have := flen_take ks k; have := HF.out; omega
      by_cases hlt : k < ks.length
      · obtain ⟨q, hq, ik⟩ := (HK.out.keeps hK.out.2).at_ hlt
        have HIK := Lib.hid ik
        obtain ⟨b3, u3, x3, rfl, hs3, hb3⟩ := ik.head
        obtain ⟨ad, rfl, cl⟩ := (HR.out.keeps hK.out.2).ptr hq
        have f4 := hb3.cell 0
        simp only [List.getElem?_toArray, List.getElem?_cons_zero] at f4
        have HS := Lib.hid (flen_succ ks k hlt)
        have hle2 : flen (ks.take k) + ks[k].length ≤ vs.length := by have := flen_take ks (k + 1); have := HF.out; have := HS.out; omega
        have HV2 : Hid (∀ i, i < ks[k].length → L[off + flen (ks.take k) + i]? = ks[k][i]?) := Lib.hid fun i hi => by
          rw [Nat.add_assoc, HV.out _ (by omega), HX.out]
          exact flat_get hlt (Nat.add_comm _ _) hi
        obtain ⟨o2, ho2⟩ : ∃ o2, o2 = off + flen (ks.take k) := ⟨_, rfl⟩
        have HO2 := Lib.hid ho2
        rw [← ho2] at hJs HV2 ⊢
        have hb5 : ((o2 : Int) + (ks[k].length : Int)) ≤ 65536 := by omega
        have IH := Lib.hid (ih (n - 1) l S L J Jx hY hJ ks[k] _ o2 wr HIK.out (by omega) HV2.out hL hJs.out)
        have h00 : (0 : Int) ≤ (k : Int) := by omega
        clear ik hq hb3 ho2
        gi_wp2_with fail
        refine ⟨trivial, by simp [Fence.wide], IH.out.mono ?_⟩
        rintro e W3 (⟨rfl, hJ3, hK3⟩ | ⟨rfl, k3, hJx⟩)
        · have f5 := cell_keeps f4 hK3.2 hs3
          have HJ3 := Lib.hid hJ3
          have HK3 := Lib.hid (hK.out.trans hK3)
          clear hJ3 hK3 IH
          gi_wp2
          go_roundw
          case rel => exact ⟨k + 1, by omega, by go_num, by rw [HS.out, HO2.out]; go_num, by rw [HS.out, ← Nat.add_assoc, ← HO2.out]; exact HJ3, HK3⟩
          case measure => simp [intOf]; omega
        · have HX := Lib.hid hJx
          clear hJx IH
          gi_wp2
          go_ret
          exact .inr ⟨rfl, _, HX.out⟩
      · have hkk : Hid (flen (ks.take k) = vs.length) := Lib.hid (by rw [List.take_of_length_le (by omega), HF.out])
        gi_wp2
        go_ret
        exact .inl ⟨rfl, by rw [← hkk.out]; exact hJs.out, hK.out⟩
theorem reach_any : ∀ d, ReachOk d
  | 0 => fun _ _ _ _ _ _ _ _ _ _ _ _ h => h.elim
  | 1 => fun n l S L J Jx hY hJ vs p off W hp ho hv hL h0 => reach_leaf n l S L J Jx hY hJ vs p off W hp ho hv hL h0
  | d + 2 => reach_inner d (reach_any (d + 1))
set_option maxHeartbeats 1000000 in
theorem rall_any (p : Option Addr) (w : World) :
    Calls Tryz.prog 119 #[.agg #[.pointer p]] w fun e w' => e = .returned (.func (.func 171) #[] #[.pointer (some ⟨w.heap.size, 0, none⟩)]) ∧ w' = w.alloc (.cells #[.pointer p] 37) := by
  go_enter Tryz.func119, Tryz.ntmps119
  go_wp2
  go_ret
  exact ⟨rfl, rfl⟩
theorem lives_of {β : Type} {B : Nat} {J : β → World → Prop} (h : AbidesFrom B J) : ∀ s W W', J s W → Below W.heap.size W W' → J s W' := fun s W W' hs hb =>
  h s W W' none hs ⟨hb.os, hb.tape, hb.output, hb.size, fun k hk _ => hb.block k hk⟩ (fun r e => by cases e)
set_option maxHeartbeats 2000000 in
/-- The value that All hands back goes through the rope. -/
theorem rope_stops (n Bs : Nat) (S : Nat → Prop) (L : List V) (p : Option Addr) (w : World) (hL : L.length ≤ 65536) (hb : Blk w Bs 37 #[.pointer p]) (hr : IsRope w S L p) :
    SeqStopsK Fence.wide n Tryz.prog 171 #[.pointer (some ⟨Bs, 0, none⟩)] (rcells L) (Kp S) (fun xs => xs = List.finRange L.length) (fun _ => True) L.length w := fun l J Jx W hW hJ _ hY h0 => by
  have hc := (hb.below hW hb.lt).cell 0
  simp only [List.getElem?_toArray, List.getElem?_cons_zero] at hc
  have HR := Lib.hid (hr.keeps (.of_below hW))
  have H0 := Lib.hid h0
  have HLV := Lib.hid (lives_of hJ)
  have HY : Hid (RoundOk l S L J Jx) := Lib.hid fun pre x W1 h1 h2 => yieldAt_any (hY pre x W1 h1 h2)
  clear hW hJ hY h0 hb hr
  refine callsIn_of_wp Tryz.func171 rfl trivial ?_ rfl
  simp only [Tryz.ntmps171, List.size_toArray, List.length_cons, List.length_nil, Nat.reduceAdd, Nat.reduceSub, Array.replicate_succ, Array.replicate_zero, List.push_toArray, List.append_toArray, List.nil_append, List.cons_append]
  rcases HR.out with ⟨rfl, rfl⟩ | ⟨d, hd⟩
  · gi_wp2
    go_end0
    exact ⟨⟨_, rfl⟩, .inl ⟨[], rfl, H0.out⟩⟩
  · obtain ⟨b, rfl⟩ := hd.some_
    have HD := Lib.hid hd
    clear hd HR
    gi_wp2_with fail
    refine ⟨trivial, by simp [Fence.wide], (reach_any d (n - 1) l S L J Jx HY.out HLV.out L _ 0 W HD.out (by omega) (fun i _ => by rw [Nat.zero_add]) hL H0.out).mono ?_⟩
    rintro e W3 (⟨rfl, hJ3, hK3⟩ | ⟨rfl, k3, hJx⟩)
    · rw [Nat.zero_add, fins_all] at hJ3
      gi_wp2
      go_end0
      exact ⟨⟨_, rfl⟩, .inl ⟨_, rfl, hJ3⟩⟩
    · gi_wp2
      go_end0
      exact ⟨⟨_, rfl⟩, .inr ⟨_, trivial, hJx⟩⟩
end Go.Proofs.YtfcegalckjeafaaGreatDoor
namespace Go.Proofs.YtfcegalckjeafaaGreatDoor
open Go.RowKit Go.BigFrame Go.Shelf
attribute [local go_sem] Oper.semAt_some
/-- The same, where the function may end without 'return'. -/
theorem enter_m {P : Program} {f : FuncId} {fn : Func} {c : Code} {args : Array Value} {w : World} {R : Ending → World → Prop} (hf : P.funcs[f]? = some fn) (hb : fn.body = some c)
    (h : c.wp P (bodyPostM Fence.wide 3 P fn R) { tmps := args ++ Array.replicate (fn.ntmps - args.size) undef, defers := [] } w) : Calls P f args w R :=
  callsIn_wide.1 (callsIn_of_wp_marks (n := 3) hf hb trivial (wpIn_wide.2 h) rfl)
theorem keepsFrom_of_below {B : Nat} {W W' : World} (h : Below W.heap.size W W') : KeepsFrom B W W' :=
  ⟨h.size, fun k _ _ hk _ => (h.block k (Array.getElem?_eq_some_iff.1 hk).1).trans hk⟩
/-- What a round's state says stays, whatever becomes of the step's box and of what is no cells. -/
def Stay {α : Type} (n₀ : Nat) (J : α → World → Prop) : Prop := ∀ s W W' row, J s W → W.grownBy W' row → (∀ r, row = some r → r = n₀ + 2 ∨ n₀ ≤ r ∧ ∃ o : Obj, W.heap[r]? = some o ∧ o.isCells = false) → J s W'
/-- The steps of a vector. -/
def stepI (i : Nat) : St := ⟨0, i, []⟩
/-- What a round leaves as it is: what S holds, what is no cells, the three boxes of each. -/
def Left (n₀ : Nat) (S : Nat → Prop) (W W' : World) : Prop := Kp S W W' ∧ KeepsFrom n₀ W W' ∧ ∀ k, n₀ ≤ k → k < n₀ + 3 → k < W.heap.size → W'.heap[k]? = W.heap[k]?
theorem keepsFrom_le {A B : Nat} {W W' : World} (h : KeepsFrom A W W') (hB : A ≤ B) : KeepsFrom B W W' := ⟨h.size, fun i o hi => h.same i o (Nat.le_trans hB hi)⟩
set_option maxRecDepth 100000 in
set_option maxHeartbeats 4000000 in
theorem each_vec (v : V) (vs : List V) (S : Nat → Prop) (fd : Nat) (env : Array Value) (J : List (Fin vs.length) → World → Prop) (w : World) (hk : v.kd = 4) (hr : IsRope w S vs v.vec) (hn : vs.length ≤ 16384) (hS : ∀ k, S k → k < w.heap.size)
    (he : ∀ args w, (callFunc fd args).run Tryz.prog w = .ok (.enter fd args) w) (hJ : Stay w.heap.size J) (h0 : J [] w)
    (hdo : ∀ pre (x : Fin vs.length) W, J pre W → pre.length < vs.length → w.heap.size + 3 ≤ W.heap.size → Calls Tryz.prog fd (#[(stepI x.val).a, (vs[x.val]).a] ++ env) W fun e W' => (∃ u, e = .returned u) ∧ J (pre ++ [x]) W' ∧ Left w.heap.size S W W') :
    Calls Tryz.prog 74 #[v.a, .func (.func fd) #[] env] w fun e W' => (∃ u, e = .returned u) ∧ J (List.finRange vs.length) W' := by
  obtain ⟨sk, si, st, kd, vec, seed, bits, n, dic, bel, mor⟩ := v
  simp only at hk hr
  subst hk
  have HR := Lib.hid hr
  have HJ := Lib.hid hJ
  have H0 := Lib.hid h0
  have HD := Lib.hid hdo
  clear hr hJ h0 hdo
  simp only [V.a]
  refine enter_m Tryz.func74 rfl ?_
  simp only [Tryz.ntmps74, List.size_toArray, List.length_cons, List.length_nil, Nat.reduceAdd, Nat.reduceSub, Array.replicate_succ, Array.replicate_zero, List.push_toArray, List.append_toArray, List.nil_append, List.cons_append]
  go_wp2_with fail
  refine calls_at fun W hW => ?_
  obtain ⟨hB, hz, HV, HF, HX⟩ := boxes3 hW
  have HZ := Lib.hid hz
  have J0 : J [] W := HJ.out _ _ _ none H0.out (chg_below hB) nofun
  clear hW
  refine (rall_any _ _).mono ?_
  rintro e w9 ⟨rfl, rfl⟩
  have hBox := Blk.new W 37 #[.pointer vec]
  have hB2 : Below W.heap.size W (W.alloc (.cells #[.pointer vec] 37)) := (Below.refl _ _).alloc (Nat.le_refl _) _
  have hzb : (W.alloc (.cells #[.pointer vec] 37)).heap.size = W.heap.size + 1 := by simp
  generalize W.alloc (.cells #[.pointer vec] 37) = wb at *
  have HB := Lib.hid (hB.trans (hB2.mono hB.size))
  have J1 : Hid (J [] wb) := Lib.hid (HJ.out _ _ _ none J0 (chg_below hB2) nofun)
  have F1 := Lib.hid (HF.below hB2 HF.lt)
  have X1 := Lib.hid (HX.below hB2 HX.lt)
  have R1 := Lib.hid (HR.out.keeps (.of_below HB.out))
  have BX := Lib.hid hBox
  have HZB := Lib.hid hzb
  clear hB hz HV HF HX J0 hBox hB2 hzb HR H0
  go_wp2_with fail
  refine (wpIn_wide (n := 3)).1 ?_
  have h1n : 1 ≤ 3 := by omega
  have hwb : w.heap.size + 4 = wb.heap.size := by rw [HZB.out, HZ.out]
  refine wpIn_rangeFunc_ownH (F := Fence.wide) (n := 3) rfl h1n (gf := 171) (lb := #[.pointer (some ⟨W.heap.size, 0, none⟩)]) rfl trivial (enters_of Tryz.func171 (by kernel_rfl) rfl)
    (rope_stops 2 W.heap.size S vs vec wb (by omega) BX.out R1.out) Kp.trans (fun W1 l o o' hl _ _ _ => ⟨by simp, fun k _ hk => World.putObj_heap_other (by have := hS k hk; omega)⟩) (Below.refl _ _) (fun _ => rfl)
    (fun pre W1 => J pre W1 ∧ (∃ i : Int, Blk W1 (w.heap.size + 1 + 1) 48 #[.int .i64 0, .int .i64 i, .string ⟨#[]⟩]) ∧ Blk W1 (w.heap.size + 1) 121 #[.func (.func fd) #[] env] ∧ w.heap.size + 4 ≤ W1.heap.size)
    (fun _ _ _ => False)
    (fun s A B row hs hg hr => ⟨HJ.out s A B row hs.1 hg (fun r e => .inr ⟨by have := (hr r e).1; omega, (hr r e).2⟩), ⟨hs.2.1.choose, hs.2.1.choose_spec.grown hg (fun e => by obtain ⟨o, ho, hc⟩ := (hr _ e.symm).2; rw [show A.heap[_]? = _ from hs.2.1.choose_spec] at ho; cases ho; cases hc)⟩, hs.2.2.1.grown hg (fun e => by obtain ⟨o, ho, hc⟩ := (hr _ e.symm).2; rw [show A.heap[_]? = _ from hs.2.2.1] at ho; cases ho; cases hc), Nat.le_trans hs.2.2.2 hg.size⟩)
    (fun _ _ _ _ _ hs _ _ => hs)
    ⟨J1.out, ⟨0, X1.out⟩, F1.out, Nat.le_of_eq hwb⟩
    (fun x a' W1 => ∃ g, w.heap.size + 4 ≤ g ∧ VB W1 g vs[x.val] ∧ a' = { tmps := #[.agg #[.int .i64 sk, .int .i64 si, .string ⟨st.toArray⟩, .int .i64 4, .pointer vec, .int .u64 seed, .int .i64 bits, .int .i64 n, .pointer dic, .int .i64 bel, .int .i64 mor], .func (.func fd) #[] env, .pointer (some ⟨w.heap.size, 0, none⟩), .pointer (some ⟨w.heap.size + 1, 0, none⟩), .pointer (some ⟨w.heap.size + 1 + 1, 0, none⟩), .int .i64 (x.val : Int), .pointer (some ⟨g, 0, none⟩), undef, undef, .agg #[.int .i64 0, .int .i64 0, .string ⟨#[]⟩], .pointer (some ⟨w.heap.size, 3, none⟩), .int .i64 4, .bool true, .bool true, undef, undef, undef, undef, .pointer (some ⟨w.heap.size, 4, none⟩), .agg #[.pointer vec], .func (.func 171) #[] #[.pointer (some ⟨W.heap.size, 0, none⟩)], .int .i64 (x.val : Int), (vs[x.val]).a, undef, undef, undef, undef, undef, undef, undef, undef, undef, undef, undef, undef, undef, undef, undef, undef, undef, undef, undef, undef, undef, undef, undef, undef, undef], defers := [] })
    (fun x a' s A B row hs hg hr => by
      obtain ⟨g, h1, h2, h3⟩ := hs
      exact ⟨g, h1, Blk.grown h2 hg (fun e => by obtain ⟨o, ho, hc⟩ := (hr _ e.symm).2; rw [show A.heap[_]? = _ from h2] at ho; cases ho; cases hc), h3⟩)
    ?assign ?body ?done ?stop
  case assign =>
    intro l pre x W1 K hI hK
    have HK := Lib.hid hK
    have HI := Lib.hid hI
    clear hK hI HD J1 F1 X1 R1 BX HB
    unfold rcells
    generalize vs[x.val] = v at *
    gi_wp2_with (refine wpListIn_stV rfl rfl rfl v (cur := V.z) (Blk.new' rfl) rfl ?_; intro W2 HR2 ho2 hB2)
    have hb := hB2 _ _ ((Below.refl W1.heap.size W1).alloc (Nat.le_refl _) _) (Nat.le_refl _)
    obtain ⟨k1, ⟨i, k2⟩, k3, k4⟩ := HI.out
    exact HK.out _ W2 (keepsFrom_of_below hb) (Kp.of_below hb) ⟨HJ.out _ _ _ none k1 (chg_below hb) nofun, ⟨i, k2.below hb k2.lt⟩, k3.below hb k3.lt, Nat.le_trans k4 hb.size⟩ ⟨W1.heap.size, k4, HR2.out, rfl⟩
  case body =>
    rintro l pre x a' W1 hl - ⟨hJ1, ⟨i, hX⟩, hF, hs⟩ ⟨g, hg4, hvb, rfl⟩ hlt
    have HJ1 := Lib.hid hJ1
    have HF := Lib.hid hF
    have HVB := Lib.hid hvb
    have HX := Lib.hid hX
    have c0 := hX.cell 0
    have c1 := hX.cell 1
    have c2 := hX.cell 2
    have f1 := hX.frozen 1
    have cf := hF.cell 0
    simp only [List.getElem?_toArray, List.getElem?_cons_succ, List.getElem?_cons_zero] at c0 c1 c2 cf
    have HC := Lib.hid (fun W hW => HD.out pre x W hW hlt)
    have HS1 := Lib.hid hs
    have X2 : Hid (Blk (W1.setCell ⟨w.heap.size + 1 + 1, 1, none⟩ (.int .i64 (x.val : Int))) (w.heap.size + 1 + 1) 48 #[.int .i64 0, .int .i64 (x.val : Int), .string ⟨#[]⟩]) := Lib.hid (by simpa using hX.set_ 1 (.int .i64 (x.val : Int)))
    have J2 : Hid (J pre (W1.setCell ⟨w.heap.size + 1 + 1, 1, none⟩ (.int .i64 (x.val : Int)))) := Lib.hid (HJ.out _ _ _ (some (w.heap.size + 1 + 1)) HJ1.out (chg_set _ _ _ _) (fun r e => .inl (by cases e; rfl)))
    have V2 : Hid (VB (W1.setCell ⟨w.heap.size + 1 + 1, 1, none⟩ (.int .i64 (x.val : Int))) g vs[x.val]) := Lib.hid (Blk.far hvb (by simp; omega) _)
    have F2 : Hid (Blk (W1.setCell ⟨w.heap.size + 1 + 1, 1, none⟩ (.int .i64 (x.val : Int))) (w.heap.size + 1) 121 #[.func (.func fd) #[] env]) := Lib.hid (Blk.far hF (by simp) _)
    have L2 : Hid (Left w.heap.size S W1 (W1.setCell ⟨w.heap.size + 1 + 1, 1, none⟩ (.int .i64 (x.val : Int))) ∨ True) := Lib.hid (.inr trivial)
    clear J1 F1 X1 R1 BX HB hJ1 hF hvb hX HJ1 HX HF HVB HD L2
    generalize hv : vs[x.val] = v at *
    gi_wp2_with (first
      | (refine wpListIn_ldl rfl (o := ⟨some 27, _, _, _, _, _⟩) rfl rfl v.l isV (fun j u hu => by have := Blk.cell V2.out j; rw [at_zero, this]; simpa using hu) ?_)
      | fail)
    refine ⟨trivial, ((callsIn_wide.2 (HC.out _ J2.out (by have := HS1.out; simp; omega))).inRound l).mono ?_⟩
    rintro e W3 ⟨⟨u, rfl⟩, hJ3, hL3⟩
    have HJ3 := Lib.hid hJ3
    have HL3 := Lib.hid hL3
    clear hv V2 HC c0 c1 c2 f1 cf hJ3 hL3
    gi_wp2
    have hg1 := chg_set W1 (w.heap.size + 1 + 1) 1 (.int .i64 (x.val : Int))
    obtain ⟨l1, l2, l3⟩ := HL3.out
    refine ⟨(KeepsFrom.of_grownBy hg1 (fun j e => by cases e; omega)).trans (keepsFrom_le l2 (by omega)), Kp.trans ⟨hg1.size, .of_grown hg1 (fun k hk e => by have := hS k hk; cases e; omega)⟩ l1, HJ3.out, ⟨x.val, (l3 _ (by omega) (by omega) (by have := hg1.size; omega)).trans X2.out⟩, (l3 _ (by omega) (by omega) (by have := hg1.size; omega)).trans F2.out, Nat.le_trans (Nat.le_trans hs hg1.size) l1.1⟩
  case done =>
    rintro D ys W1 hD rfl ⟨hJ1, -, -, hs⟩ hK
    have HJ1 := Lib.hid hJ1
    have HK := Lib.hid hK
    clear J1 F1 X1 R1 BX HB hJ1 hK HD
    go_wp2_with fail
    refine ⟨by simp, .inl ⟨_, _, rfl, run_takeDeferred HK.out, ?_⟩⟩
    refine ⟨.tuple #[], ?_, ⟨_, rfl⟩, HJ.out _ _ _ (some D) HJ1.out (grownBy_putObj' _ D (.deferred none)) (fun r e => .inr (by cases e; exact ⟨by omega, _, HK.out, rfl⟩))⟩
    simp [results, Tryz.f74, go_sem]
  case stop =>
    rintro D c pre W1 _ _ h _
    exact h.elim
set_option maxHeartbeats 1000000 in
theorem each_leaf (v : V) (fd : Nat) (env : Array Value) (w : World) (hk : 0 ≤ v.kd ∧ v.kd < 4) : Calls Tryz.prog 74 #[v.a, .func (.func fd) #[] env] w fun e w' => (∃ u, e = .returned u) ∧ Below w.heap.size w w' := by
  obtain ⟨sk, si, st, kd, vec, seed, bits, n, dic, bel, mor⟩ := v
  obtain ⟨h0, h4⟩ := hk
  simp only at h0 h4
  have e1 : (kd == 4) = false := by simp; omega
  have e2 : (kd == 6) = false := by simp; omega
  have e3 : (kd == 5) = false := by simp; omega
  simp only [V.a]
  go_enter Tryz.func74, Tryz.ntmps74
  go_wp2
  go_end0
  exact ⟨⟨_, rfl⟩, (((Below.refl _ _).alloc (Nat.le_refl _) _).alloc (by simp) _).alloc (by simp; omega) _⟩
end Go.Proofs.YtfcegalckjeafaaGreatDoor
namespace Go.Proofs.YtfcegalckjeafaaGreatDoor
open Go.RowKit Go.BigFrame Go.Shelf
/-- What has been counted. -/
def cbel (vs : List V) (pre : List (Fin vs.length)) : Int := pre.foldl (fun a x => max a ((vs[x.val]).bel + 1)) 0
def cmor (vs : List V) (pre : List (Fin vs.length)) : Int := pre.foldl (fun a x => a + ((vs[x.val]).mor + 1)) 0
theorem cbel_snoc (vs : List V) (pre : List (Fin vs.length)) (x : Fin vs.length) : cbel vs (pre ++ [x]) = max (cbel vs pre) ((vs[x.val]).bel + 1) := by simp [cbel]
theorem cmor_snoc (vs : List V) (pre : List (Fin vs.length)) (x : Fin vs.length) : cmor vs (pre ++ [x]) = cmor vs pre + ((vs[x.val]).mor + 1) := by simp [cmor]
/-- Small values. -/
def Smalls (vs : List V) : Prop := ∀ v ∈ vs, 0 ≤ v.bel ∧ v.bel ≤ 100000 ∧ 0 ≤ v.mor ∧ v.mor ≤ 16384
theorem cbel_go {vs : List V} (h : Smalls vs) : ∀ (pre : List (Fin vs.length)) (a : Int), 0 ≤ a → a ≤ 100001 → 0 ≤ pre.foldl (fun a x => max a ((vs[x.val]).bel + 1)) a ∧ pre.foldl (fun a x => max a ((vs[x.val]).bel + 1)) a ≤ 100001
  | [], a, h0, h1 => ⟨h0, h1⟩
  | x :: pre, a, h0, h1 => by
    have := h _ (List.getElem_mem x.isLt)
    rw [List.foldl_cons]
    exact cbel_go h pre _ (by omega) (by omega)
theorem cmor_go {vs : List V} (h : Smalls vs) : ∀ (pre : List (Fin vs.length)) (a : Int), 0 ≤ a → 0 ≤ pre.foldl (fun a x => a + ((vs[x.val]).mor + 1)) a ∧ pre.foldl (fun a x => a + ((vs[x.val]).mor + 1)) a ≤ a + pre.length * 16385
  | [], a, h0 => ⟨h0, by simp⟩
  | x :: pre, a, h0 => by
    have := h _ (List.getElem_mem x.isLt)
    have ih := cmor_go h pre (a + ((vs[x.val]).mor + 1)) (by omega)
    rw [List.foldl_cons, List.length_cons]
    omega
theorem fin_map (vs : List V) : (List.finRange vs.length).map (fun i => vs[i.val]) = vs := by
  apply List.ext_getElem
  · simp
  · intro i h1 h2; simp
theorem cbel_all {w : World} {S : Nat → Prop} {xs : List T} {vs : List V} (h : IsVs w S xs vs) : cbel vs (List.finRange vs.length) = depthL xs ∧ cmor vs (List.finRange vs.length) = nodesL xs := by
  have e1 : cbel vs (List.finRange vs.length) = vs.foldl (fun a v => max a (v.bel + 1)) 0 := by
    conv => rhs; rw [← fin_map vs]
    rw [List.foldl_map]; rfl
  have e2 : cmor vs (List.finRange vs.length) = vs.foldl (fun a v => a + (v.mor + 1)) 0 := by
    conv => rhs; rw [← fin_map vs]
    rw [List.foldl_map]; rfl
  rw [e1, e2]
  clear e1 e2
  have key : ∀ (xs : List T) (vs : List V), IsVs w S xs vs → ∀ a b : Int, vs.foldl (fun a v => max a (v.bel + 1)) (max a 0) = max a (depthL xs : Int) ∧ vs.foldl (fun a v => a + (v.mor + 1)) b = b + nodesL xs := by
    intro xs
    induction xs with
    | nil => intro vs h a b; rw [IsVs] at h; subst h; simp [depthL, nodesL]
    | cons x xs ih =>
      intro vs h a b
      rw [IsVs] at h
      obtain ⟨v, vs', rfl, h1, h2⟩ := h
      obtain ⟨s1, s2, -⟩ := h1.sums
      have := x.depth_eq
      have := x.nodes_eq
      have h3 := (ih vs' h2 (max a (v.bel + 1)) 0).1
      have h4 := (ih vs' h2 0 (b + (v.mor + 1))).2
      rw [List.foldl_cons, List.foldl_cons]
      refine ⟨?_, ?_⟩
      · rw [show max (max a 0) (v.bel + 1) = max (max a (v.bel + 1)) 0 by omega, h3, s1]
        simp only [depthL]; omega
      · rw [h4, s2]
        simp only [nodesL]; omega
  have := key xs vs h 0 0
  refine ⟨?_, ?_⟩
  · have h1 := this.1
    rw [show max (0 : Int) 0 = 0 by rfl] at h1
    rw [h1]; omega
  · rw [this.2]; omega
theorem smalls_of {w : World} {S : Nat → Prop} {xs : List T} {vs : List V} (h : IsVs w S xs vs) (hd : depthL xs ≤ 100000) (hn : nodesL xs ≤ 16384) : Smalls vs ∧ vs.length ≤ 16384 := by
  have hl := h.len
  refine ⟨fun v hv => ?_, by have := len_nodesL xs; omega⟩
  obtain ⟨i, hi, e⟩ := List.mem_iff_getElem.1 hv
  have hx : xs[i]? = some xs[i] := List.getElem?_eq_getElem (by omega)
  have hiv := h.at_ hx (show vs[i]? = some v by rw [List.getElem?_eq_getElem hi, e])
  obtain ⟨s1, s2, -⟩ := hiv.sums
  have d1 := depthL_mem (List.mem_of_getElem? hx)
  have d2 := nodesL_mem (List.mem_of_getElem? hx)
  have := (xs[i]).depth_eq
  have := (xs[i]).nodes_eq
  omega
set_option maxRecDepth 100000 in
set_option maxHeartbeats 4000000 in
theorem counted_vec (v : V) (vs : List V) (xs : List T) (S : Nat → Prop) (w : World) (hk : v.kd = 4) (hr : IsRope w S vs v.vec) (hx : IsVs w S xs vs) (hs : Smalls vs) (hn : vs.length ≤ 16384) :
    Calls Tryz.prog 130 #[v.a] w fun e w' => e = .returned (V.a { v with bel := depthL xs, mor := nodesL xs }) ∧ Below w.heap.size w w' := by
  obtain ⟨sk, si, st, kd, vec, seed, bits, n, dic, bel, mor⟩ := v
  simp only at hk hr
  subst hk
  have HR := Lib.hid hr.bound
  have HX := Lib.hid (cbel_all hx)
  have HS := Lib.hid hs
  clear hr hx hs
  simp only [V.a]
  go_enter Tryz.func130, Tryz.ntmps130
  go_wp2_with fail
  refine calls_at fun W hW => ?_
  obtain ⟨hB, hz, HP, HO⟩ := boxes2 hW
  have HZ := Lib.hid hz
  clear hW
  refine (each_vec ⟨sk, si, st, 4, vec, seed, bits, n, dic, 0, 0⟩ vs (fun k => S k ∧ k < w.heap.size) 179 #[.pointer (some ⟨w.heap.size, 0, none⟩)]
    (fun pre W1 => VB W1 w.heap.size ⟨sk, si, st, 4, vec, seed, bits, n, dic, cbel vs pre, cmor vs pre⟩ ∧ Below w.heap.size w W1 ∧ VB W1 (w.heap.size + 1) V.z ∧ pre.length ≤ pre.length) W rfl (HR.out.keeps (.of_below hB)) hn (fun k hk => by have := hk.2; omega) (enters_of Tryz.func179 (by kernel_rfl) rfl)
    (fun pre A B row hs hg hrow => ⟨Blk.grown hs.1 hg (fun e => by rcases hrow _ e.symm with h | ⟨h, -⟩ <;> omega), hs.2.1.grown hg (by have := hs.2.1.size; omega) (fun r e => by rcases hrow _ e with h | ⟨h, -⟩ <;> omega), Blk.grown hs.2.2.1 hg (fun e => by rcases hrow _ e.symm with h | ⟨h, -⟩ <;> omega), Nat.le_refl _⟩)
    ⟨HP, hB, HO, Nat.le_refl _⟩ (fun pre x W1 hJ hlt _ => ?_)).mono ?_
  · obtain ⟨j1, j2, j3, -⟩ := hJ
    have b1 := cbel_go HS.out pre 0 (by omega) (by omega)
    have b2 := cmor_go HS.out pre 0 (by omega)
    have b3 := HS.out _ (List.getElem_mem x.isLt)
    have b4 : (pre.length : Int) * 16385 ≤ 16384 * 16385 := by omega
    refine (cnt_any ⟨sk, si, st, 4, vec, seed, bits, n, dic, cbel vs pre, cmor vs pre⟩ vs[x.val] (stepI x.val) w.heap.size W1 j1 ⟨b1.1, Int.le_trans b1.2 (by decide)⟩ ⟨b2.1, by have h5 := b2.2; simp only [cmor]; omega⟩ ⟨by omega, by omega⟩ ⟨by omega, by omega⟩).mono ?_
    rintro e W2 ⟨⟨u, rfl⟩, hv2, hg2⟩
    have hw1 : w.heap.size + 2 ≤ W1.heap.size := by have := j3.lt; omega
    refine ⟨⟨_, rfl⟩, ⟨by rw [cbel_snoc, cmor_snoc]; exact hv2, j2.grown hg2 (by omega) (fun r e => by cases e; exact Nat.le_refl _), Blk.grown j3 hg2 (fun e => by have := Option.some.inj e; omega), Nat.le_refl _⟩, ⟨hg2.size, .of_grown hg2 (fun k hk e => by cases e; exact absurd hk.2 (Nat.lt_irrefl _))⟩, KeepsFrom.of_grownBy hg2 (fun j e => by cases e; omega), fun k h1 h2 hk => hg2.block k hk (fun e => by have := Option.some.inj e; omega)⟩
  · rintro e W3 ⟨⟨u, rfl⟩, hv3, hB3, hO3, -⟩
    rw [HX.out.1, HX.out.2] at hv3
    have HV3 := Lib.hid hv3
    have HO3 := Lib.hid hO3
    clear hv3 hO3 HP HO hB
    go_wp2_with (first
      | (refine wpList_ldl rfl (o := ⟨some 8, _, _, _, _, _⟩) rfl rfl (V.l ⟨sk, si, st, 4, vec, seed, bits, n, dic, depthL xs, nodesL xs⟩) isV (fun j u hu => by have := Blk.cell HV3.out j; rw [at_zero, this]; simpa using hu) ?_)
      | (refine wpList_stE (E := eV) rfl rfl infoV11 rfl ⟨sk, si, st, 4, vec, seed, bits, n, dic, depthL xs, nodesL xs⟩ HO3.out rfl rfl ?_; intro w8 HR8 ho8 hB8)
      | fail)
    exact ret_c (p := 2) rfl rfl rfl HR8.out (by kernel_rfl) ⟨rfl, hB8 _ _ hB3 (by omega)⟩
end Go.Proofs.YtfcegalckjeafaaGreatDoor
namespace Go.Proofs.YtfcegalckjeafaaGreatDoor
open Go.RowKit Go.BigFrame Go.Shelf
set_option maxRecDepth 100000 in
set_option maxHeartbeats 2000000 in
theorem vector_any (vs : List V) (xs : List T) (p : Option Addr) (S : Nat → Prop) (w : World) (hr : IsRope w S vs p) (hx : IsVs w S xs vs) (hs : Smalls vs) (hn : vs.length ≤ 16384) :
    Calls Tryz.prog 135 #[.agg #[.pointer p]] w fun e w' => e = .returned (V.a ⟨0, 0, [], 4, p, 0, 0, 0, none, depthL xs, nodesL xs⟩) ∧ Below w.heap.size w w' := by
  have HC := Lib.hid (fun W hW => counted_vec ⟨0, 0, [], 4, p, 0, 0, 0, none, 0, 0⟩ vs xs S W rfl (hr.keeps (.of_below hW)) (hx.keeps (.of_below (w' := W) hW)) hs hn)
  clear hr hx hs
  go_enter Tryz.func135, Tryz.ntmps135
  go_wp2_with fail
  refine calls_at fun W hW => ?_
  obtain ⟨hB, hz, HP, HO⟩ := boxes2 hW
  refine (HC.out W hB).mono ?_
  rintro e w3 ⟨rfl, hb3⟩
  have HO3 := Lib.hid (HO.below hb3 HO.lt)
  have HB3 := Lib.hid (hB.trans (hb3.mono hB.size))
  clear hW hB HP HO hb3 HC
  go_wp2_with (refine wpList_stE (E := eV) rfl rfl infoV11 rfl ⟨0, 0, [], 4, p, 0, 0, 0, none, depthL xs, nodesL xs⟩ HO3.out rfl rfl ?_; intro w8 HR8 ho8 hB8)
  exact ret_c (p := 2) rfl rfl rfl HR8.out (by kernel_rfl) ⟨rfl, hB8 _ _ HB3.out (by omega)⟩
set_option maxRecDepth 100000 in
set_option maxHeartbeats 1000000 in
theorem leaf_any (k i : Int) (t : List UInt8) (w : World) : Calls Tryz.prog 134 #[.agg #[.int .i64 k, .int .i64 i, .string ⟨t.toArray⟩]] w fun e w' => e = .returned (V.a ⟨k, i, t, k, none, 0, 0, 0, none, 0, 0⟩) ∧ Below w.heap.size w w' := by
  go_enter Tryz.func134, Tryz.ntmps134
  go_wp2_with (refine wpList_stE (E := eV) rfl rfl infoV11 rfl ⟨k, i, t, k, none, 0, 0, 0, none, 0, 0⟩ (Blk.new' (by simp)) rfl rfl ?_; intro w8 HR8 ho8 hB8)
  exact ret_c (p := 2) rfl rfl rfl HR8.out (by kernel_rfl) ⟨rfl, hB8 _ _ (((Below.refl _ _).alloc (Nat.le_refl _) _).alloc (by simp) _) (by omega)⟩
end Go.Proofs.YtfcegalckjeafaaGreatDoor
namespace Go.Proofs.YtfcegalckjeafaaGreatDoor
open Go.RowKit Go.BigFrame Go.Shelf
set_option maxRecDepth 100000 in
set_option maxHeartbeats 2000000 in
theorem check_ok (k i : Int) (t : List UInt8) (w : World) (h : Sc k i t) : Calls Tryz.prog 169 #[.agg #[.int .i64 k, .int .i64 i, .string ⟨t.toArray⟩]] w fun e w' => e = .returned (.int .i64 0) ∧ Below w.heap.size w w' := by
  rcases h with ⟨rfl, rfl, rfl⟩ | ⟨rfl, rfl | rfl, rfl⟩ | ⟨rfl, rfl, h1, h2⟩ | ⟨rfl, rfl⟩
  · go_enter Tryz.func169, Tryz.ntmps169
    go_wp2
    go_ret
    exact ⟨rfl, ((Below.refl _ _).alloc (Nat.le_refl _) _).alloc (by simp) _⟩
  · go_enter Tryz.func169, Tryz.ntmps169
    go_wp2
    go_ret
    exact ⟨rfl, ((Below.refl _ _).alloc (Nat.le_refl _) _).alloc (by simp) _⟩
  · go_enter Tryz.func169, Tryz.ntmps169
    go_wp2
    go_ret
    exact ⟨rfl, ((Below.refl _ _).alloc (Nat.le_refl _) _).alloc (by simp) _⟩
  · go_enter Tryz.func169, Tryz.ntmps169
    go_wp2
    go_ret
    exact ⟨rfl, ((Below.refl _ _).alloc (Nat.le_refl _) _).alloc (by simp) _⟩
  · go_enter Tryz.func169, Tryz.ntmps169
    go_wp2
    go_ret
    exact ⟨rfl, ((Below.refl _ _).alloc (Nat.le_refl _) _).alloc (by simp) _⟩
/-- A tree's own five cells. -/
theorem own_leaf (k i : Int) (t : List UInt8) (kA xA : Option Addr) (kc xc : Nat) (w : World) (h : Sc k i t) : Calls Tryz.prog 133 #[.agg #[.int .i64 k, .int .i64 i, .string ⟨t.toArray⟩, .slice kA 0 kc, .slice xA 0 xc]] w fun e w' => e = .returned (.int .i64 0) ∧ Below w.heap.size w w' := by
  have HC := Lib.hid (fun W => check_ok k i t W h)
  have hk : k = 0 ∨ k = 1 ∨ k = 2 ∨ k = 3 := by rcases h with ⟨h, _⟩ | ⟨h, _⟩ | ⟨h, _⟩ | ⟨h, _⟩ <;> omega
  clear h
  rcases hk with rfl | rfl | rfl | rfl
  all_goals
    go_enter Tryz.func133, Tryz.ntmps133
    go_wp2_with fail
    refine (HC.out _).mono ?_
    rintro e w1 ⟨rfl, hb⟩
    have HB := Lib.hid (((Below.refl w.heap.size w).alloc (Nat.le_refl _) (.cells _ _)).trans (hb.mono (by simp)))
    clear hb
    go_wp2
    go_ret
    exact ⟨rfl, HB.out⟩
set_option maxHeartbeats 2000000 in
theorem own_vec (kA xA : Option Addr) (xn kc xc : Nat) (w : World) : Calls Tryz.prog 133 #[.agg #[.int .i64 4, .int .i64 0, .string ⟨#[]⟩, .slice kA 0 kc, .slice xA xn xc]] w fun e w' => e = .returned (.int .i64 0) ∧ Below w.heap.size w w' := by
  go_enter Tryz.func133, Tryz.ntmps133
  go_wp2
  go_ret
  exact ⟨rfl, (Below.refl _ _).alloc (Nat.le_refl _) _⟩
end Go.Proofs.YtfcegalckjeafaaGreatDoor
namespace Go.Proofs.YtfcegalckjeafaaGreatDoor
open Go.RowKit Go.BigFrame Go.Shelf
section
variable {ts e : TypeId} {size bytes : Nat} (E : El ts e size bytes) {ops : Array Oper} {rest : List Oper} {o : Oper} {a : Act} {w : World} {Q : Exit → Act → World → Prop}
include E
theorem wpList_app3 {s x : Operand} (hgd : o.guard = none) (ho : o.op = .call { callee := .builtin .append, args := #[s, x], argTypes := #[ts, ts] })
    {base : Nat} {v : Value} {n : Nat} {xs : List Value} (hown : w.ownsRow base e size v n xs) (hs : a.eval s = v)
    {B : Nat → Prop} {A : Option Addr} {m c : Nat} {news : List Value} (hr : Reads w B size A m news) (hx : a.eval x = .slice A m c) (h1 : ∀ u ∈ news, u.oneCell' = true)
    (h63 : n + m ≤ 16777216) (hsz : bytes ≤ 1024) (hbase : base ≤ w.heap.size)
    (h : ∀ v' w', Hid (w'.ownsRow base e size v' (n + m) (xs ++ news)) → Hid (w.grownBy w' v.ownBlock) → Hid (v'.ownBlock = v.ownBlock ∨ v'.ownBlock = some w.heap.size) → wpList Tryz.prog ops Q rest (a.put o.dst v') w') : wpList Tryz.prog ops Q (o :: rest) a w := by
  obtain ⟨i, z, e1, e2, e3, e4, e5, e6, e7⟩ := E.ex
  refine wpList_append_any w hgd s x ts ho base e i z size bytes e1 e2 e3 e4 e5 e6 e7 v n xs hs hown B A m c news hx hr h1 (by simp only [maxLen]; omega) ?_ hbase (fun v' w' h2 h3 h4 => h v' w' h2 h3 h4)
  have := Nat.mul_le_mul h63 hsz
  omega
end
theorem own_lt {W : World} {base e size k : Nat} {v : Value} {xs : List Value} (h : W.ownsRow base e size v k xs) {j : Nat} (hj : v.ownBlock = some j) : j < W.heap.size := by
  rcases h.2 with ⟨rfl, _⟩ | ⟨g, cap, cur, rfl, _, hgb, _⟩
  · simp [Value.ownBlock] at hj
  · obtain rfl : g = j := by simpa [Value.ownBlock] using hj
    exact (Array.getElem?_eq_some_iff.1 hgb).1
theorem own_grown {W W' : World} {base e size k : Nat} {v : Value} {xs : List Value} {r : Option Nat} (h : W.ownsRow base e size v k xs) (hg : W.grownBy W' r) (hr : ∀ j, r = some j → j < base) : W'.ownsRow base e size v k xs :=
  ⟨h.1, h.2.imp id fun ⟨g, cap, cur, e1, e2, e3, r'⟩ => ⟨g, cap, cur, e1, e2, (hg.block g (Array.getElem?_eq_some_iff.1 e3).1 (fun e => by have := hr g e.symm; omega)).trans e3, r'⟩⟩
mutual
/-- A tree of scalars and vectors that may be. -/
def Pl : T → Prop | .mk k i t ks xs => (Sc k i t ∧ ks = [] ∧ xs = []) ∨ (k = 4 ∧ i = 0 ∧ t = [] ∧ ks = [] ∧ Pls xs)
def Pls : List T → Prop | [] => True | x :: xs => Pl x ∧ Pls xs
end
theorem Pls.at_ : ∀ {xs : List T}, Pls xs → ∀ {i : Nat} {x : T}, xs[i]? = some x → Pl x
  | [], _, i, x, h => by simp at h
  | y :: xs, hp, i, x, h => by
    rw [Pls] at hp
    cases i with
    | zero => simp at h; subst h; exact hp.1
    | succ i => exact Pls.at_ hp.2 (by simpa using h)
def MakeOk (t : T) : Prop := ∀ (r : TR) (S : Nat → Prop) (g n d : Nat) (cs cb : Int) (w : World), IsTr w S t r → ¬ S g → Blk w g 133 #[.int .i64 (n : Int)] → n + t.nodes ≤ 16384 → d + t.depth ≤ 65 →
  Calls Tryz.prog 86 #[.pointer (some ⟨g, 0, none⟩), .agg #[.int .u64 cs, .int .i64 cb], r.a, .int .i64 (d : Int)] w fun e w' => ∃ v, e = .returned (.tuple #[V.a v, .int .i64 0]) ∧ IsV w' (fun k => w.heap.size ≤ k) t v ∧ Blk w' g 133 #[.int .i64 ((n + t.nodes : Nat) : Int)] ∧ w.grownBy w' (some g)
set_option maxRecDepth 100000 in
set_option maxHeartbeats 4000000 in
theorem make_leaf (k i : Int) (t : List UInt8) (h : Sc k i t) : MakeOk (.mk k i t [] []) := by
  intro r S g n d cs cb w ht hSg hg hn hd
  rw [IsTr] at ht
  obtain ⟨rk, ri, rt, kA, kn, kc, xA, xn, xc⟩ := r
  obtain ⟨e1, e2, e3, e4, -, -, e5, -, -⟩ := ht
  simp only [List.length_nil] at e1 e2 e3 e4 e5
  subst e1 e2 e3 e4 e5
  have hn1 : (n : Int) + 1 ≤ 16384 := by simp [T.nodes, nodesL] at hn; omega
  have hd1 : (d : Int) ≤ 64 := by simp [T.depth, depthL] at hd; omega
  have hk4 : rk < 4 := by rcases h with ⟨h, _⟩ | ⟨h, _⟩ | ⟨h, _⟩ | ⟨h, _⟩ <;> omega
  have HO := Lib.hid (fun W => own_leaf rk ri rt kA xA kc xc W h)
  have HL := Lib.hid (fun W => leaf_any rk ri rt W)
  have HV : Hid (∀ W S, IsV W S (.mk rk ri rt [] []) ⟨rk, ri, rt, rk, none, 0, 0, 0, none, 0, 0⟩) := Lib.hid (fun W S => by rw [IsV]; exact .inl ⟨hk4, h, rfl, rfl, rfl⟩)
  have hgl := hg.lt
  have hgl1 : g < w.heap.size + 1 := by omega
  have hgl2 : g < w.heap.size + 1 + 1 := by omega
  have g0 := hg.cell 0
  have gf := hg.frozen 0
  have HG := Lib.hid hg
  simp only [List.getElem?_toArray, List.getElem?_cons_zero] at g0
  clear h hn hd hSg hg
  simp only [TR.a]
  go_enter Tryz.func86, Tryz.ntmps86
  go_wp2_with fail
  refine calls_at fun W hW => ?_
  obtain ⟨hB, hz, HCf, HT, HO8⟩ := boxes3 hW
  have hsz : (w.setCell ⟨g, 0, none⟩ (.int .i64 ((n : Int) + 1))).heap.size = w.heap.size := by simp
  have hG1 : Blk (w.setCell ⟨g, 0, none⟩ (.int .i64 ((n : Int) + 1))) g 133 #[.int .i64 ((n : Int) + 1)] := by simpa using HG.out.set_ 0 (.int .i64 ((n : Int) + 1))
  have hch := chg_trans (chg_set w g 0 (.int .i64 ((n : Int) + 1))) (chg_below hB)
  have hG2 := hG1.below hB hG1.lt
  rw [hsz] at hz HCf HT HO8
  have KEEP : Hid (∀ W', Below W.heap.size W W' → w.grownBy W' (some g) ∧ Blk W' g 133 #[.int .i64 ((n : Int) + 1)] ∧ Blk W' (w.heap.size + 1) 28 #[.int .i64 rk, .int .i64 ri, .string ⟨rt.toArray⟩, .slice kA 0 kc, .slice xA 0 xc] ∧ Blk W' (w.heap.size + 1 + 1) 42 V.z.l.toArray) := Lib.hid fun W' h => ⟨chg_trans hch (chg_below h), hG2.below h hG2.lt, HT.below h HT.lt, HO8.below h HO8.lt⟩
  have HZ := Lib.hid hz
  clear hW hB hz HCf HT HO8 hsz hG1 hch hG2 g0 gf HG hgl1 hgl2
  refine (HO.out _).mono ?_
  rintro e w1 ⟨rfl, hb1⟩
  obtain ⟨-, -, kt, -⟩ := KEEP.out _ hb1
  have c0 := kt.cell 0
  have c1 := kt.cell 1
  have c2 := kt.cell 2
  simp only [List.getElem?_toArray, List.getElem?_cons_succ, List.getElem?_cons_zero] at c0 c1 c2
  clear kt
  go_wp2_with fail
  refine (HL.out _).mono ?_
  rintro e w2 ⟨rfl, hb2⟩
  have hb12 := hb1.trans (hb2.mono hb1.size)
  obtain ⟨kc1, kg, -, ko⟩ := KEEP.out _ hb12
  have KO := Lib.hid ko
  have KG := Lib.hid kg
  have KC := Lib.hid kc1
  clear ko kg kc1 hb12 hb1 hb2 c0 c1 c2 KEEP HL HO
  go_wp2_with (refine wpList_stE (E := eV) rfl rfl infoV11 rfl ⟨rk, ri, rt, rk, none, 0, 0, 0, none, 0, 0⟩ KO.out rfl rfl ?_; intro w8 HR8 ho8 hB8)
  have hgf : Blk w8 g 133 #[.int .i64 ((n + (T.mk rk ri rt [] []).nodes : Nat) : Int)] := by
    rw [show ((n + (T.mk rk ri rt [] []).nodes : Nat) : Int) = (n : Int) + 1 by simp [T.nodes, nodesL]]
    exact (ho8 g (by omega)).trans KG.out
  exact ret_ct (p := 8) (u := 9) rfl rfl rfl HR8.out (by kernel_rfl) rfl ⟨_, rfl, HV.out _ _, hgf, chg_tail KC.out (hB8 _ _ (Below.refl _ _) (by omega))⟩
end Go.Proofs.YtfcegalckjeafaaGreatDoor
