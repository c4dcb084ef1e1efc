/-
  Parts of the proof that AddrTold,AddrBegins calls on: Th, Ld, OpenStructs, Ba, Bb, Bc.
-/
import Derived.ChangeSame
import Derived.Deep.Fields
import Derived.Deep.Slices
import Derived.Deep.Strs
import Derived.LaidMore
import Derived.Lay
import Derived.OpenShut
import Derived.ProofKit
import Derived.Test.YtfcegalckjeafaaGreatDoorRows
import Derived.WalkMore
import Derived.Test.YtfcegalckjeafaaGreatDoorM101
import Derived.Test.YtfcegalckjeafaaGreatDoorM103
import Derived.Test.YtfcegalckjeafaaGreatDoorM105
import Derived.Test.YtfcegalckjeafaaGreatDoorM106
namespace Go.Proofs.YtfcegalckjeafaaGreatDoor
open Go.RowKit Go.BigFrame
theorem blk_type {w : World} {g : Nat} {t t' : TypeId} {c c' : Array Value} (h : Blk w g t c) (h' : Blk w g t' c') : t = t' := by
  have := (show w.heap[g]? = _ from h).symm.trans h'
  simp at this
  exact this.2
/-- The table of all signs. -/
def SgT (w : World) : Prop := ∀ j u, (signsL.map sv)[j]? = some u → w.cell? ((⟨0, 0, none⟩ : Addr).add j) = some u
theorem SgT.below {B : Nat} {w w' : World} (h : SgT w) (hb : Below B w w') (hB : 0 < B) : SgT w' := fun j u hu => (hb.cell (by rw [block_of_add]; exact hB)).trans (h j u hu)
theorem agg_list {ty : Nat} {cs : List Value} (hagg : ∀ w, (isAgg ty).run Tryz.prog w = .ok true w) (hs : (Tryz.prog.info? ty).map (·.size) = some cs.length) {w : World} {ad : Addr} (hc : ∀ j u, cs[j]? = some u → w.cell? (ad.add j) = some u) : (loadVar ty ad).run Tryz.prog w = .ok (.agg cs.toArray) w := by
  have hl := run_loadCells_list (P := Tryz.prog) w ad cs hc
  cases hq : Tryz.prog.info? ty with
  | none => rw [hq] at hs; cases hs
  | some i =>
    have hs' : i.size = cs.length := by simpa [hq] using hs
    simp [loadVar, Sem.run_bind, hagg, sizeOf, typeInfo, hq, hs', hl]
theorem wpList_lda {ops : Array Oper} {rest : List Oper} {o : Oper} {a : Act} {w : World} {Q : Exit → Act → World → Prop} (hgd : o.guard = none) {ty : Nat} {p : Operand} (ho : o.op = .load ty p) {ad : Addr} (hp : a.eval p = .pointer (some ad))
    (cs : List Value) (hagg : ∀ w, (isAgg ty).run Tryz.prog w = .ok true w) (hs : (Tryz.prog.info? ty).map (·.size) = some cs.length) (hc : ∀ j u, cs[j]? = some u → w.cell? (ad.add j) = some u) (hK : wpList Tryz.prog ops Q rest (a.put o.dst (.agg cs.toArray)) w) : wpList Tryz.prog ops Q (o :: rest) a w :=
  wpList_plain hgd fun _ hK' => by
    unfold Oper.wp execOp
    simp only [ho, hp]
    simp only [Instr.loadAt, Instr.sureAddr, Sem.run_bind, Sem.run_pure, Result.andThen_ok, agg_list hagg hs hc]
    exact hK' _ _ hK
def signsV : Value := .agg #[.string ⟨#[46, 46]⟩, .string ⟨#[61, 61]⟩, .string ⟨#[33, 61]⟩, .string ⟨#[60, 61]⟩, .string ⟨#[62, 61]⟩, .string ⟨#[38, 38]⟩, .string ⟨#[124, 124]⟩, .string ⟨#[91]⟩, .string ⟨#[93]⟩, .string ⟨#[123]⟩, .string ⟨#[125]⟩, .string ⟨#[60]⟩, .string ⟨#[62]⟩, .string ⟨#[40]⟩, .string ⟨#[41]⟩, .string ⟨#[44]⟩, .string ⟨#[58]⟩, .string ⟨#[46]⟩, .string ⟨#[42]⟩, .string ⟨#[63]⟩, .string ⟨#[33]⟩, .string ⟨#[36]⟩, .string ⟨#[64]⟩]
theorem signs_eq : (.agg (signsL.map sv).toArray : Value) = signsV := rfl
theorem agg193 (w : World) : (isAgg 193).run Tryz.prog w = .ok true w := by kernel_rfl
theorem size193 : (Tryz.prog.info? 193).map (·.size) = some (signsL.map sv).length := by kernel_rfl
theorem idxsign (W : World) : ∀ n : Nat, n < 23 → (Instr.index 193 signsV (.int .i64 (n : Int))).run Tryz.prog W = .ok (sv (signsL.getD n [])) W
  | 0, _ => by kernel_rfl
  | 1, _ => by kernel_rfl
  | 2, _ => by kernel_rfl
  | 3, _ => by kernel_rfl
  | 4, _ => by kernel_rfl
  | 5, _ => by kernel_rfl
  | 6, _ => by kernel_rfl
  | 7, _ => by kernel_rfl
  | 8, _ => by kernel_rfl
  | 9, _ => by kernel_rfl
  | 10, _ => by kernel_rfl
  | 11, _ => by kernel_rfl
  | 12, _ => by kernel_rfl
  | 13, _ => by kernel_rfl
  | 14, _ => by kernel_rfl
  | 15, _ => by kernel_rfl
  | 16, _ => by kernel_rfl
  | 17, _ => by kernel_rfl
  | 18, _ => by kernel_rfl
  | 19, _ => by kernel_rfl
  | 20, _ => by kernel_rfl
  | 21, _ => by kernel_rfl
  | 22, _ => by kernel_rfl
  | n + 23, h => by omega
def Tok.l (t : Tok) : List Value := [.int .i64 t.k, .int .i64 t.a, .int .i64 t.e, .int .i64 t.i, sv t.t]
def Tok.v (t : Tok) : Value := .agg #[.int .i64 t.k, .int .i64 t.a, .int .i64 t.e, .int .i64 t.i, .string ⟨t.t.toArray⟩]
def Tok.z : Tok := ⟨0, 0, 0, 0, []⟩
/-- A token, or an error at a place. -/
def NextOut (R : Tok ⊕ (Nat × Int)) (w : World) (e : Ending) (w' : World) : Prop := Below w.heap.size w w' ∧ match R with
  | .inl t => e = .returned (.tuple #[t.v, .nilIface])
  | .inr r => ∃ v, e = .returned (.tuple #[Tok.z.v, v]) ∧ ErrAt w' v r.1 r.2
theorem isTok : structB 93 5 = true := by kernel_rfl
def eTk : Enc Tok := ⟨Tok.l, 5, fun _ => rfl, fun s u hu => by
  simp only [Tok.l, List.mem_cons, List.not_mem_nil, or_false] at hu
  rcases hu with rfl | rfl | rfl | rfl | rfl <;> rfl⟩
theorem infoTk : (Tryz.prog.info? 93).map (·.size) = some 5 := by kernel_rfl
/-- The token of a sign. -/
def signTok (l : List UInt8) (p : Nat) : Tok ⊕ (Nat × Int) := match signsL.find? (fun x => x.isPrefixOf l) with
  | some x => .inl ⟨1, p, (p + x.length : Nat), 0, x⟩
  | none => .inr (p, 2)
theorem pre_iff (s : ByteArray) (p : Nat) (x : List UInt8) : x.isPrefixOf ((bytes s).drop p) = true ↔ p + x.length ≤ max p s.size ∧ (s.extract p (p + x.length)).toList = x := by
  rw [Lib.extract_toList, List.isPrefixOf_iff_prefix, Nat.add_sub_cancel_left]
  constructor
  · intro h
    have h1 := h.length_le
    rw [List.length_drop, bytes_len] at h1
    exact ⟨by omega, (List.prefix_iff_eq_take.1 h).symm⟩
  · rintro ⟨_, h⟩
    exact List.prefix_iff_eq_take.2 h.symm
set_option maxRecDepth 100000 in
set_option maxHeartbeats 8000000 in
theorem sign_any (s : ByteArray) (p : Nat) (w : World) (hp : p ≤ s.size) (hs : s.size ≤ 1000000000) (hT : SgT w) (hg : 0 < w.heap.size) :
    Calls Tryz.prog 97 #[.string s, .int .i64 p] w (NextOut (signTok ((bytes s).drop p) p) w) := by
  obtain ⟨R, hR⟩ : ∃ R, R = signTok ((bytes s).drop p) p := ⟨_, rfl⟩
  rw [← hR]
  have HR := Lib.hid hR
  have HT := Lib.hid hT
  clear hR hT
  go_enter Tryz.func97, Tryz.ntmps97
  go_wp2_with (first
    | (refine wpList_lda (o := ⟨some 9, _, _, _, _, _⟩) rfl rfl (ad := ⟨0, 0, none⟩) rfl (signsL.map sv) agg193 size193 (HT.out.below ((Below.refl _ _).alloc (Nat.le_refl _) _) hg) ?_; rw [signs_eq])
    | fail)
  go_loopw [10] (fun i wr => ∃ k : Nat, k ≤ 23 ∧ i = .int .i64 k ∧ Hid (∀ j, j < k → (signsL.getD j []).isPrefixOf ((bytes s).drop p) = false) ∧ Hid (Below w.heap.size w wr ∧ Blk wr w.heap.size 93 (Tok.l Tok.z).toArray)) (fun i _ => (23 - intOf i).toNat)
  case atStart => exact ⟨0, Nat.zero_le _, rfl, fun j h => absurd h (Nat.not_lt_zero _), (Below.refl _ _).alloc (Nat.le_refl _) _, Blk.new _ _ _⟩
  case round =>
    obtain ⟨k, hk, rfl, hF, hB⟩ := hrel
    by_cases hlt : k < 23
    · have HI := Lib.hid (fun W => idxsign W k hlt)
      obtain ⟨xb, hxb⟩ : ∃ xb : ByteArray, xb = ⟨(signsL.getD k []).toArray⟩ := ⟨_, rfl⟩
      have hmem : signsL[k]? = some (signsL.getD k []) := by
        rw [List.getD_eq_getElem?_getD]
        have : k < signsL.length := hlt
        rw [List.getElem?_eq_getElem this]; rfl
      have hx1 : xb.size = (signsL.getD k []).length := by rw [hxb, size_mk]
      have hx2 : xb.toList = signsL.getD k [] := by rw [Lib.toList_data, hxb]
      have hx0 : xb.size ≤ 2 := by
        rw [hx1]
        exact (by decide : ∀ x ∈ signsL, x.length ≤ 2) _ (List.mem_of_getElem? hmem)
      have hsv : sv (signsL.getD k []) = .string xb := by rw [hxb]; rfl
      rw [hsv] at HI
      have HX := Lib.hid (pre_iff s p (signsL.getD k []))
      rw [← hx1, ← hx2] at HX
      have hki : (k : Int) < 23 := by omega
      by_cases hpre : xb.toList.isPrefixOf ((bytes s).drop p) = true
      · obtain ⟨q1, q2⟩ := HX.out.1 hpre
        have hle : p + xb.size ≤ s.size := by omega
        have hRR : Hid (R = .inl ⟨1, p, (p + xb.size : Nat), 0, xb.toList⟩) := Lib.hid (by
          rw [HR.out, signTok, show signsL.find? (fun x => x.isPrefixOf ((bytes s).drop p)) = some (signsL.getD k []) from ?_, hx1, hx2]
          rw [List.find?_eq_some_iff_getElem]
          refine ⟨by rw [← hx2]; exact hpre, k, hlt, ?_, fun j hj => ?_⟩
          · have := (List.getElem?_eq_some_iff.1 hmem).2; exact this
          · have := hF.out j hj
            have hj' : j < signsL.length := Nat.lt_trans hj hlt
            rw [List.getD_eq_getElem?_getD, List.getElem?_eq_getElem hj', Option.getD_some] at this
            simp only [this]; rfl)
        have hi1 : (p : Int) + (xb.size : Int) ≤ (s.size : Int) := by omega
        have hz3 : ((p : Int) + (xb.size : Int)).toNat = p + xb.size := by omega
        have hI := HI.out wr
        have hq2 : ((s.extract p (p + xb.size)).toList == xb.toList) = true := by rw [q2]; exact beq_self_eq_true _
        have HBW := Lib.hid hB.out.1
        have HBO := Lib.hid hB.out.2
        have hxs : (⟨xb.toList.toArray⟩ : ByteArray) = xb := by rw [Lib.toList_data]
        have HXS := Lib.hid hxs
        clear hpre q1 q2 HX hF HI hmem hx1 hx2 hxb hsv hB hxs
        go_wp2_with (first
          | (refine wpList_stE (E := eTk) rfl rfl infoTk rfl ⟨1, p, (p + xb.size : Nat), 0, xb.toList⟩ HBO.out rfl (by simp only [eTk, Tok.l, sv, HXS.out]; simp [Act.eval]) ?_; intro w8 HR8 ho8 hB8)
          | fail)
        exact ret_ct (p := 4) (u := 5) rfl rfl rfl HR8.out (by kernel_rfl) rfl ⟨hB8 _ _ HBW.out (Nat.le_refl _), by rw [hRR.out]; rfl⟩
      · have hnot : ¬ (p + xb.size ≤ s.size ∧ (s.extract p (p + xb.size)).toList = xb.toList) := fun ⟨a, b⟩ => hpre (HX.out.2 ⟨by omega, b⟩)
        have hI := HI.out wr
        have hnext : Hid (∀ j, j < k + 1 → (signsL.getD j []).isPrefixOf ((bytes s).drop p) = false) := Lib.hid fun j hj => by
          rcases Nat.lt_or_ge j k with h | h
          · exact hF.out j h
          · obtain rfl : j = k := by omega
            rw [← hx2]; exact Bool.eq_false_iff.2 hpre
        clear HX hF HI hmem hx1 hx2 hxb hsv hpre
        by_cases hle : p + xb.size ≤ s.size
        · have hq2 : ((s.extract p (p + xb.size)).toList == xb.toList) = false := by
            rw [Bool.eq_false_iff]
            intro h
            exact hnot ⟨hle, by simpa using h⟩
          have hi1 : (p : Int) + (xb.size : Int) ≤ (s.size : Int) := by omega
          have hz3 : ((p : Int) + (xb.size : Int)).toNat = p + xb.size := by omega
          clear hnot
          go_wp2
          go_roundw
          case rel => exact ⟨k + 1, by omega, by go_num, hnext, hB⟩
          case measure => simp [intOf]; omega
        · have hi1 : ¬ (p : Int) + (xb.size : Int) ≤ (s.size : Int) := by omega
          clear hnot
          go_wp2
          go_roundw
          case rel => exact ⟨k + 1, by omega, by go_num, hnext, hB⟩
          case measure => simp [intOf]; omega
    · obtain rfl : k = 23 := by omega
      have hRR : Hid (R = .inr (p, 2)) := Lib.hid (by
        rw [HR.out, signTok, show signsL.find? (fun x => x.isPrefixOf ((bytes s).drop p)) = none from ?_]
        rw [List.find?_eq_none]
        intro x hx
        obtain ⟨j, hj, e⟩ := List.mem_iff_getElem.1 hx
        have := hF.out j hj
        rw [List.getD_eq_getElem?_getD, List.getElem?_eq_getElem hj, Option.getD_some] at this
        rw [← e, this]
        exact Bool.false_ne_true)
      clear hF
      have HBW := Lib.hid hB.out.1
      have HBO := Lib.hid hB.out.2
      clear hB
      go_wp2_with fail
      refine (new_err 2 _ wr (by decide)).mono ?_
      rintro e w9 ⟨v, rfl, hv, hb⟩
      have HV := Lib.hid hv
      have HB9 := Lib.hid (HBW.out.trans (hb.mono HBW.out.size))
      have HO9 := Lib.hid (HBO.out.below hb HBO.out.lt)
      clear hv hb HBW HBO
      go_wp2_with (refine wpList_stE (E := eTk) rfl rfl infoTk rfl Tok.z HO9.out rfl rfl ?_; intro w8 HR8 ho8 hB8)
      refine ret_ct (p := 4) (u := 5) rfl rfl rfl HR8.out (by kernel_rfl) rfl ⟨hB8 _ _ HB9.out (Nat.le_refl _), ?_⟩
      rw [hRR.out]
      obtain ⟨h1, b, h2, h3⟩ := HV.out
      refine ⟨v, rfl, h1, b, h2, (ho8 b (fun e => ?_)).trans h3⟩
      rw [e] at h3
      exact absurd (blk_type h3 HO9.out) (by decide)
end Go.Proofs.YtfcegalckjeafaaGreatDoor
namespace Go.Proofs.YtfcegalckjeafaaGreatDoor
open Go.RowKit Go.ChangeShapes Go.WideShapes
abbrev lexLaid : List (String × DataW Unit) := [("math/bits.deBruijn32tab", Rows.laid_math_bits_deBruijn32tab), ("placket/lex.signs", Rows.laid_placket_lex_signs)]
theorem ownGo : ownKnob Tryz.prog.godebug = none := by kernel_rfl
theorem laidOut : laidOutB Tryz.prog = true := by kernel_rfl
theorem gSg : Tryz.prog.globalNamed "placket/lex.signs" = some 0 := by kernel_rfl
theorem tSg : (Tryz.prog.globals[0]?).map (·.type) = some 193 := by kernel_rfl
theorem sg_data : (Rows.laid_placket_lex_signs : DataW Unit) = .agg (signsL.map fun t => .lit (.string t)) := rfl
theorem signs_of_laid {W : World} (h : laidMetH Tryz.prog lexLaid W) : SgT W ∧ 0 < W.heap.size := by
  rw [MakeChecks.laidMetH_plain _ _ _ (by kernel_rfl)] at h
  obtain ⟨ps, ⟨_, _, _, _, _, _, _, _, _, _, ⟨g0, t0, cs0, f0, p0, q0, hg0, ht0, hv0, hd0, _, _⟩, _⟩, _, _⟩ := h
  obtain rfl := Option.some.inj (gSg.symm.trans hg0)
  obtain rfl := Option.some.inj (tSg.symm.trans ht0)
  obtain ⟨xs, m, rfl, hx, hlen, hn, hel⟩ := DataW.trod_array Tryz.underlying193 hd0
  have c1 : Tryz.prog.cellsOf 9 = 1 := by kernel_rfl
  have hT : SgT W := by
    intro j u hu
    have hj : j < 23 := by have := (List.getElem?_eq_some_iff.1 hu).1; simpa [signsL] using this
    have hxj : j < xs.length := by omega
    have h0 := hel j hj
    rw [c1, Nat.mul_one, List.getElem?_eq_getElem hxj] at h0
    obtain ⟨k, e1, e2, _⟩ := DataW.trod_string Tryz.underlying9 h0
    have hx1 := congrArg Prod.fst hx
    rw [sg_data] at hx1
    simp only [DataW.agg.injEq] at hx1
    have hx2 := congrArg (·[j]?) hx1
    simp only [List.getElem?_map, List.getElem?_eq_getElem hxj, Option.map_some, e2] at hx2
    rw [addr_plain, World.var?_cell hg0 hv0 j]
    have hc : cs0.toList[j]? = some (.string k) := by
      have := congrArg (·[0]?) e1
      simpa using this
    rw [Array.getElem?_toList] at hc
    rw [hc]
    rw [List.getElem?_map] at hu
    cases hs : signsL[j]? with
    | none => rw [hs] at hu; cases hu
    | some s =>
      rw [hs] at hu hx2
      simp only [Option.map_some, Option.some.injEq, DataW.lit.injEq, Lit.string.injEq] at hx2 hu
      rw [← hu, hx2]
      simp [sv]
  refine ⟨hT, ?_⟩
  have := hT 0 _ rfl
  unfold World.cell? at this
  cases hh : W.heap[0]? with
  | none => simp [Addr.add, hh] at this
  | some o => exact (Array.getElem?_eq_some_iff.1 hh).1
theorem door_met (os : Os) (args : Array Value) : laidMetH Tryz.prog lexLaid ((World.doorLaid Tryz.prog 400 os).forCall (fun _ _ => 0) ⟨#[], args, []⟩).memory :=
  laidMetH_of_parts3 (fuel := 8) (laidMet_of_run' 8 (by kernel_rfl) (by kernel_rfl)) (by kernel_rfl) (by kernel_rfl)
end Go.Proofs.YtfcegalckjeafaaGreatDoor
namespace Go.Proofs.YtfcegalckjeafaaGreatDoor
open Go.ChangeShapes Go.WideShapes Go.Deep
section
variable {H : Type} {enc : TypeId × Value → H} {P : Program} {w : World} {base : Nat} {spare : Nat → Bool} {held : Bool}
theorem open_slice_fields {t e : TypeId} {fs : Array Field} {fuel : Nat} {cs : List Value} {x : DataW H × List MemPlace} (ht : P.underlying t = some (.slice e)) (he : P.underlying e = some (.struct fs))
    (hone : oneCellFields P fs = true) (hC : P.cellsOf e = fs.size) (h : DataW.trod enc P w base spare held fuel t cs = some x) :
    (cs = [.slice none 0 0] ∧ x = (.nil, [])) ∨
    ∃ (a : Addr) (len cap m : Nat) (D : Nat → DataW H) (Pl : Nat → List MemPlace), cs = [.slice (some a) len cap] ∧ base ≤ a.block ∧ len ≤ cap ∧ cap ≤ maxLen ∧ m = (if spare a.block then cap else len) ∧
      x = (.slice ((List.range len).map D) ((List.range (m - len)).map fun j => D (len + j)), MemPlace.row a (m * fs.size) ++ (List.range m).flatMap Pl) ∧
      ∀ i, i < m → ∃ (ys : List (DataW H × List MemPlace)) (n : Nat), D i = .agg (ys.map (·.1)) ∧ Pl i = ys.flatMap (·.2) ∧ ys.length = fs.size ∧
        ∀ (j : Nat) (f : Field), fs[j]? = some f → ∃ (v : Value) (y : DataW H × List MemPlace), w.cell? (a.add (i * fs.size + j)) = some v ∧ ys[j]? = some y ∧ DataW.trod enc P w base spare held n f.type [v] = some y := by
  rcases open_slice ht h with h0 | ⟨a, len, cap, m, n, D, Pl, hcs, hb, hl, hm, hmm, hx, hi⟩
  · exact .inl h0
  · refine .inr ⟨a, len, cap, m, D, Pl, hcs, hb, hl, hm, hmm, by rw [hC] at hx; exact hx, fun i him => ?_⟩
    obtain ⟨cs', hc, ht'⟩ := hi i him
    rw [hC] at hc
    obtain ⟨ys, n', hn', hy, hlen, hyl, hf⟩ := DataW.trod_struct he ht'
    obtain ⟨_, hcl, hat⟩ := World.cells?_some hc
    simp only [Prod.mk.injEq] at hy
    refine ⟨ys, n', hy.1, hy.2, hyl, fun j f hj => ?_⟩
    obtain ⟨ho, hk⟩ := hone_of hone j f hj
    have hjl : j < fs.size := (Array.getElem?_eq_some_iff.1 hj).1
    have hcell := hat j hjl
    have hv : cs'[j]? = some (cs'[j]'(by omega)) := List.getElem?_eq_getElem (by omega)
    have h1 := hf j f hj
    rw [ho, hk] at h1
    have hone' : (cs'.drop j).take 1 = [cs'[j]'(by omega)] := by
      rw [List.drop_eq_getElem_cons (by omega)]
      rfl
    rw [hone'] at h1
    have hys : ys[j]? = some (ys[j]'(by omega)) := List.getElem?_eq_getElem (by omega)
    refine ⟨_, _, ?_, hys, h1.trans hys⟩
    rw [← Go.Deep.add_add, hcell, hv]
end
end Go.Proofs.YtfcegalckjeafaaGreatDoor
namespace Go.Proofs.YtfcegalckjeafaaGreatDoor
open Go.RowKit Go.BigFrame
deriving instance DecidableEq for St
set_option maxRecDepth 100000 in
set_option maxHeartbeats 4000000 in
theorem same_any (A B : Option Addr) (c d : Nat) (l m : List St) (w : World) (hl : StepsIn w A l) (hm : StepsIn w B m) (hn : l.length ≤ 9223372036854775807) (hn2 : m.length ≤ 9223372036854775807) :
    Calls Tryz.prog 17 #[.slice A l.length c, .slice B m.length d] w fun e w' => e = .returned (.bool (decide (l = m))) ∧ Below w.heap.size w w' := by
  have HL := Lib.hid hl
  have HM := Lib.hid hm
  obtain ⟨R, hR⟩ : ∃ R, R = decide (l = m) := ⟨_, rfl⟩
  have HR := Lib.hid hR
  rw [← hR]
  clear hl hm hR
  by_cases hlen : l.length = m.length
  · have hli : ((l.length : Int) == (m.length : Int)) = true := by simp; omega
    go_enter Tryz.func17, Tryz.ntmps17
    go_wp2
    go_loopw [13] (fun i wr => ∃ k : Nat, k ≤ l.length ∧ i = .int .i64 k ∧ Hid (l.take k = m.take k) ∧ Hid (Below w.heap.size w wr)) (fun i _ => (l.length - intOf i).toNat)
    case atStart => exact ⟨0, Nat.zero_le _, rfl, by simp [Hid], Below.refl _ _⟩
    case round =>
      obtain ⟨k, hk, rfl, hE, hB⟩ := hrel
      by_cases hlt : k < l.length
      · obtain ⟨ad, K, I, T, rfl, hx, hc0, hc1, hc2⟩ := (HL.out.below hB.out).at_ hlt
        obtain ⟨bd, K', I', T', rfl, hy, hd0, hd1, hd2⟩ := (HM.out.below hB.out).at_ (k := k) (by omega)
        have HX := Lib.hid hx
        have HY := Lib.hid hy
        have hki : (k : Int) < (m.length : Int) := by omega
        have hkm : k < m.length := by omega
        have HF : Hid ((⟨K, I, T⟩ : St) ≠ ⟨K', I', T'⟩ → R = false) := Lib.hid fun h => by
          rw [HR.out]
          refine decide_eq_false fun e => h ?_
          have e1 := HX.out
          rw [e, HY.out] at e1
          exact (Option.some.inj e1).symm
        have hTb : ((⟨T.toArray⟩ : ByteArray).toList == (⟨T'.toArray⟩ : ByteArray).toList) = decide (T = T') := by rw [Lib.toList_data, Lib.toList_data, Bool.eq_iff_iff]; simp
        have hTe : T = T' → (⟨T.toArray⟩ : ByteArray) = ⟨T'.toArray⟩ := fun e => by rw [e]
        generalize (⟨T.toArray⟩ : ByteArray) = tb at *
        generalize (⟨T'.toArray⟩ : ByteArray) = tb' at *
        clear hx hy
        by_cases q1 : K = K'
        · by_cases q2 : I = I'
          · by_cases q3 : T = T'
            · have hnx : Hid (l.take (k + 1) = m.take (k + 1)) := Lib.hid (by rw [List.take_add_one, List.take_add_one, hE.out, HX.out, HY.out, q1, q2, q3])
              obtain rfl := hTe q3
              subst q1 q2
              clear hTb hTe hE q3
              go_wp2
              go_region
              all_goals go_wp2
              all_goals exact ⟨⟨k + 1, by omega, by go_num, hnx, hB.out.drew⟩, by simp [intOf]; omega⟩
            · subst q1 q2
              have e3 : (tb.toList == tb'.toList) = false := by rw [hTb]; exact decide_eq_false q3
              clear hTb hTe
              go_wp2
              go_region
              all_goals go_wp2
              all_goals go_ret
              all_goals exact ⟨by rw [HF.out (fun e => q3 (by injection e))]; rfl, hB.out.drew⟩
          · subst q1
            have e2 : (I == I') = false := by simpa using q2
            clear hTb hTe
            go_wp2
            go_region
            all_goals go_wp2
            all_goals go_ret
            all_goals exact ⟨by rw [HF.out (fun e => q2 (by injection e))]; rfl, hB.out.drew⟩
        · have e1 : (K == K') = false := by simpa using q1
          clear hTb hTe
          go_wp2
          go_region
          all_goals go_wp2
          all_goals go_ret
          all_goals exact ⟨by rw [HF.out (fun e => q1 (by injection e))]; rfl, hB.out.drew⟩
      · have hX : Hid (R = true) := Lib.hid (by
          rw [HR.out]
          have h1 := hE.out
          rw [List.take_of_length_le (by omega), List.take_of_length_le (by omega)] at h1
          exact decide_eq_true h1)
        go_wp2
        go_ret
        exact ⟨by rw [hX.out]; rfl, hB.out⟩
  · have hli : ((l.length : Int) == (m.length : Int)) = false := by simp; omega
    have hX : Hid (R = false) := Lib.hid (by rw [HR.out]; exact decide_eq_false fun e => hlen (by rw [e]))
    go_enter Tryz.func17, Tryz.ntmps17
    go_wp2
    go_ret
    exact ⟨by rw [hX.out]; rfl, Below.refl _ _⟩
set_option maxRecDepth 100000 in
set_option maxHeartbeats 4000000 in
theorem equal_any (A B : Option Addr) (c d : Nat) (l m : List St) (w : World) (hl : StepsIn w A l) (hm : StepsIn w B m) (hn : l.length ≤ 9223372036854775807) (hn2 : m.length ≤ 9223372036854775807) :
    Calls Tryz.prog 58 #[.slice A l.length c, .slice B m.length d] w fun e w' => e = .returned (.bool (decide (l = m))) ∧ Below w.heap.size w w' := by
  have HL := Lib.hid hl
  have HM := Lib.hid hm
  obtain ⟨R, hR⟩ : ∃ R, R = decide (l = m) := ⟨_, rfl⟩
  have HR := Lib.hid hR
  rw [← hR]
  clear hl hm hR
  by_cases hlen : l.length = m.length
  · have hli : ((l.length : Int) == (m.length : Int)) = true := by simp; omega
    go_enter Tryz.func58, Tryz.ntmps58
    go_wp2
    go_loopw [13] (fun i wr => ∃ k : Nat, k ≤ l.length ∧ i = .int .i64 k ∧ Hid (l.take k = m.take k) ∧ Hid (Below w.heap.size w wr)) (fun i _ => (l.length - intOf i).toNat)
    case atStart => exact ⟨0, Nat.zero_le _, rfl, by simp [Hid], Below.refl _ _⟩
    case round =>
      obtain ⟨k, hk, rfl, hE, hB⟩ := hrel
      by_cases hlt : k < l.length
      · obtain ⟨ad, K, I, T, rfl, hx, hc0, hc1, hc2⟩ := (HL.out.below hB.out).at_ hlt
        obtain ⟨bd, K', I', T', rfl, hy, hd0, hd1, hd2⟩ := (HM.out.below hB.out).at_ (k := k) (by omega)
        have HX := Lib.hid hx
        have HY := Lib.hid hy
        have hki : (k : Int) < (m.length : Int) := by omega
        have hkm : k < m.length := by omega
        have HF : Hid ((⟨K, I, T⟩ : St) ≠ ⟨K', I', T'⟩ → R = false) := Lib.hid fun h => by
          rw [HR.out]
          refine decide_eq_false fun e => h ?_
          have e1 := HX.out
          rw [e, HY.out] at e1
          exact (Option.some.inj e1).symm
        have hTb : ((⟨T.toArray⟩ : ByteArray).toList == (⟨T'.toArray⟩ : ByteArray).toList) = decide (T = T') := by rw [Lib.toList_data, Lib.toList_data, Bool.eq_iff_iff]; simp
        have hTe : T = T' → (⟨T.toArray⟩ : ByteArray) = ⟨T'.toArray⟩ := fun e => by rw [e]
        generalize (⟨T.toArray⟩ : ByteArray) = tb at *
        generalize (⟨T'.toArray⟩ : ByteArray) = tb' at *
        clear hx hy
        by_cases q1 : K = K'
        · by_cases q2 : I = I'
          · by_cases q3 : T = T'
            · have hnx : Hid (l.take (k + 1) = m.take (k + 1)) := Lib.hid (by rw [List.take_add_one, List.take_add_one, hE.out, HX.out, HY.out, q1, q2, q3])
              obtain rfl := hTe q3
              subst q1 q2
              clear hTb hTe hE q3
              go_wp2
              go_region
              all_goals go_wp2
              all_goals exact ⟨⟨k + 1, by omega, by go_num, hnx, hB.out.drew⟩, by simp [intOf]; omega⟩
            · subst q1 q2
              have e3 : (tb.toList == tb'.toList) = false := by rw [hTb]; exact decide_eq_false q3
              clear hTb hTe
              go_wp2
              go_region
              all_goals go_wp2
              all_goals go_ret
              all_goals exact ⟨by rw [HF.out (fun e => q3 (by injection e))]; rfl, hB.out.drew⟩
          · subst q1
            have e2 : (I == I') = false := by simpa using q2
            clear hTb hTe
            go_wp2
            go_region
            all_goals go_wp2
            all_goals go_ret
            all_goals exact ⟨by rw [HF.out (fun e => q2 (by injection e))]; rfl, hB.out.drew⟩
        · have e1 : (K == K') = false := by simpa using q1
          clear hTb hTe
          go_wp2
          go_region
          all_goals go_wp2
          all_goals go_ret
          all_goals exact ⟨by rw [HF.out (fun e => q1 (by injection e))]; rfl, hB.out.drew⟩
      · have hX : Hid (R = true) := Lib.hid (by
          rw [HR.out]
          have h1 := hE.out
          rw [List.take_of_length_le (by omega), List.take_of_length_le (by omega)] at h1
          exact decide_eq_true h1)
        go_wp2
        go_ret
        exact ⟨by rw [hX.out]; rfl, hB.out⟩
  · have hli : ((l.length : Int) == (m.length : Int)) = false := by simp; omega
    have hX : Hid (R = false) := Lib.hid (by rw [HR.out]; exact decide_eq_false fun e => hlen (by rw [e]))
    go_enter Tryz.func58, Tryz.ntmps58
    go_wp2
    go_ret
    exact ⟨by rw [hX.out]; rfl, Below.refl _ _⟩
end Go.Proofs.YtfcegalckjeafaaGreatDoor
namespace Go.Proofs.YtfcegalckjeafaaGreatDoor
open Go.RowKit Go.BigFrame
/-- Whether one begins another. -/
def begB (l m : List St) : Bool := decide (l.length ≤ m.length) && decide (l = m.take l.length)
theorem StepsIn.take_ {w : World} {A : Option Addr} {l : List St} (h : StepsIn w A l) (n : Nat) : StepsIn w A (l.take n) := fun h0 => by
  rw [List.length_take] at h0
  obtain ⟨ad, e, hb, hc⟩ := h (by omega)
  refine ⟨ad, e, hb, fun k o ho => hc k o ?_⟩
  rw [List.getElem?_take] at ho
  split at ho
  · exact ho
  · cases ho
set_option maxRecDepth 100000 in
set_option maxHeartbeats 2000000 in
theorem begins_any (A B : Option Addr) (c d : Nat) (l m : List St) (w : World) (hl : StepsIn w A l) (hm : StepsIn w B m) (hd : m.length ≤ d) (hn : l.length ≤ 1000000) (hn2 : m.length ≤ 1000000) :
    Calls Tryz.prog 24 #[.slice A l.length c, .slice B m.length d] w fun e w' => e = .returned (.bool (begB l m)) ∧ Below w.heap.size w w' := by
  by_cases hlen : l.length ≤ m.length
  · have hlt : (m.take l.length).length = l.length := by rw [List.length_take]; omega
    have hc := fun W hW => equal_any A B c d l (m.take l.length) W (hl.below hW) ((hm.take_ l.length).below (w' := W) hW) (by omega) (by omega)
    rw [hlt] at hc
    have HC := Lib.hid hc
    have hli : (l.length : Int) ≤ (m.length : Int) := by omega
    have hld : (l.length : Int) ≤ (d : Int) := by omega
    have hldn : l.length ≤ d := by omega
    have HR : Hid (begB l m = decide (l = m.take l.length)) := Lib.hid (by rw [begB, decide_eq_true hlen]; rfl)
    rw [HR.out]
    clear hl hm hc HR
    go_enter Tryz.func24, Tryz.ntmps24
    go_wp2_with fail
    refine (HC.out w (Below.refl _ _)).mono ?_
    rintro e w1 ⟨rfl, hb⟩
    have HB := Lib.hid hb
    clear hb
    go_wp2
    go_ret
    exact ⟨rfl, HB.out⟩
  · have hli : ¬ (l.length : Int) ≤ (m.length : Int) := by omega
    rw [show begB l m = false by rw [begB, decide_eq_false hlen]; rfl]
    go_enter Tryz.func24, Tryz.ntmps24
    go_wp2
    go_ret
    exact ⟨rfl, Below.refl _ _⟩
set_option maxRecDepth 100000 in
set_option maxHeartbeats 2000000 in
theorem rbegins_any (A B : Option Addr) (c d : Nat) (l m : List St) (w : World) (hl : StepsIn w A l) (hm : StepsIn w B m) (hd : m.length ≤ d) (hn : l.length ≤ 1000000) (hn2 : m.length ≤ 1000000) :
    Calls Tryz.prog 25 #[.slice A l.length c, .slice B m.length d] w fun e w' => e = .returned (.bool (begB l m)) ∧ Below w.heap.size w w' := by
  by_cases hlen : l.length ≤ m.length
  · have hlt : (m.take l.length).length = l.length := by rw [List.length_take]; omega
    have hc := fun W hW => same_any A B c d l (m.take l.length) W (hl.below hW) ((hm.take_ l.length).below (w' := W) hW) (by omega) (by omega)
    rw [hlt] at hc
    have HC := Lib.hid hc
    have hli : (l.length : Int) ≤ (m.length : Int) := by omega
    have hld : (l.length : Int) ≤ (d : Int) := by omega
    have hldn : l.length ≤ d := by omega
    have HR : Hid (begB l m = decide (l = m.take l.length)) := Lib.hid (by rw [begB, decide_eq_true hlen]; rfl)
    rw [HR.out]
    clear hl hm hc HR
    go_enter Tryz.func25, Tryz.ntmps25
    go_wp2_with fail
    refine (HC.out w (Below.refl _ _)).mono ?_
    rintro e w1 ⟨rfl, hb⟩
    have HB := Lib.hid hb
    clear hb
    go_wp2
    go_ret
    exact ⟨rfl, HB.out⟩
  · have hli : ¬ (l.length : Int) ≤ (m.length : Int) := by omega
    rw [show begB l m = false by rw [begB, decide_eq_false hlen]; rfl]
    go_enter Tryz.func25, Tryz.ntmps25
    go_wp2
    go_ret
    exact ⟨rfl, Below.refl _ _⟩
end Go.Proofs.YtfcegalckjeafaaGreatDoor
namespace Go.Proofs.YtfcegalckjeafaaGreatDoor
open Go.RowKit Go.BigFrame
/-- A slice of addresses. -/
def AddrsIn (w : World) (A : Option Addr) (L : List (List St)) : Prop := 0 < L.length → ∃ ad : Addr, A = some ad ∧ ad.block < w.heap.size ∧ ∀ (k : Nat) (l : List St), L[k]? = some l → ∃ B d, w.cell? (ad.add k) = some (.slice B l.length d) ∧ l.length ≤ d ∧ StepsIn w B l
theorem AddrsIn.below {w w' : World} {A : Option Addr} {L : List (List St)} (h : AddrsIn w A L) (hb : Below w.heap.size w w') : AddrsIn w' A L := fun h0 => by
  obtain ⟨ad, e, hl, hc⟩ := h h0
  refine ⟨ad, e, Nat.lt_of_lt_of_le hl hb.size, fun k l hk => ?_⟩
  obtain ⟨B, d, h1, h2, h3⟩ := hc k l hk
  exact ⟨B, d, (hb.cell (by rw [block_of_add]; exact hl)).trans h1, h2, h3.below hb⟩
theorem AddrsIn.at_ {w : World} {A : Option Addr} {L : List (List St)} (h : AddrsIn w A L) {k : Nat} (hk : k < L.length) : ∃ ad B d l, A = some ad ∧ L[k]? = some l ∧ w.cell? (ad.add k) = some (.slice B l.length d) ∧ l.length ≤ d ∧ StepsIn w B l := by
  obtain ⟨ad, e, hl, hc⟩ := h (by omega)
  obtain ⟨B, d, h1, h2, h3⟩ := hc k L[k] (List.getElem?_eq_getElem hk)
  exact ⟨ad, B, d, L[k], e, List.getElem?_eq_getElem hk, h1, h2, h3⟩
/-- None of so many addresses begins another one (of the first i, and of the i-th the first k). -/
def ApQ (L : List (List St)) (i k : Nat) : Prop := ∀ (a b : Nat) (x y : List St), L[a]? = some x → L[b]? = some y → a ≠ b → (a < i ∨ a = i ∧ b < k) → begB x y = false
/-- Whether no address begins another one. -/
def apartB (L : List (List St)) : Bool := (List.range L.length).all fun a => (List.range L.length).all fun b => a == b || !begB (L.getD a []) (L.getD b [])
theorem apart_no {L : List (List St)} {a b : Nat} {x y : List St} (ha : L[a]? = some x) (hb : L[b]? = some y) (h : a ≠ b) (hx : begB x y = true) : apartB L = false := by
  have la := (List.getElem?_eq_some_iff.1 ha).1
  have lb := (List.getElem?_eq_some_iff.1 hb).1
  rw [Bool.eq_false_iff]
  intro hp
  have h1 := List.all_eq_true.1 hp a (List.mem_range.2 la)
  have h2 := List.all_eq_true.1 h1 b (List.mem_range.2 lb)
  simp [List.getD_eq_getElem?_getD, ha, hb, hx, h] at h2
theorem apart_yes {L : List (List St)} (h : ApQ L L.length 0) : apartB L = true := by
  refine List.all_eq_true.2 fun a ha => List.all_eq_true.2 fun b hb => ?_
  have la := List.mem_range.1 ha
  have lb := List.mem_range.1 hb
  by_cases e : a = b
  · simp [e]
  · have := h a b L[a] L[b] (List.getElem?_eq_getElem la) (List.getElem?_eq_getElem lb) e (.inl la)
    simp [List.getD_eq_getElem?_getD, List.getElem?_eq_getElem la, List.getElem?_eq_getElem lb, this]
theorem ApQ.next {L : List (List St)} {i k : Nat} {x y : List St} (h : ApQ L i k) (hx : L[i]? = some x) (hy : L[k]? = some y) (hb : i = k ∨ begB x y = false) : ApQ L i (k + 1) := fun a b u v hu hv hne hab => by
  rcases hab with h1 | ⟨rfl, h1⟩
  · exact h a b u v hu hv hne (.inl h1)
  · by_cases e : b = k
    · subst e
      rw [hx] at hu; rw [hy] at hv
      cases hu; cases hv
      rcases hb with h2 | h2
      · exact absurd h2 hne
      · exact h2
    · exact h a b u v hu hv hne (.inr ⟨rfl, by omega⟩)
theorem ApQ.row {L : List (List St)} {i : Nat} (h : ApQ L i L.length) : ApQ L (i + 1) 0 := fun a b u v hu hv hne hab => by
  have lb := (List.getElem?_eq_some_iff.1 hv).1
  rcases hab with h1 | ⟨_, h1⟩
  · by_cases e : a = i
    · exact h a b u v hu hv hne (.inr ⟨e, lb⟩)
    · exact h a b u v hu hv hne (.inl (by omega))
  · omega
theorem cb2 {w w' : World} {p : Addr} {u : Value} (hb : Below w.heap.size w w') (h : w.cell? p = some u) : w'.cell? p = some u := (hb.cell (World.block_lt_of_cell? w p h)).trans h
theorem if_not {b : Bool} {A B : Prop} (h : b = false) (hB : B) : if b = true then A else B := by subst h; exact hB
set_option maxRecDepth 100000 in
set_option maxHeartbeats 4000000 in
theorem rapart_any (A : Option Addr) (c : Nat) (L : List (List St)) (w : World) (h : AddrsIn w A L) (hn : L.length ≤ 1000) (hs : ∀ l ∈ L, l.length ≤ 1000000) :
    Calls Tryz.prog 27 #[.slice A L.length c] w fun e w' => e = .returned (.bool (apartB L)) ∧ Below w.heap.size w w' := by
  have H := Lib.hid h
  have HS := Lib.hid hs
  obtain ⟨R, hR⟩ : ∃ R, R = apartB L := ⟨_, rfl⟩
  have HR := Lib.hid hR
  rw [← hR]
  clear h hs hR
  go_enter Tryz.func27, Tryz.ntmps27
  go_wp2
  go_loopw [7] (fun s wr => ∃ i : Nat, i ≤ L.length ∧ s = .int .i64 i ∧ Hid (ApQ L i 0) ∧ Hid (Below w.heap.size w wr)) (fun s _ => (L.length - intOf s).toNat)
  case atStart => exact ⟨0, Nat.zero_le _, rfl, fun a b u v _ _ _ h => by omega, Below.refl _ _⟩
  case round =>
    obtain ⟨i, hi, rfl, hQ, hB⟩ := hrel
    by_cases hlt : i < L.length
    · go_wp2
      go_loopw [12] (fun s wq => ∃ k : Nat, k ≤ L.length ∧ s = .int .i64 k ∧ Hid (ApQ L i k) ∧ Hid (Below w.heap.size w wq)) (fun s _ => (L.length - intOf s).toNat)
      case atStart => exact ⟨0, Nat.zero_le _, rfl, hQ, hB⟩
      case round =>
        obtain ⟨k, hk, rfl, hQ2, hB2⟩ := hrel
        by_cases hlk : k < L.length
        · obtain ⟨ad, B1, d1, x, rfl, hx, hc1, hd1, hs1⟩ := (H.out.below hB2.out).at_ hlt
          obtain ⟨ad', B2, d2, y, e, hy, hc2, hd2, hs2⟩ := (H.out.below hB2.out).at_ hlk
          obtain rfl := Option.some.inj e
          have hii : (i : Int) < (L.length : Int) := by omega
          have hkk : (k : Int) < (L.length : Int) := by omega
          have hxn := HS.out x (List.mem_of_getElem? hx)
          have hyn := HS.out y (List.mem_of_getElem? hy)
          by_cases hik : i = k
          · subst hik
            have hQ3 := Lib.hid (hQ2.out.next hx hy (.inl rfl))
            clear hx hy e
            go_wp2
            refine wp_region_sq 13 [(0, true), (1, true), (2, true), (3, true), (4, true), (5, true), (6, true), (7, true), (8, true), (9, true), (10, true), (11, true), (12, false)] (fun _ => True) (by kernel_rfl) (by kernel_rfl) trivial (fun hS => ?_)
            iterate 2 (refine sq_t (o := ⟨_, _, _, _, _, _⟩) (v := ?_) rfl (by rfl) ?_ ?_; rotate_left; (· (intro w hSw; (try dsimp only at hSw); (try obtain ⟨hS1, hS2⟩ := hSw); go_simp; try with_reducible rfl)); try simp only [Act.put, List.setIfInBounds_toArray, List.set_cons_zero, List.set_cons_succ])
            iterate 2 (refine sq_t (o := ⟨_, _, _, _, _, _⟩) (v := .bool false) rfl (by rfl) (fun w' _ => by go_simp) ?_; try simp only [Act.put, List.setIfInBounds_toArray, List.set_cons_zero, List.set_cons_succ])
            iterate 8 (refine sq_n (o := ⟨_, _, _, _, _, _⟩) rfl (by rfl) ?_; try simp only [Act.put, List.setIfInBounds_toArray, List.set_cons_zero, List.set_cons_succ])
            refine sq_c rfl (fun K hK => ?_)
            refine if_not (by rfl) ?_
            refine hK.out _ _ trivial (fun hS => ?_)
            clear hK K
            try simp only [Act.put, List.setIfInBounds_toArray, List.set_cons_zero, List.set_cons_succ]
            simp only [wpSq, List.drop_succ_cons, List.drop_zero]
            go_wp2
            refine NoPanic.normal ?_
            go_wp2
            go_roundw
            case rel => exact ⟨i + 1, by omega, by go_num, hQ3, hB2.out.drew⟩
            case measure => simp [intOf]; omega
          · have hne : ((i : Int) == (k : Int)) = false := by simp; omega
            have hik' : ¬ ((i : Int) = (k : Int)) := by omega
            have HC := Lib.hid (fun W hW => rbegins_any B1 B2 d1 d2 x y W (hs1.below hW) (hs2.below (w' := W) hW) hd2 hxn hyn)
            go_wp2
            refine wp_region_sq 13 [(0, true), (1, true), (2, true), (3, true), (4, true), (5, true), (6, true), (7, true), (8, true), (9, true), (10, true), (11, true), (12, false)] (fun w' => w'.cell? (ad.add i) = some (.slice B1 x.length d1) ∧ w'.cell? (ad.add k) = some (.slice B2 y.length d2)) (by kernel_rfl) (by kernel_rfl) ⟨hc1, hc2⟩ (fun hS => ?_)
            iterate 2 (refine sq_t (o := ⟨_, _, _, _, _, _⟩) (v := ?_) rfl (by rfl) ?_ ?_; rotate_left; (· (intro w hSw; (try dsimp only at hSw); (try obtain ⟨hS1, hS2⟩ := hSw); go_simp; try with_reducible rfl)); try simp only [Act.put, List.setIfInBounds_toArray, List.set_cons_zero, List.set_cons_succ])
            iterate 2 (refine sq_t (o := ⟨_, _, _, _, _, _⟩) (v := .bool true) rfl (by rfl) (fun w' _ => by go_simp; try exact hik') ?_; try simp only [Act.put, List.setIfInBounds_toArray, List.set_cons_zero, List.set_cons_succ])
            iterate 8 (refine sq_t (o := ⟨_, _, _, _, _, _⟩) (v := ?_) rfl (by rfl) ?_ ?_; rotate_left; (· (intro w hSw; (try dsimp only at hSw); (try obtain ⟨hS1, hS2⟩ := hSw); go_simp; try with_reducible rfl)); try simp only [Act.put, List.setIfInBounds_toArray, List.set_cons_zero, List.set_cons_succ])
            refine sq_c rfl (fun K hK => ?_)
            go_simp
            refine (HC.out _ (Below.refl _ _).drew).mono ?_
            rintro e1 w4 ⟨rfl, hb4⟩
            have HB4 := Lib.hid (hB2.out.trans (((Below.refl _ _).drew.trans hb4).mono hB2.out.size))
            refine hK.out _ _ ⟨cb2 ((Below.refl _ _).drew.trans hb4) hc1, cb2 ((Below.refl _ _).drew.trans hb4) hc2⟩ (fun hS => ?_)
            clear hK K
            try simp only [Act.put, List.setIfInBounds_toArray, List.set_cons_zero, List.set_cons_succ]
            cases hbg : begB x y with
            | true =>
              have hX : Hid (R = false) := Lib.hid (by rw [HR.out]; exact apart_no hx hy hik hbg)
              simp only [wpSq, List.drop_succ_cons, List.drop_zero]
              go_wp2
              refine NoPanic.normal ?_
              go_wp2
              go_ret
              exact ⟨by rw [hX.out]; rfl, HB4.out⟩
            | false =>
              have hQ3 := Lib.hid (hQ2.out.next hx hy (.inr hbg))
              simp only [wpSq, List.drop_succ_cons, List.drop_zero]
              go_wp2
              refine NoPanic.normal ?_
              go_wp2
              go_roundw
              case rel => exact ⟨k + 1, by omega, by go_num, hQ3, HB4⟩
              case measure => simp [intOf]; omega
        · obtain rfl : k = L.length := by omega
          have hQ3 := Lib.hid hQ2.out.row
          go_wp2
          go_roundw
          case rel => exact ⟨i + 1, by omega, by go_num, hQ3, hB2⟩
          case measure => simp [intOf]; omega
    · obtain rfl : i = L.length := by omega
      have hX : Hid (R = true) := Lib.hid (by rw [HR.out]; exact apart_yes hQ.out)
      go_wp2
      go_ret
      exact ⟨by rw [hX.out]; rfl, hB.out⟩
end Go.Proofs.YtfcegalckjeafaaGreatDoor
