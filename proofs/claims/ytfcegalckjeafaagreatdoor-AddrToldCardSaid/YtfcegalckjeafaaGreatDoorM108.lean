/-
  Parts of the proof that AddrTold,AddrBegins calls on: Le, LawRow, SpMath, Ha.
-/
import Derived.Below
import Derived.Carry
import Derived.ChangeSame
import Derived.ChangeSlices
import Derived.ChangeVars
import Derived.Laws.BitsLemmas
import Derived.Lib.BitFns
import Derived.Lib.Tables
import Derived.Lib.TrailingZeros
import Derived.ProofKit
import Derived.Test.YtfcegalckjeafaaGreatDoorM101
import Derived.Test.YtfcegalckjeafaaGreatDoorM105
import Derived.Test.YtfcegalckjeafaaGreatDoorM106
import Derived.Test.YtfcegalckjeafaaGreatDoorM107
namespace Go.Proofs.YtfcegalckjeafaaGreatDoor
open Go.RowKit Go.ChangeShapes Go.WideShapes Go.Deep
theorem ba_eta' (s : ByteArray) : (⟨s.data.toList.toArray⟩ : ByteArray) = s := by cases s; rfl
/-- Steps as they come in. -/
def StIn (W : World) (v : Value) (l : List St) : Prop := ∃ (A : Option Addr) (c : Nat), v = .slice A l.length c ∧ StepsIn W A l ∧ l.length ≤ c ∧ (A = none → c = 0) ∧ l.length ≤ maxLen ∧ ∀ s ∈ l, (-9223372036854775808 ≤ s.I ∧ s.I ≤ 9223372036854775807) ∧ (-9223372036854775808 ≤ s.K ∧ s.K ≤ 9223372036854775807) ∧ s.T.length ≤ maxLen
set_option maxRecDepth 100000 in
theorem steps_core {H : Type} {enc : TypeId × Value → H} {W : World} {v : Value} {fuel : Nat} {x : DataW H × List MemPlace} (hf : DataW.trod enc Tryz.prog W 0 (fun _ => true) true fuel 46 [v] = some x) (hlt : ∀ y ∈ x.2, y.block < W.heap.size) : ∃ l, StIn W v l := by
  rcases open_slice_fields Tryz.underlying46 Tryz.underlying48 (by kernel_rfl) (by kernel_rfl) hf with ⟨h0, _⟩ | ⟨a, n, m, m', D, Pl, h0, _, hl, hcm, hm, hx, hi⟩
  · simp at h0
    subst h0
    exact ⟨[], none, 0, rfl, fun h => absurd h (by simp), Nat.le_refl _, fun _ => rfl, Nat.zero_le _, fun s h => by cases h⟩
  · simp at h0
    subst h0
    simp at hm
    subst hm
    have each : ∀ i, ∃ o : St, ((-9223372036854775808 ≤ o.I ∧ o.I ≤ 9223372036854775807) ∧ (-9223372036854775808 ≤ o.K ∧ o.K ≤ 9223372036854775807) ∧ o.T.length ≤ maxLen) ∧ (i < n → W.cell? (a.add (i * 3)) = some (.int .i64 o.K) ∧ W.cell? ⟨(a.add (i * 3)).block, (a.add (i * 3)).off + 1, none⟩ = some (.int .i64 o.I) ∧ W.cell? ⟨(a.add (i * 3)).block, (a.add (i * 3)).off + 2, none⟩ = some (.string ⟨o.T.toArray⟩)) := fun i => by
      by_cases hin : i < n
      · obtain ⟨ys, k, _, _, _, hf⟩ := hi i (by omega)
        obtain ⟨v0, y0, c0, -, t0⟩ := hf 0 _ rfl
        obtain ⟨v1, y1, c1, -, t1⟩ := hf 1 _ rfl
        obtain ⟨v2, y2, c2, -, t2⟩ := hf 2 _ rfl
        obtain ⟨x0, e0, -, wf0⟩ := DataW.trod_int Tryz.underlying3 t0
        obtain ⟨x1, e1, -, wf1⟩ := DataW.trod_int Tryz.underlying3 t1
        obtain ⟨x2, e2, -, wf2⟩ := DataW.trod_string Tryz.underlying9 t2
        simp at e0 e1 e2
        subst e0 e1 e2
        refine ⟨⟨x0, x1, x2.data.toList⟩, ⟨?_, ?_, ?_⟩, fun _ => ⟨by simpa using c0, ?_, ?_⟩⟩
        · simpa [Lit.wf, IntKind.min, IntKind.max, IntKind.signed, IntKind.bits] using wf1
        · simpa [Lit.wf, IntKind.min, IntKind.max, IntKind.signed, IntKind.bits] using wf0
        · simpa [Lit.wf] using wf2
        · rw [← c1]
          show W.cell? ((a.add (i * 3)).add 1) = _
          rw [Go.Deep.add_add]; rfl
        · show W.cell? ((a.add (i * 3)).add 2) = _
          rw [Go.Deep.add_add]
          have e : (⟨x2.data.toList.toArray⟩ : ByteArray) = x2 := ba_eta' x2
          rw [e]
          exact c2
      · exact ⟨⟨0, 0, []⟩, ⟨by decide, by decide, Nat.zero_le _⟩, fun h => absurd h hin⟩
    refine ⟨(List.range n).map fun i => (each i).choose, some a, m', by simp, fun hn => ⟨a, rfl, ?_, fun k o hk => ?_⟩, by simpa using hl, nofun, by rw [List.length_map, List.length_range]; omega, fun s hs => ?_⟩
    · have : MemPlace.cell a.block a.off ∈ x.2 := by
        rw [hx]
        simp at hn
        simp [MemPlace.row]
        omega
      exact hlt _ this
    · rw [List.getElem?_map, Option.map_eq_some_iff] at hk
      obtain ⟨i, hi2, rfl⟩ := hk
      obtain ⟨h1, h2⟩ := List.getElem?_eq_some_iff.1 hi2
      simp at h1 h2
      subst h2
      exact (each k).choose_spec.2 h1
    · obtain ⟨i, _, rfl⟩ := List.mem_map.1 hs
      exact (each i).choose_spec.1
set_option maxRecDepth 100000 in
theorem open_steps {H : Type} {enc : TypeId × Value → H} {W : World} {r : Reach} {base : Nat} {v : Value} {d : DataW H} {ps : List MemPlace} (hval : Value.okWide Tryz.prog W r base 46 v)
    (hd : DataW.Trod enc Tryz.prog W 0 (fun _ => true) true 46 v d ps) (hlt : ∀ x ∈ ps, x.block < W.heap.size) : ∃ l, StIn W v l := by
  obtain ⟨A, n, c, rfl⟩ := okWide_slice Tryz.underlying46 hval
  obtain ⟨fuel, hf⟩ := hd
  exact steps_core (by simpa [Value.cells] using hf) hlt
set_option maxRecDepth 100000 in
theorem open_addrs {H : Type} {enc : TypeId × Value → H} {W : World} {r : Reach} {base : Nat} {v : Value} {d : DataW H} {ps : List MemPlace} (hval : Value.okWide Tryz.prog W r base 31 v)
    (hd : DataW.Trod enc Tryz.prog W 0 (fun _ => true) true 31 v d ps) (hlt : ∀ x ∈ ps, x.block < W.heap.size) :
    ∃ (A : Option Addr) (L : List (List St)) (c : Nat), v = .slice A L.length c ∧ AddrsIn W A L ∧ L.length ≤ c ∧ L.length ≤ maxLen ∧ ∀ l ∈ L, l.length ≤ maxLen := by
  obtain ⟨A, n, c, rfl⟩ := okWide_slice Tryz.underlying31 hval
  obtain ⟨fuel, hf⟩ := hd
  rcases open_slice1 Tryz.underlying31 (by kernel_rfl) hf with ⟨h0, _⟩ | ⟨a, len, cap, m, n', V, D, Pl, h0, hb, hl, hm, hmm, hx, hi⟩
  · simp [Value.cells] at h0
    obtain ⟨rfl, rfl, rfl⟩ := h0
    exact ⟨none, [], 0, rfl, fun h => absurd h (by simp), Nat.le_refl _, Nat.zero_le _, fun l h => by cases h⟩
  · simp [Value.cells] at h0
    obtain ⟨rfl, rfl, rfl⟩ := h0
    simp at hmm
    subst hmm
    have hps : ps = MemPlace.row a m ++ (List.range m).flatMap Pl := (Prod.mk.inj hx).2
    have each : ∀ i, ∃ l : List St, i < m → StIn W (V i) l := fun i => by
      by_cases hin : i < m
      · obtain ⟨l, hl⟩ := steps_core (hi i hin).2 (fun y hy => hlt y (by
          rw [hps]
          exact List.mem_append_right _ (List.mem_flatMap.2 ⟨i, List.mem_range.2 hin, hy⟩)))
        exact ⟨l, fun _ => hl⟩
      · exact ⟨[], fun h => absurd h hin⟩
    refine ⟨some a, (List.range n).map fun i => (each i).choose, m, by simp, fun hn => ⟨a, rfl, ?_, fun k l hk => ?_⟩, by simpa using hl, by rw [List.length_map, List.length_range]; omega, fun l hl' => ?_⟩
    · have : MemPlace.cell a.block a.off ∈ ps := by
        rw [hps]
        simp at hn
        simp [MemPlace.row]
        exact .inl (by omega)
      exact hlt _ this
    · rw [List.getElem?_map, Option.map_eq_some_iff] at hk
      obtain ⟨i, hi2, rfl⟩ := hk
      obtain ⟨h1, h2⟩ := List.getElem?_eq_some_iff.1 hi2
      simp at h1 h2
      subst h2
      obtain ⟨A, c, e1, e2, e3, -⟩ := (each k).choose_spec (by omega)
      exact ⟨A, c, (hi k (by omega)).1.trans (congrArg some e1), e3, e2⟩
    · obtain ⟨i, hi2, rfl⟩ := List.mem_map.1 hl'
      have := List.mem_range.1 hi2
      obtain ⟨A, c, -, -, -, -, e, -⟩ := (each i).choose_spec (by omega)
      exact e
end Go.Proofs.YtfcegalckjeafaaGreatDoor
namespace Go.Proofs.YtfcegalckjeafaaGreatDoor
open Go.RowKit Go.ChangeShapes Go.WideShapes
theorem trodAll_below {H : Type} {enc : TypeId × Value → H} {P : Program} (hl : laidOutB P = true) {W W' : World} (hb : Below W.heap.size W W') :
    ∀ {ts : List TypeId} {vs : List Value} {ds : List (DataW H)} {ps : List MemPlace}, (ts.all fun t => P.readableRec t && decide (t < P.types.size)) = true →
      DataW.TrodAll enc P W 0 (fun _ => true) true ts vs ds ps → (∀ x ∈ ps, x.block < W.heap.size) →
      DataW.TrodAll enc P W' 0 (fun b => decide (b < W.heap.size)) true ts vs ds ps
  | [], _, _, _, _, h, _ => by
    obtain ⟨rfl, rfl, rfl⟩ := trodAll_nil h
    exact h
  | t :: ts, _, _, _, ht, h, hlt => by
    obtain ⟨v, vs1, d, ds1, a, b, rfl, rfl, rfl, h1, h2⟩ := trodAll_cons h
    simp only [List.all_cons, Bool.and_eq_true, decide_eq_true_eq] at ht
    exact ⟨a, b, Below.trod hl ht.1.1 ht.1.2 h1 hb (fun x hx => hlt x (by simp [hx])), trodAll_below hl hb (by simpa using ht.2) h2 (fun x hx => hlt x (by simp [hx])), rfl⟩
theorem post_true {H : Type} {enc : TypeId × Value → H} {P : Program} (hl : laidOutB P = true) {f : Func} {s : ChangeSpec} {apart fresh handsOn : Bool} {W W' : World} {args : Array Value} {ds : List (DataW H)} {before : List MemPlace} {tb : TypeId}
    (hp : (f.params.toList.all fun t => P.readableRec t && decide (t < P.types.size)) = true) (hr : f.resultTypes = #[tb]) (ht : P.underlying tb = some .bool) (hv : s.vars = [])
    (hW : DataW.Whole enc P f.params.toList s.vars apart W args.toList ds [] before) (hfn : s.fn H (ds ++ []) = { results := [.lit (.bool true)], args := ds }) (hb : Below W.heap.size W W') :
    s.post enc P f apart fresh handsOn false W args (.bool true) W' := by
  have hlt := hW.lt
  have hW' := hW
  obtain ⟨p, q, hA, hV, rfl, hfz, hnd⟩ := hW
  rw [hv] at hV
  obtain ⟨_, rfl⟩ := trodVars_none hV
  refine ⟨ds, [], p ++ [], [], p, [], hW', ?_, ?_, ?_, ?_, fun h => by cases h⟩
  · rw [hfn, hr]
    exact trodAll_mk1 (shut_bool ht true)
  · rw [hfn]
    exact trodAll_below hl hb hp hA (fun x hx => hlt x (by simp [hx]))
  · rw [hfn, hv]
    rfl
  · exact hb.frame _
end Go.Proofs.YtfcegalckjeafaaGreatDoor
namespace Go.Proofs.YtfcegalckjeafaaGreatDoor
namespace Sp
universe u
variable {α : Type u}
/-- The bits of a row: bit i is set just where place i has something. -/
def bitsL : List (Option α) → Nat
  | [] => 0
  | o :: m => (if o.isSome then 1 else 0) + 2 * bitsL m
/-- The things of a row, by rising places. -/
def vals (m : List (Option α)) : List α := m.filterMap id
/-- What place i has. -/
def at_ (m : List (Option α)) (i : Nat) : Option α := (m[i]?).join
end Sp
end Go.Proofs.YtfcegalckjeafaaGreatDoor
namespace Go.Proofs.YtfcegalckjeafaaGreatDoor
open Go.RowKit Go.BigFrame
/-- A key and what it has. -/
structure PR where
  key : List UInt8
  v : V
/-- A slot: a pair, or a node below. -/
structure SL where
  p : PR
  bel : Option Addr
def PR.l (p : PR) : List Value := sv p.key :: p.v.l
def SL.l (s : SL) : List Value := [sv s.p.key, .int .i64 s.p.v.sk, .int .i64 s.p.v.si, sv s.p.v.st, .int .i64 s.p.v.kd, .pointer s.p.v.vec, .int .u64 s.p.v.seed, .int .i64 s.p.v.bits, .int .i64 s.p.v.n, .pointer s.p.v.dic, .int .i64 s.p.v.bel, .int .i64 s.p.v.mor, .pointer s.bel]
def SL.a (s : SL) : Value := .agg #[.string ⟨s.p.key.toArray⟩, .int .i64 s.p.v.sk, .int .i64 s.p.v.si, .string ⟨s.p.v.st.toArray⟩, .int .i64 s.p.v.kd, .pointer s.p.v.vec, .int .u64 s.p.v.seed, .int .i64 s.p.v.bits, .int .i64 s.p.v.n, .pointer s.p.v.dic, .int .i64 s.p.v.bel, .int .i64 s.p.v.mor, .pointer s.bel]
def PR.a (p : PR) : Value := .agg #[.string ⟨p.key.toArray⟩, .int .i64 p.v.sk, .int .i64 p.v.si, .string ⟨p.v.st.toArray⟩, .int .i64 p.v.kd, .pointer p.v.vec, .int .u64 p.v.seed, .int .i64 p.v.bits, .int .i64 p.v.n, .pointer p.v.dic, .int .i64 p.v.bel, .int .i64 p.v.mor]
def PR.z : PR := ⟨[], V.z⟩
def SL.z : SL := ⟨PR.z, none⟩
def eS : Enc SL := ⟨SL.l, 13, fun _ => rfl, fun s u hu => by
  simp only [SL.l, List.mem_cons, List.not_mem_nil, or_false] at hu
  rcases hu with rfl | rfl | rfl | rfl | rfl | rfl | rfl | rfl | rfl | rfl | rfl | rfl | rfl <;> rfl⟩
def eP : Enc PR := ⟨PR.l, 12, fun _ => rfl, fun s u hu => by
  simp only [PR.l, V.l, List.mem_cons, List.not_mem_nil, or_false] at hu
  rcases hu with rfl | rfl | rfl | rfl | rfl | rfl | rfl | rfl | rfl | rfl | rfl | rfl <;> rfl⟩
theorem fold_pop8 : (⟨(([0, 1, 1, 2, 1, 2, 2, 3, 1, 2, 2, 3, 2, 3, 3, 4, 1, 2, 2, 3, 2, 3, 3, 4, 2, 3, 3, 4, 3, 4, 4, 5, 1, 2, 2, 3, 2, 3, 3, 4, 2, 3, 3, 4, 3, 4, 4, 5, 2, 3, 3, 4, 3, 4, 4, 5, 3, 4, 4, 5, 4, 5, 5, 6].append [1, 2, 2, 3, 2, 3, 3, 4, 2, 3, 3, 4, 3, 4, 4, 5, 2, 3, 3, 4, 3, 4, 4, 5, 3, 4, 4, 5, 4, 5, 5, 6, 2, 3, 3, 4, 3, 4, 4, 5, 3, 4, 4, 5, 4, 5, 5, 6, 3, 4, 4, 5, 4, 5, 5, 6, 4, 5, 5, 6, 5, 6, 6, 7]).append ([1, 2, 2, 3, 2, 3, 3, 4, 2, 3, 3, 4, 3, 4, 4, 5, 2, 3, 3, 4, 3, 4, 4, 5, 3, 4, 4, 5, 4, 5, 5, 6, 2, 3, 3, 4, 3, 4, 4, 5, 3, 4, 4, 5, 4, 5, 5, 6, 3, 4, 4, 5, 4, 5, 5, 6, 4, 5, 5, 6, 5, 6, 6, 7].append [2, 3, 3, 4, 3, 4, 4, 5, 3, 4, 4, 5, 4, 5, 5, 6, 3, 4, 4, 5, 4, 5, 5, 6, 4, 5, 5, 6, 5, 6, 6, 7, 3, 4, 4, 5, 4, 5, 5, 6, 4, 5, 5, 6, 5, 6, 6, 7, 4, 5, 5, 6, 5, 6, 6, 7, 5, 6, 6, 7, 6, 7, 7, 8])).toArray⟩ : ByteArray) = Lib.pop8tab := by kernel_rfl
attribute [local go_sem high] fold_pop8
theorem cb' {w w' : World} {p : Addr} {u : Value} (hb : Below w.heap.size w w') (h : w.cell? p = some u) : w'.cell? p = some u := cell_keeps (S := fun _ => True) h (.of_below hb) trivial
end Go.Proofs.YtfcegalckjeafaaGreatDoor
