/-
  Parts of the proof that AddrBegins,AddrTexts calls on: PtAs2, QtFault, QtStr, QtSt.
-/
import Derived.BigQuiet
import Derived.Deep.RegionHeld3
import Derived.Laws.Concat
import Derived.Laws.IdiomStrings
import Derived.Lib.Hide
import Derived.Lib.Strings
import Derived.LoopTactic
import Derived.RangeFuncBox
import Derived.WalkLawsBesides
import Derived.WalkSpells
import Derived.Test.YtfcegalckjeafaaGreatDoorM301
namespace Go.Proofs.YtfcegalckjeafaaGreatDoor
open Go.RowKit Go.Extern.Stop Go.Stop Go.Extern
theorem method_Kind (h : Value) (w : World) : (Go.method 452 260 (.agg #[h]) "Kind").run Tryz.prog w = .ok (263, h) w := by kernel_rfl
theorem method_Elem (h : Value) (w : World) : (Go.method 452 260 (.agg #[h]) "Elem").run Tryz.prog w = .ok (277, .agg #[h]) w := by kernel_rfl
theorem method_Implements (h : Value) (w : World) : (Go.method 452 260 (.agg #[h]) "Implements").run Tryz.prog w = .ok (278, .agg #[h]) w := by kernel_rfl
theorem method_AssignableTo (h : Value) (w : World) : (Go.method 452 260 (.agg #[h]) "AssignableTo").run Tryz.prog w = .ok (275, .agg #[h]) w := by kernel_rfl
theorem ta27_As (v : Value) (xT : TypeId) (w : World) : (Instr.typeAssert (.iface 64 v) xT 265 true).run Tryz.prog w = .ok (.tuple #[.nilIface, .bool false]) w := run_typeAssert_lacksB Tryz.underlying265 (by kernel_rfl) (by kernel_rfl) v xT w
theorem ta27_U1 (v : Value) (xT : TypeId) (w : World) : (Instr.typeAssert (.iface 64 v) xT 268 true).run Tryz.prog w = .ok (.tuple #[.nilIface, .bool false]) w := run_typeAssert_lacksB Tryz.underlying268 (by kernel_rfl) (by kernel_rfl) v xT w
theorem ta27_U2 (v : Value) (xT : TypeId) (w : World) : (Instr.typeAssert (.iface 64 v) xT 270 true).run Tryz.prog w = .ok (.tuple #[.nilIface, .bool false]) w := run_typeAssert_lacksB Tryz.underlying270 (by kernel_rfl) (by kernel_rfl) v xT w
theorem ta59_As (v : Value) (xT : TypeId) (w : World) : (Instr.typeAssert (.iface 152 v) xT 265 true).run Tryz.prog w = .ok (.tuple #[.nilIface, .bool false]) w := run_typeAssert_lacksB Tryz.underlying265 (by kernel_rfl) (by kernel_rfl) v xT w
theorem ta59_U1 (v : Value) (xT : TypeId) (w : World) : (Instr.typeAssert (.iface 152 v) xT 268 true).run Tryz.prog w = .ok (.tuple #[.iface 152 v, .bool true]) w := run_typeAssert_hasB Tryz.underlying268 (by kernel_rfl) v xT w
theorem method_Unwrap (e : Addr) (w : World) : (Go.method 452 152 (.pointer (some e)) "Unwrap").run Tryz.prog w = .ok (270, .pointer (some e)) w := by kernel_rfl
set_option maxRecDepth 100000 in
set_option maxHeartbeats 4000000 in
theorem as1_59 (e t vb : Addr) (old : Value) (w : World) (hv : w.cell? vb = some (.pointer (some t))) (hvl : vb.block < w.heap.size) (ht : w.cell? t = some old) (hf : w.frozen? t = false) (htl : t.block < w.heap.size) :
    Calls Tryz.prog 163 #[.iface 152 (.pointer (some e)), .iface 221 (.pointer (some t)), .agg #[.pointer (some ⟨3, 221, none⟩), .pointer (some vb), .int .u64 150], .iface 260 (.agg #[.pointer (some ⟨3, 152, none⟩)])] w fun ev w' =>
      ev = .returned (.bool true) ∧ w' = ((w.alloc (.cells #[.pointer (some ⟨3, 221, none⟩), .pointer (some vb), .int .u64 150] 225)).alloc (.cells #[.pointer (some e)] 152)).setCell t (.pointer (some e)) := by
  have hTypeOf := @run_callFunc_extern Tryz.prog 193 _ ReflectliteType.typeOf Tryz.func193 (by kernel_rfl) (by kernel_rfl) (by kernel_rfl) (by kernel_rfl)
  have hAssignableTo := @run_callFunc_extern Tryz.prog 275 _ (ReflectliteType.relation "AssignableTo" ReflectliteType.assignableTo) Tryz.func275 (by kernel_rfl) (by kernel_rfl) (by kernel_rfl) (by kernel_rfl)
  have hVElem := @run_callFunc_extern Tryz.prog 194 _ (ReflectliteValue.method (ReflectliteValue.valueError "reflectlite.Value.Elem" 0) ReflectliteValue.elem) Tryz.func194 (by kernel_rfl) (by kernel_rfl) (by kernel_rfl) (by kernel_rfl)
  have hValueOf := @run_callFunc_extern Tryz.prog 160 _ (fun args => ReflectliteValue.unpack (args.getD 0 (.tuple #[]))) Tryz.func160 (by kernel_rfl) (by kernel_rfl) (by kernel_rfl) (by kernel_rfl)
  have hSet := @run_callFunc_extern Tryz.prog 195 _ ReflectliteValue.set Tryz.func195 (by kernel_rfl) (by kernel_rfl) (by kernel_rfl) (by kernel_rfl)
  have mA := method_AssignableTo
  have tO := typeOf59
  have aT := assign59
  have vO := valueOf59
  have el := elemV78 vb t (w.alloc (.cells #[.pointer (some ⟨3, 221, none⟩), .pointer (some vb), .int .u64 150] 225)) (by rw [World.cell?_alloc_lt _ _ vb hvl]; exact hv)
  have st := set59 t ⟨w.heap.size + 1, 0, none⟩ e old ((w.alloc (.cells #[.pointer (some ⟨3, 221, none⟩), .pointer (some vb), .int .u64 150] 225)).alloc (.cells #[.pointer (some e)] 152))
    (by rw [World.cell?_alloc_at _ _ _ _ (by simp)]; rfl)
    (by rw [World.cell?_alloc_lt _ _ t (by simp; omega), World.cell?_alloc_lt _ _ t htl]; exact ht)
    (by rw [World.frozen?_alloc_old _ _ t (by simp; omega), World.frozen?_alloc_old _ _ t (Nat.ne_of_lt htl)]; exact hf)
  clear hv ht hf
  go_enter Tryz.func163, Tryz.ntmps163
  go_wp2
  refine wp_loop_rounds 1 ?_
  rw [rounds_succ]
  go_wp2
  go_ret
  exact ⟨rfl, rfl⟩
set_option maxRecDepth 100000 in
set_option maxHeartbeats 4000000 in
theorem as1_27_59 (c : Int) (t vb : Addr) (w : World) :
    Calls Tryz.prog 163 #[.iface 64 (.int .i64 c), .iface 221 (.pointer (some t)), .agg #[.pointer (some ⟨3, 221, none⟩), .pointer (some vb), .int .u64 150], .iface 260 (.agg #[.pointer (some ⟨3, 152, none⟩)])] w fun ev w' =>
      ev = .returned (.bool false) ∧ w' = w.alloc (.cells #[.pointer (some ⟨3, 221, none⟩), .pointer (some vb), .int .u64 150] 225) := by
  have hTypeOf := @run_callFunc_extern Tryz.prog 193 _ ReflectliteType.typeOf Tryz.func193 (by kernel_rfl) (by kernel_rfl) (by kernel_rfl) (by kernel_rfl)
  have hAssignableTo := @run_callFunc_extern Tryz.prog 275 _ (ReflectliteType.relation "AssignableTo" ReflectliteType.assignableTo) Tryz.func275 (by kernel_rfl) (by kernel_rfl) (by kernel_rfl) (by kernel_rfl)
  have mA := method_AssignableTo
  have tO := typeOf27
  have aT := assign27_59
  have x1 := ta27_As
  have x2 := ta27_U1
  have x3 := ta27_U2
  go_enter Tryz.func163, Tryz.ntmps163
  go_wp2
  refine wp_loop_rounds 1 ?_
  rw [rounds_succ]
  go_wp2
  go_ret
  exact ⟨rfl, rfl⟩
set_option maxRecDepth 100000 in
set_option maxHeartbeats 4000000 in
theorem as1_59_27 (b : Nat) (c : Int) (t vb : Addr) (old : Value) (w : World) (hb : w.cell? ⟨b, 1, none⟩ = some (.iface 64 (.int .i64 c))) (hbl : b < w.heap.size) (hv : w.cell? vb = some (.pointer (some t))) (hvl : vb.block < w.heap.size) (ht : w.cell? t = some old) (hf : w.frozen? t = false) (htl : t.block < w.heap.size) :
    Calls Tryz.prog 163 #[.iface 152 (.pointer (some ⟨b, 0, none⟩)), .iface 162 (.pointer (some t)), .agg #[.pointer (some ⟨3, 162, none⟩), .pointer (some vb), .int .u64 150], .iface 260 (.agg #[.pointer (some ⟨3, 64, none⟩)])] w fun ev w' =>
      ev = .returned (.bool true) ∧ w' = ((w.alloc (.cells #[.pointer (some ⟨3, 162, none⟩), .pointer (some vb), .int .u64 150] 225)).alloc (.cells #[.int .i64 c] 64)).setCell t (.int .i64 c) := by
  have hTypeOf := @run_callFunc_extern Tryz.prog 193 _ ReflectliteType.typeOf Tryz.func193 (by kernel_rfl) (by kernel_rfl) (by kernel_rfl) (by kernel_rfl)
  have hAssignableTo := @run_callFunc_extern Tryz.prog 275 _ (ReflectliteType.relation "AssignableTo" ReflectliteType.assignableTo) Tryz.func275 (by kernel_rfl) (by kernel_rfl) (by kernel_rfl) (by kernel_rfl)
  have hVElem := @run_callFunc_extern Tryz.prog 194 _ (ReflectliteValue.method (ReflectliteValue.valueError "reflectlite.Value.Elem" 0) ReflectliteValue.elem) Tryz.func194 (by kernel_rfl) (by kernel_rfl) (by kernel_rfl) (by kernel_rfl)
  have hValueOf := @run_callFunc_extern Tryz.prog 160 _ (fun args => ReflectliteValue.unpack (args.getD 0 (.tuple #[]))) Tryz.func160 (by kernel_rfl) (by kernel_rfl) (by kernel_rfl) (by kernel_rfl)
  have hSet := @run_callFunc_extern Tryz.prog 195 _ ReflectliteValue.set Tryz.func195 (by kernel_rfl) (by kernel_rfl) (by kernel_rfl) (by kernel_rfl)
  have mA := method_AssignableTo
  have tO := typeOf27
  have tO' := typeOf59
  have aT := assign27
  have aT' := assign59_27
  have vO := valueOf27
  have x1 := ta59_As
  have x2 := ta59_U1
  have mU := method_Unwrap
  have hb1 : (w.alloc (.cells #[.pointer (some ⟨3, 162, none⟩), .pointer (some vb), .int .u64 150] 225)).cell? ⟨b, 1, none⟩ = some (.iface 64 (.int .i64 c)) := by rw [World.cell?_alloc_lt _ _ ⟨b, 1, none⟩ hbl]; exact hb
  have el := elemV68 vb t (w.alloc (.cells #[.pointer (some ⟨3, 162, none⟩), .pointer (some vb), .int .u64 150] 225)) (by rw [World.cell?_alloc_lt _ _ vb hvl]; exact hv)
  have st := set27 t ⟨w.heap.size + 1, 0, none⟩ c old ((w.alloc (.cells #[.pointer (some ⟨3, 162, none⟩), .pointer (some vb), .int .u64 150] 225)).alloc (.cells #[.int .i64 c] 64))
    (by rw [World.cell?_alloc_at _ _ _ _ (by simp)]; rfl)
    (by rw [World.cell?_alloc_lt _ _ t (by simp; omega), World.cell?_alloc_lt _ _ t htl]; exact ht)
    (by rw [World.frozen?_alloc_old _ _ t (by simp; omega), World.frozen?_alloc_old _ _ t (Nat.ne_of_lt htl)]; exact hf)
  clear hv ht hf hb
  go_enter Tryz.func163, Tryz.ntmps163
  go_wp2
  refine wp_loop_rounds 2 ?_
  rw [rounds_succ]
  go_wp2
  rw [rounds_succ]
  go_wp2
  go_ret
  exact ⟨rfl, rfl⟩
set_option maxRecDepth 100000 in
set_option maxHeartbeats 4000000 in
theorem as_59 (e : Addr) (t : Addr) (old : Value) (w : World) (hg : w.cell? ⟨1, 0, none⟩ = some (.iface 260 (.agg #[.pointer (some ⟨3, 53, none⟩)]))) (hgl : 1 < w.heap.size) (ht : w.cell? t = some old) (hf : w.frozen? t = false) (htl : t.block < w.heap.size)  :
    Calls Tryz.prog 107 #[.iface 152 (.pointer (some e)), .iface 221 (.pointer (some t))] w fun ev w' => ev = .returned (.bool true) ∧ ∃ w1, Below w.heap.size w w1 ∧ w' = w1.setCell t (.pointer (some e)) := by
  have hValueOf := @run_callFunc_extern Tryz.prog 160 _ (fun args => ReflectliteValue.unpack (args.getD 0 (.tuple #[]))) Tryz.func160 (by kernel_rfl) (by kernel_rfl) (by kernel_rfl) (by kernel_rfl)
  have hType := @run_callFunc_extern Tryz.prog 161 _ (ReflectliteValue.methodAny (ReflectliteValue.valueError "reflectlite.Value.Type" 0) (fun t _ _ _ => ReflectliteType.toType t)) Tryz.func161 (by kernel_rfl) (by kernel_rfl) (by kernel_rfl) (by kernel_rfl)
  have hIsNil := @run_callFunc_extern Tryz.prog 162 _ (ReflectliteValue.method (ReflectliteValue.valueError "reflectlite.Value.IsNil" 0) ReflectliteValue.isNil) Tryz.func162 (by kernel_rfl) (by kernel_rfl) (by kernel_rfl) (by kernel_rfl)
  have hKind := @run_callFunc_extern Tryz.prog 263 _ (ReflectliteType.abiMethod fun t => do pure (.int .u8 (← Rtype.kind t))) Tryz.func263 (by kernel_rfl) (by kernel_rfl) (by kernel_rfl) (by kernel_rfl)
  have hElem := @run_callFunc_extern Tryz.prog 277 _ (ReflectliteType.method ReflectliteType.elem) Tryz.func277 (by kernel_rfl) (by kernel_rfl) (by kernel_rfl) (by kernel_rfl)
  have hImplements := @run_callFunc_extern Tryz.prog 278 _ (ReflectliteType.relation "Implements" ReflectliteType.implements_) Tryz.func278 (by kernel_rfl) (by kernel_rfl) (by kernel_rfl) (by kernel_rfl)
  have mK := method_Kind
  have mE := method_Elem
  have mI := method_Implements
  have vT := valueOf78
  have tT := type78
  have kT := kind78
  have kE := kind59
  have eT := elem78
  have iE := implements59
  have nT := isNil78 ⟨w.heap.size, 0, none⟩ t ((w.alloc (.cells #[.pointer (some t)] 221)).alloc (.cells #[.pointer (some ⟨3, 221, none⟩), .pointer (some ⟨w.heap.size, 0, none⟩), .int .u64 150] 225)) (by simp)
  have hB1 : Below w.heap.size w ((w.alloc (.cells #[.pointer (some t)] 221)).alloc (.cells #[.pointer (some ⟨3, 221, none⟩), .pointer (some ⟨w.heap.size, 0, none⟩), .int .u64 150] 225)) := ((Below.refl _ _).alloc (Nat.le_refl _) _).alloc (by simp) _
  have hg2 : ((w.alloc (.cells #[.pointer (some t)] 221)).alloc (.cells #[.pointer (some ⟨3, 221, none⟩), .pointer (some ⟨w.heap.size, 0, none⟩), .int .u64 150] 225)).cell? ⟨1, 0, none⟩ = some (.iface 260 (.agg #[.pointer (some ⟨3, 53, none⟩)])) := (hB1.cell hgl).trans hg
  have ht2 : ((w.alloc (.cells #[.pointer (some t)] 221)).alloc (.cells #[.pointer (some ⟨3, 221, none⟩), .pointer (some ⟨w.heap.size, 0, none⟩), .int .u64 150] 225)).cell? t = some old := (hB1.cell htl).trans ht
  have hf2 : ((w.alloc (.cells #[.pointer (some t)] 221)).alloc (.cells #[.pointer (some ⟨3, 221, none⟩), .pointer (some ⟨w.heap.size, 0, none⟩), .int .u64 150] 225)).frozen? t = false := (hB1.frozen htl).trans hf
  have hv2 : ((w.alloc (.cells #[.pointer (some t)] 221)).alloc (.cells #[.pointer (some ⟨3, 221, none⟩), .pointer (some ⟨w.heap.size, 0, none⟩), .int .u64 150] 225)).cell? ⟨w.heap.size, 0, none⟩ = some (.pointer (some t)) := by simp
  clear hg ht hf
  go_enter Tryz.func107, Tryz.ntmps107
  go_wp2_with fail
  refine (as1_59 e t _ old _ hv2 (by simp; omega) ht2 hf2 (by simp; omega)).mono ?_
  rintro ev w9 ⟨rfl, rfl⟩
  go_wp2
  go_ret
  exact ⟨rfl, _, ((hB1.alloc (by simp; omega) _).alloc (by simp; omega) _), rfl⟩
set_option maxRecDepth 100000 in
set_option maxHeartbeats 4000000 in
theorem as_27_59 (c : Int) (t : Addr) (old : Value) (w : World) (hg : w.cell? ⟨1, 0, none⟩ = some (.iface 260 (.agg #[.pointer (some ⟨3, 53, none⟩)]))) (hgl : 1 < w.heap.size) (ht : w.cell? t = some old) (hf : w.frozen? t = false) (htl : t.block < w.heap.size)  :
    Calls Tryz.prog 107 #[.iface 64 (.int .i64 c), .iface 221 (.pointer (some t))] w fun ev w' => ev = .returned (.bool false) ∧ Below w.heap.size w w' := by
  have hValueOf := @run_callFunc_extern Tryz.prog 160 _ (fun args => ReflectliteValue.unpack (args.getD 0 (.tuple #[]))) Tryz.func160 (by kernel_rfl) (by kernel_rfl) (by kernel_rfl) (by kernel_rfl)
  have hType := @run_callFunc_extern Tryz.prog 161 _ (ReflectliteValue.methodAny (ReflectliteValue.valueError "reflectlite.Value.Type" 0) (fun t _ _ _ => ReflectliteType.toType t)) Tryz.func161 (by kernel_rfl) (by kernel_rfl) (by kernel_rfl) (by kernel_rfl)
  have hIsNil := @run_callFunc_extern Tryz.prog 162 _ (ReflectliteValue.method (ReflectliteValue.valueError "reflectlite.Value.IsNil" 0) ReflectliteValue.isNil) Tryz.func162 (by kernel_rfl) (by kernel_rfl) (by kernel_rfl) (by kernel_rfl)
  have hKind := @run_callFunc_extern Tryz.prog 263 _ (ReflectliteType.abiMethod fun t => do pure (.int .u8 (← Rtype.kind t))) Tryz.func263 (by kernel_rfl) (by kernel_rfl) (by kernel_rfl) (by kernel_rfl)
  have hElem := @run_callFunc_extern Tryz.prog 277 _ (ReflectliteType.method ReflectliteType.elem) Tryz.func277 (by kernel_rfl) (by kernel_rfl) (by kernel_rfl) (by kernel_rfl)
  have hImplements := @run_callFunc_extern Tryz.prog 278 _ (ReflectliteType.relation "Implements" ReflectliteType.implements_) Tryz.func278 (by kernel_rfl) (by kernel_rfl) (by kernel_rfl) (by kernel_rfl)
  have mK := method_Kind
  have mE := method_Elem
  have mI := method_Implements
  have vT := valueOf78
  have tT := type78
  have kT := kind78
  have kE := kind59
  have eT := elem78
  have iE := implements59
  have nT := isNil78 ⟨w.heap.size, 0, none⟩ t ((w.alloc (.cells #[.pointer (some t)] 221)).alloc (.cells #[.pointer (some ⟨3, 221, none⟩), .pointer (some ⟨w.heap.size, 0, none⟩), .int .u64 150] 225)) (by simp)
  have hB1 : Below w.heap.size w ((w.alloc (.cells #[.pointer (some t)] 221)).alloc (.cells #[.pointer (some ⟨3, 221, none⟩), .pointer (some ⟨w.heap.size, 0, none⟩), .int .u64 150] 225)) := ((Below.refl _ _).alloc (Nat.le_refl _) _).alloc (by simp) _
  have hg2 : ((w.alloc (.cells #[.pointer (some t)] 221)).alloc (.cells #[.pointer (some ⟨3, 221, none⟩), .pointer (some ⟨w.heap.size, 0, none⟩), .int .u64 150] 225)).cell? ⟨1, 0, none⟩ = some (.iface 260 (.agg #[.pointer (some ⟨3, 53, none⟩)])) := (hB1.cell hgl).trans hg
  have ht2 : ((w.alloc (.cells #[.pointer (some t)] 221)).alloc (.cells #[.pointer (some ⟨3, 221, none⟩), .pointer (some ⟨w.heap.size, 0, none⟩), .int .u64 150] 225)).cell? t = some old := (hB1.cell htl).trans ht
  have hf2 : ((w.alloc (.cells #[.pointer (some t)] 221)).alloc (.cells #[.pointer (some ⟨3, 221, none⟩), .pointer (some ⟨w.heap.size, 0, none⟩), .int .u64 150] 225)).frozen? t = false := (hB1.frozen htl).trans hf
  have hv2 : ((w.alloc (.cells #[.pointer (some t)] 221)).alloc (.cells #[.pointer (some ⟨3, 221, none⟩), .pointer (some ⟨w.heap.size, 0, none⟩), .int .u64 150] 225)).cell? ⟨w.heap.size, 0, none⟩ = some (.pointer (some t)) := by simp
  clear hg ht hf
  go_enter Tryz.func107, Tryz.ntmps107
  go_wp2_with fail
  refine (as1_27_59 c t _ _).mono ?_
  rintro ev w9 ⟨rfl, rfl⟩
  go_wp2
  go_ret
  exact ⟨rfl, hB1.alloc (by simp; omega) _⟩
set_option maxRecDepth 100000 in
set_option maxHeartbeats 4000000 in
theorem as_59_27 (b : Nat) (c : Int) (t : Addr) (old : Value) (w : World) (hg : w.cell? ⟨1, 0, none⟩ = some (.iface 260 (.agg #[.pointer (some ⟨3, 53, none⟩)]))) (hgl : 1 < w.heap.size) (ht : w.cell? t = some old) (hf : w.frozen? t = false) (htl : t.block < w.heap.size) (hb : w.cell? ⟨b, 1, none⟩ = some (.iface 64 (.int .i64 c))) (hbl : b < w.heap.size) :
    Calls Tryz.prog 107 #[.iface 152 (.pointer (some ⟨b, 0, none⟩)), .iface 162 (.pointer (some t))] w fun ev w' => ev = .returned (.bool true) ∧ ∃ w1, Below w.heap.size w w1 ∧ w' = w1.setCell t (.int .i64 c) := by
  have hValueOf := @run_callFunc_extern Tryz.prog 160 _ (fun args => ReflectliteValue.unpack (args.getD 0 (.tuple #[]))) Tryz.func160 (by kernel_rfl) (by kernel_rfl) (by kernel_rfl) (by kernel_rfl)
  have hType := @run_callFunc_extern Tryz.prog 161 _ (ReflectliteValue.methodAny (ReflectliteValue.valueError "reflectlite.Value.Type" 0) (fun t _ _ _ => ReflectliteType.toType t)) Tryz.func161 (by kernel_rfl) (by kernel_rfl) (by kernel_rfl) (by kernel_rfl)
  have hIsNil := @run_callFunc_extern Tryz.prog 162 _ (ReflectliteValue.method (ReflectliteValue.valueError "reflectlite.Value.IsNil" 0) ReflectliteValue.isNil) Tryz.func162 (by kernel_rfl) (by kernel_rfl) (by kernel_rfl) (by kernel_rfl)
  have hKind := @run_callFunc_extern Tryz.prog 263 _ (ReflectliteType.abiMethod fun t => do pure (.int .u8 (← Rtype.kind t))) Tryz.func263 (by kernel_rfl) (by kernel_rfl) (by kernel_rfl) (by kernel_rfl)
  have hElem := @run_callFunc_extern Tryz.prog 277 _ (ReflectliteType.method ReflectliteType.elem) Tryz.func277 (by kernel_rfl) (by kernel_rfl) (by kernel_rfl) (by kernel_rfl)
  have hImplements := @run_callFunc_extern Tryz.prog 278 _ (ReflectliteType.relation "Implements" ReflectliteType.implements_) Tryz.func278 (by kernel_rfl) (by kernel_rfl) (by kernel_rfl) (by kernel_rfl)
  have mK := method_Kind
  have mE := method_Elem
  have mI := method_Implements
  have vT := valueOf68
  have tT := type68
  have kT := kind68
  have kE := kind27
  have eT := elem68
  have iE := implements27
  have nT := isNil68 ⟨w.heap.size, 0, none⟩ t ((w.alloc (.cells #[.pointer (some t)] 162)).alloc (.cells #[.pointer (some ⟨3, 162, none⟩), .pointer (some ⟨w.heap.size, 0, none⟩), .int .u64 150] 225)) (by simp)
  have hB1 : Below w.heap.size w ((w.alloc (.cells #[.pointer (some t)] 162)).alloc (.cells #[.pointer (some ⟨3, 162, none⟩), .pointer (some ⟨w.heap.size, 0, none⟩), .int .u64 150] 225)) := ((Below.refl _ _).alloc (Nat.le_refl _) _).alloc (by simp) _
  have hg2 : ((w.alloc (.cells #[.pointer (some t)] 162)).alloc (.cells #[.pointer (some ⟨3, 162, none⟩), .pointer (some ⟨w.heap.size, 0, none⟩), .int .u64 150] 225)).cell? ⟨1, 0, none⟩ = some (.iface 260 (.agg #[.pointer (some ⟨3, 53, none⟩)])) := (hB1.cell hgl).trans hg
  have ht2 : ((w.alloc (.cells #[.pointer (some t)] 162)).alloc (.cells #[.pointer (some ⟨3, 162, none⟩), .pointer (some ⟨w.heap.size, 0, none⟩), .int .u64 150] 225)).cell? t = some old := (hB1.cell htl).trans ht
  have hf2 : ((w.alloc (.cells #[.pointer (some t)] 162)).alloc (.cells #[.pointer (some ⟨3, 162, none⟩), .pointer (some ⟨w.heap.size, 0, none⟩), .int .u64 150] 225)).frozen? t = false := (hB1.frozen htl).trans hf
  have hv2 : ((w.alloc (.cells #[.pointer (some t)] 162)).alloc (.cells #[.pointer (some ⟨3, 162, none⟩), .pointer (some ⟨w.heap.size, 0, none⟩), .int .u64 150] 225)).cell? ⟨w.heap.size, 0, none⟩ = some (.pointer (some t)) := by simp
  clear hg ht hf
  have hb2 := (hB1.cell (p := ⟨b, 1, none⟩) hbl).trans hb
  clear hb
  go_enter Tryz.func107, Tryz.ntmps107
  go_wp2_with fail
  refine (as1_59_27 b c t _ old _ hb2 (by simp; omega) hv2 (by simp; omega) ht2 hf2 (by simp; omega)).mono ?_
  rintro ev w9 ⟨rfl, rfl⟩
  go_wp2
  go_ret
  exact ⟨rfl, _, ((hB1.alloc (by simp; omega) _).alloc (by simp; omega) _), rfl⟩
end Go.Proofs.YtfcegalckjeafaaGreatDoor
namespace Go.Proofs.YtfcegalckjeafaaGreatDoor
open Go.RowKit Go.BigFrame Go.Extern.Stop Go.Stop
/-- The package variable of errors, as start-up lays it. -/
def ErrT (w : World) : Prop := w.cell? ⟨1, 0, none⟩ = some (.iface 260 (.agg #[.pointer (some ⟨3, 53, none⟩)]))
theorem ErrT.below {B : Nat} {w w' : World} (h : ErrT w) (hb : Below B w w') (hB : 1 < B) : ErrT w' := (hb.cell (p := ⟨1, 0, none⟩) hB).trans h
/-- One new cell, as a slice. -/
theorem reads_one (w : World) (t : TypeId) (u : Value) : Reads (w.alloc (.cells #[u] t)) (fun j => j = w.heap.size) 1 (some ⟨w.heap.size, 0, none⟩) 1 [u] := ⟨by simp, fun _ => ⟨_, rfl, rfl, fun j x hj => by
  cases j with
  | zero => simp at hj; subst hj; exact (Blk.new w t #[u]).cell 0
  | succ j => simp at hj⟩⟩
theorem info_int_ : (Tryz.prog.info? 3).map (fun i => (i.zero, i.size, i.bytes)) = some (some (.int .i64 0), 1, 8) := by kernel_rfl
set_option maxRecDepth 100000 in
set_option maxHeartbeats 4000000 in
theorem where_err (v : Value) (a c : Int) (w : World) (hv : ErrAt w v a c) (hE : ErrT w) (hg : 1 < w.heap.size) :
    Calls Tryz.prog 106 #[v] w fun e w' => ∃ g cap, e = .returned (.slice (some ⟨g, 0, none⟩) 1 cap) ∧ w'.cell? ⟨g, 0, none⟩ = some (.int .i64 a) ∧ Below w.heap.size w w' := by
  obtain ⟨hc, b, rfl, hb⟩ := hv
  obtain ⟨i0, hi, hz0, hz1, hz2⟩ := info_parts info_int_
  go_enter Tryz.func106, Tryz.ntmps106
  go_wp2
  refine wp_loop_rounds 2 ?_
  rw [rounds_succ]
  go_wp2_with fail
  have hB0 : Below w.heap.size w (w.alloc (.cells #[.pointer none] 152)) := (Below.refl _ _).alloc (Nat.le_refl _) _
  have hf0 : Blk (w.alloc (.cells #[.pointer none] 152)) w.heap.size 152 #[.pointer none] := Blk.new w _ _
  have hb0 := hb.below hB0 hb.lt
  have hE0 := hE.below hB0 hg
  have hbl := hb.lt
  have hz0' : (w.alloc (.cells #[.pointer none] 152)).heap.size = w.heap.size + 1 := by simp
  generalize w.alloc (.cells #[.pointer none] 152) = w0 at *
  refine (as_59 ⟨b, 0, none⟩ ⟨w.heap.size, 0, none⟩ (.pointer none) w0 hE0 (by omega) (hf0.cell 0) (hf0.frozen 0) hf0.lt).mono ?_
  rintro e w1 ⟨rfl, w2, hb2, rfl⟩
  have hf3 : Blk (w2.setCell ⟨w.heap.size, 0, none⟩ (.pointer (some ⟨b, 0, none⟩))) w.heap.size 152 #[.pointer (some ⟨b, 0, none⟩)] := by
    have := (hf0.below hb2 hf0.lt).set_ 0 (.pointer (some ⟨b, 0, none⟩))
    simpa using this
  have hb3 := (hb0.below hb2 hb0.lt).far (p := ⟨w.heap.size, 0, none⟩) (by simp; omega) (.pointer (some ⟨b, 0, none⟩))
  have hB3 := (hB0.trans (hb2.mono (by omega))).setCell (p := ⟨w.heap.size, 0, none⟩) (Nat.le_refl _) (.pointer (some ⟨b, 0, none⟩))
  have hE3 := hE.below hB3 hg
  have hz3 := hB3.size
  have hf3l := hf3.lt
  generalize w2.setCell ⟨w.heap.size, 0, none⟩ (.pointer (some ⟨b, 0, none⟩)) = w3 at *
  clear hf0 hb0 hE0 hb2 hE hb
  have c0 : w3.cell? ⟨w.heap.size, 0, none⟩ = some (.pointer (some ⟨b, 0, none⟩)) := hf3.cell 0
  have c1 : w3.cell? ⟨b, 0, none⟩ = some (.int .i64 a) := hb3.cell 0
  have c2 : w3.cell? ⟨b, 1, none⟩ = some (.iface 64 (.int .i64 c)) := hb3.cell 1
  have HI := Lib.hid hi
  have HZ0 := Lib.hid hz0
  have HZ1 := Lib.hid hz1
  have HZ2 := Lib.hid hz2
  have HB3 := Lib.hid hB3
  have HE3 := Lib.hid hE3
  have HF3 := Lib.hid hf3
  have Hb3 := Lib.hid hb3
  clear hi hz0 hz1 hz2 hB3 hE3 hf3 hb3 hz0' hB0
  go_wp2_with (at_builtin; refine wpList_append_any _ rfl (.tmp 16) (.tmp 21) 159 rfl w.heap.size 3 i0 (.int .i64 0) 1 8 Tryz.underlying159 HI.out HZ0.out HZ1.out HZ2.out rfl (by omega) (.slice none 0 0) 0 [] rfl (World.ownsRow_nil _ _ _ _) (fun j => j = w3.heap.size) (some ⟨w3.heap.size, 0, none⟩) 1 1 [.int .i64 a] rfl (reads_one w3 _ _) (by simp [Value.oneCell']) (by simp only [maxLen]; omega) (by omega) (by simp; omega) ?_; intro v' w4 hown' hg' hat'; obtain ⟨g', cap', rfl⟩ := ownsRow_succ hown'; have hB4 : Below w3.heap.size w3 w4 := ((Below.refl _ _).alloc (Nat.le_refl _) _).grown hg' (by simp) (fun k e => by cases e); have HOWN := Lib.hid hown'; have c5 : w4.cell? ⟨b, 1, none⟩ = some (.iface 64 (.int .i64 c)) := (hB4.cell (p := ⟨b, 1, none⟩) Hb3.out.lt).trans c2; have c6 : w4.cell? ⟨w.heap.size, 0, none⟩ = some (.pointer (some ⟨b, 0, none⟩)) := (hB4.cell (p := ⟨w.heap.size, 0, none⟩) hf3l).trans c0; have HB4 := Lib.hid hB4; clear hown' hg' hat' hB4 c0 c1 c2)
  have HE4 := Lib.hid (HE3.out.below HB4.out (by omega))
  have HF4 := Lib.hid (HF3.out.below HB4.out hf3l)
  have hz4 := HB4.out.size
  rw [rounds_succ]
  go_wp2_with fail
  refine (as_27_59 c ⟨w.heap.size, 0, none⟩ (.pointer (some ⟨b, 0, none⟩)) w4 HE4.out (by omega) c6 (HF4.out.frozen 0) HF4.out.lt).mono ?_
  rintro e w5 ⟨rfl, hb5⟩
  obtain ⟨ad, u, e1, hs, hu, hcell⟩ := (Reads.of_own HOWN.out).at_ (k := 0) (by omega)
  simp at e1 hu
  subst e1 hu
  have hc5 : w5.cell? ⟨g', 0, none⟩ = some (.int .i64 a) := (hb5.cell (p := ⟨g', 0, none⟩) hs.2).trans hcell
  have HB5 := Lib.hid ((HB3.out.trans (HB4.out.mono hz3)).trans (hb5.mono (by omega)))
  clear hcell hs hb5 HOWN c5 c6
  go_wp2_with fail
  go_ret
  exact ⟨_, _, rfl, hc5, HB5.out⟩
set_option maxHeartbeats 1000000 in
theorem last_err (v : Value) (a c : Int) (w : World) (hv : ErrAt w v a c) (hE : ErrT w) (hg : 1 < w.heap.size) :
    Calls Tryz.prog 65 #[v] w fun e w' => e = .returned (.tuple #[.int .i64 a, .bool true]) ∧ Below w.heap.size w w' := by
  have HV := Lib.hid hv
  have HE := Lib.hid hE
  clear hv hE
  go_enter Tryz.func65, Tryz.ntmps65
  go_wp2_with fail
  refine (where_err v a c w HV.out HE.out hg).mono ?_
  rintro e w1 ⟨g, cap, rfl, hc, hb⟩
  go_wp2
  go_ret2
  exact ⟨rfl, hb⟩
set_option maxHeartbeats 1000000 in
theorem code_err (v : Value) (a c : Int) (w : World) (hv : ErrAt w v a c) (hE : ErrT w) (hg : 1 < w.heap.size) :
    Calls Tryz.prog 66 #[v] w fun e w' => e = .returned (.int .i64 c) ∧ Below w.heap.size w w' := by
  obtain ⟨hc, b, rfl, hb⟩ := hv
  have HE := Lib.hid hE
  have HB := Lib.hid hb
  clear hb hE
  go_enter Tryz.func66, Tryz.ntmps66
  go_wp2_with fail
  have hB0 : Below w.heap.size w (w.alloc (.cells #[.int .i64 0] 64)) := (Below.refl _ _).alloc (Nat.le_refl _) _
  have hf0 : Blk (w.alloc (.cells #[.int .i64 0] 64)) w.heap.size 64 #[.int .i64 0] := Blk.new w _ _
  have hb0 := HB.out.below hB0 HB.out.lt
  have hE0 := HE.out.below hB0 hg
  have hz0' := hf0.lt
  generalize w.alloc (.cells #[.int .i64 0] 64) = w0 at *
  refine (as_59_27 b c ⟨w.heap.size, 0, none⟩ (.int .i64 0) w0 hE0 (by omega) (hf0.cell 0) (hf0.frozen 0) hf0.lt (hb0.cell 1) hb0.lt).mono ?_
  rintro e w1 ⟨rfl, w2, hb2, rfl⟩
  have hf3 : (w2.setCell ⟨w.heap.size, 0, none⟩ (.int .i64 c)).cell? ⟨w.heap.size, 0, none⟩ = some (.int .i64 c) := by
    have := ((hf0.below hb2 hf0.lt).set_ 0 (.int .i64 c)).cell 0
    simpa using this
  have HB3 := Lib.hid ((hB0.trans (hb2.mono (by omega))).setCell (p := ⟨w.heap.size, 0, none⟩) (Nat.le_refl _) (.int .i64 c))
  generalize w2.setCell ⟨w.heap.size, 0, none⟩ (.int .i64 c) = w3 at *
  clear hf0 hb0 hE0 hb2 hB0
  go_wp2
  go_ret
  exact ⟨rfl, HB3.out⟩
set_option maxHeartbeats 1000000 in
theorem at_nil (a : Int) (w : World) : Calls Tryz.prog 30 #[.nilIface, .int .i64 a, .int .i64 0] w fun e w' => e = .returned (.bool true) ∧ Below w.heap.size w w' := by
  go_enter Tryz.func30, Tryz.ntmps30
  go_wp2
  go_ret
  exact ⟨rfl, Below.refl _ _⟩
set_option maxHeartbeats 1000000 in
theorem at_err (v : Value) (a c : Int) (w : World) (hv : ErrAt w v a c) (hE : ErrT w) (hg : 1 < w.heap.size) :
    Calls Tryz.prog 30 #[v, .int .i64 a, .int .i64 c] w fun e w' => e = .returned (.bool true) ∧ Below w.heap.size w w' := by
  have HV := Lib.hid hv
  have HE := Lib.hid hE
  obtain ⟨hc, b, rfl, -⟩ := hv
  have hc0 : (c == 0) = false := by simp [hc]
  clear hE
  go_enter Tryz.func30, Tryz.ntmps30
  go_wp2_with fail
  refine (last_err _ a c w HV.out HE.out hg).mono ?_
  rintro e w1 ⟨rfl, hb1⟩
  have HV1 := Lib.hid (HV.out.below hb1)
  have HE1 := Lib.hid (HE.out.below hb1 hg)
  have hz1 := hb1.size
  go_wp2_with fail
  refine (code_err _ a c w1 HV1.out HE1.out (by omega)).mono ?_
  rintro e w2 ⟨rfl, hb2⟩
  have HB2 := Lib.hid (hb1.trans (hb2.mono hz1))
  clear hb1 hb2
  go_wp2
  go_ret
  exact ⟨rfl, HB2.out⟩
end Go.Proofs.YtfcegalckjeafaaGreatDoor
namespace Go.Proofs.YtfcegalckjeafaaGreatDoor
open Go.RowKit Go.BigFrame
/-- Decimal digits. -/
def isDig (b : UInt8) : Bool := 48 ≤ b.toNat && b.toNat ≤ 57
end Go.Proofs.YtfcegalckjeafaaGreatDoor
namespace Go.Proofs.YtfcegalckjeafaaGreatDoor
open Go.RowKit Go.BigFrame
/-- A step. -/
structure St where
  K : Int
  I : Int
  T : List UInt8
/-- A slice of steps. -/
def StepsIn (w : World) (A : Option Addr) (l : List St) : Prop := 0 < l.length → ∃ ad : Addr, A = some ad ∧ ad.block < w.heap.size ∧ ∀ (k : Nat) (o : St), l[k]? = some o →
  w.cell? (ad.add (k * 3)) = some (.int .i64 o.K) ∧ w.cell? ⟨(ad.add (k * 3)).block, (ad.add (k * 3)).off + 1, none⟩ = some (.int .i64 o.I) ∧ w.cell? ⟨(ad.add (k * 3)).block, (ad.add (k * 3)).off + 2, none⟩ = some (.string ⟨o.T.toArray⟩)
theorem StepsIn.below {w w' : World} {A : Option Addr} {l : List St} (h : StepsIn w A l) (hb : Below w.heap.size w w') : StepsIn w' A l := fun hn => by
  obtain ⟨ad, e1, e2, e3⟩ := h hn
  refine ⟨ad, e1, Nat.lt_of_lt_of_le e2 hb.size, fun k o ho => ?_⟩
  obtain ⟨a, b, c⟩ := e3 k o ho
  have hbk : (ad.add (k * 3)).block < w.heap.size := by rw [block_of_add]; exact e2
  exact ⟨(hb.cell hbk).trans a, (hb.cell (p := ⟨(ad.add (k * 3)).block, _, none⟩) hbk).trans b, (hb.cell (p := ⟨(ad.add (k * 3)).block, _, none⟩) hbk).trans c⟩
theorem StepsIn.at_ {w : World} {A : Option Addr} {l : List St} (h : StepsIn w A l) {k : Nat} (hk : k < l.length) : ∃ ad K I T, A = some ad ∧ l[k]? = some ⟨K, I, T⟩ ∧
    w.cell? (ad.add (k * 3)) = some (.int .i64 K) ∧ w.cell? ⟨(ad.add (k * 3)).block, (ad.add (k * 3)).off + 1, none⟩ = some (.int .i64 I) ∧ w.cell? ⟨(ad.add (k * 3)).block, (ad.add (k * 3)).off + 2, none⟩ = some (.string ⟨T.toArray⟩) := by
  obtain ⟨ad, e1, e2, e3⟩ := h (by omega)
  have := e3 k l[k] (List.getElem?_eq_getElem hk)
  exact ⟨ad, l[k].K, l[k].I, l[k].T, e1, List.getElem?_eq_getElem hk, this⟩
/-- Few steps, with short texts. -/
def shortS (l : List St) : Bool := l.all (fun s => decide (s.T.length ≤ 3000)) && decide (l.length ≤ 70)
set_option maxRecDepth 100000 in
set_option maxHeartbeats 1000000 in
theorem shortS_any (A : Option Addr) (c : Nat) (l : List St) (w : World) (h : StepsIn w A l) (hn : l.length ≤ 9223372036854775807) :
    Calls Tryz.prog 18 #[.slice A l.length c] w fun e w' => e = .returned (.bool (shortS l)) ∧ Below w.heap.size w w' := by
  have H := Lib.hid h
  clear h
  obtain ⟨R, hR⟩ : ∃ R, R = shortS l := ⟨_, rfl⟩
  have HR := Lib.hid hR
  rw [← hR]
  clear hR
  go_enter Tryz.func18, Tryz.ntmps18
  go_wp2
  go_loopw [7] (fun i wr => ∃ k : Nat, k ≤ l.length ∧ i = .int .i64 k ∧ Hid ((l.take k).all (fun s => decide (s.T.length ≤ 3000)) = true) ∧ Hid (Below w.heap.size w wr)) (fun i _ => (l.length - intOf i).toNat)
  case atStart => exact ⟨0, Nat.zero_le _, rfl, by simp [Hid], Below.refl _ _⟩
  case round =>
    obtain ⟨k, hk, rfl, hp, hB⟩ := hrel
    by_cases hlt : k < l.length
    · obtain ⟨ad, K, I, T, rfl, hs, hc0, hc1, hc2⟩ := (H.out.below hB.out).at_ hlt
      have HS := Lib.hid hs
      clear hs
      have hz0 := hB.out.size
      have hsz := size_mk T
      by_cases h3 : (3000 : Int) < T.length
      · have hX : Hid (R = false) := Lib.hid (by
          rw [HR.out]
          have : (l.all fun s => decide (s.T.length ≤ 3000)) = false := by
            rw [Bool.eq_false_iff]
            intro ha
            have := List.all_eq_true.1 ha _ (List.mem_of_getElem? HS.out)
            simp at this
            omega
          simp [shortS, this])
        go_wp2
        go_ret
        exact ⟨by rw [hX.out]; rfl, hB.out.alloc hz0 _⟩
      · go_wp2
        refine ⟨⟨k + 1, by omega, by simp, ?_, hB.out.alloc hz0 _⟩, by simp [intOf]; omega⟩
        show ((l.take (k + 1)).all fun s => decide (s.T.length ≤ 3000)) = true
        rw [List.take_add_one, HS.out, List.all_append, hp.out]
        simp
        omega
    · have hke : Hid (k = l.length) := Lib.hid (by omega)
      go_wp2
      go_ret
      refine ⟨?_, hB.out⟩
      have h1 := hp.out
      rw [hke.out, List.take_length] at h1
      rw [HR.out, shortS, h1]
      show Ending.returned (.bool (decide ((l.length : Int) ≤ 70))) = _
      rw [show decide ((l.length : Int) ≤ 70) = decide (l.length ≤ 70) from decide_eq_decide.2 (by omega)]
      simp
end Go.Proofs.YtfcegalckjeafaaGreatDoor
