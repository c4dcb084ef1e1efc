/-
  errors.as, errors.As: contracts at each pair of an error and a target.
-/
import Derived.Test.YtlhekohecbiljaaDoorPtAs
namespace Go.Proofs.YtlhekohecbiljaaDoor
open Go.RowKit Go.Extern.Stop Go.Stop Go.Extern

theorem method_Kind (h : Value) (w : World) : (Go.method 248 96 (.agg #[h]) "Kind").run Tryd.prog w = .ok (83, h) w := by kernel_rfl
theorem method_Elem (h : Value) (w : World) : (Go.method 248 96 (.agg #[h]) "Elem").run Tryd.prog w = .ok (95, .agg #[h]) w := by kernel_rfl
theorem method_Implements (h : Value) (w : World) : (Go.method 248 96 (.agg #[h]) "Implements").run Tryd.prog w = .ok (96, .agg #[h]) w := by kernel_rfl
theorem method_AssignableTo (h : Value) (w : World) : (Go.method 248 96 (.agg #[h]) "AssignableTo").run Tryd.prog w = .ok (93, .agg #[h]) w := by kernel_rfl
theorem ta27_As (v : Value) (xT : TypeId) (w : World) : (Instr.typeAssert (.iface 27 v) xT 101 true).run Tryd.prog w = .ok (.tuple #[.nilIface, .bool false]) w := run_typeAssert_lacksB Tryd.underlying101 (by kernel_rfl) (by kernel_rfl) v xT w
theorem ta27_U1 (v : Value) (xT : TypeId) (w : World) : (Instr.typeAssert (.iface 27 v) xT 104 true).run Tryd.prog w = .ok (.tuple #[.nilIface, .bool false]) w := run_typeAssert_lacksB Tryd.underlying104 (by kernel_rfl) (by kernel_rfl) v xT w
theorem ta27_U2 (v : Value) (xT : TypeId) (w : World) : (Instr.typeAssert (.iface 27 v) xT 106 true).run Tryd.prog w = .ok (.tuple #[.nilIface, .bool false]) w := run_typeAssert_lacksB Tryd.underlying106 (by kernel_rfl) (by kernel_rfl) v xT w
theorem ta59_As (v : Value) (xT : TypeId) (w : World) : (Instr.typeAssert (.iface 59 v) xT 101 true).run Tryd.prog w = .ok (.tuple #[.nilIface, .bool false]) w := run_typeAssert_lacksB Tryd.underlying101 (by kernel_rfl) (by kernel_rfl) v xT w
theorem ta59_U1 (v : Value) (xT : TypeId) (w : World) : (Instr.typeAssert (.iface 59 v) xT 104 true).run Tryd.prog w = .ok (.tuple #[.iface 59 v, .bool true]) w := run_typeAssert_hasB Tryd.underlying104 (by kernel_rfl) v xT w
theorem method_Unwrap (e : Addr) (w : World) : (Go.method 248 59 (.pointer (some e)) "Unwrap").run Tryd.prog w = .ok (88, .pointer (some e)) w := by kernel_rfl

set_option maxRecDepth 100000 in
set_option maxHeartbeats 4000000 in
theorem as1_59 (e t vb : Addr) (old : Value) (w : World) (hv : w.cell? vb = some (.pointer (some t))) (hvl : vb.block < w.heap.size) (ht : w.cell? t = some old) (hf : w.frozen? t = false) (htl : t.block < w.heap.size) :
    Calls Tryd.prog 54 #[.iface 59 (.pointer (some e)), .iface 78 (.pointer (some t)), .agg #[.pointer (some ⟨4, 78, none⟩), .pointer (some vb), .int .u64 150], .iface 96 (.agg #[.pointer (some ⟨4, 59, none⟩)])] w fun ev w' =>
      ev = .returned (.bool true) ∧ w' = ((w.alloc (.cells #[.pointer (some ⟨4, 78, none⟩), .pointer (some vb), .int .u64 150] 82)).alloc (.cells #[.pointer (some e)] 59)).setCell t (.pointer (some e)) := by
  have hTypeOf := @run_callFunc_extern Tryd.prog 60 _ ReflectliteType.typeOf Tryd.func60 (by kernel_rfl) (by kernel_rfl) (by kernel_rfl) (by kernel_rfl)
  have hAssignableTo := @run_callFunc_extern Tryd.prog 93 _ (ReflectliteType.relation "AssignableTo" ReflectliteType.assignableTo) Tryd.func93 (by kernel_rfl) (by kernel_rfl) (by kernel_rfl) (by kernel_rfl)
  have hVElem := @run_callFunc_extern Tryd.prog 61 _ (ReflectliteValue.method (ReflectliteValue.valueError "reflectlite.Value.Elem" 0) ReflectliteValue.elem) Tryd.func61 (by kernel_rfl) (by kernel_rfl) (by kernel_rfl) (by kernel_rfl)
  have hValueOf := @run_callFunc_extern Tryd.prog 51 _ (fun args => ReflectliteValue.unpack (args.getD 0 (.tuple #[]))) Tryd.func51 (by kernel_rfl) (by kernel_rfl) (by kernel_rfl) (by kernel_rfl)
  have hSet := @run_callFunc_extern Tryd.prog 62 _ ReflectliteValue.set Tryd.func62 (by kernel_rfl) (by kernel_rfl) (by kernel_rfl) (by kernel_rfl)
  have mA := method_AssignableTo
  have tO := typeOf59
  have aT := assign59
  have vO := valueOf59
  have el := elemV78 vb t (w.alloc (.cells #[.pointer (some ⟨4, 78, none⟩), .pointer (some vb), .int .u64 150] 82)) (by rw [World.cell?_alloc_lt _ _ vb hvl]; exact hv)
  have st := set59 t ⟨w.heap.size + 1, 0, none⟩ e old ((w.alloc (.cells #[.pointer (some ⟨4, 78, none⟩), .pointer (some vb), .int .u64 150] 82)).alloc (.cells #[.pointer (some e)] 59))
    (by rw [World.cell?_alloc_at _ _ _ _ (by simp)]; rfl)
    (by rw [World.cell?_alloc_lt _ _ t (by simp; omega), World.cell?_alloc_lt _ _ t htl]; exact ht)
    (by rw [World.frozen?_alloc_old _ _ t (by simp; omega), World.frozen?_alloc_old _ _ t (Nat.ne_of_lt htl)]; exact hf)
  clear hv ht hf
  go_enter Tryd.func54, Tryd.ntmps54
  go_wp2
  refine wp_loop_rounds 1 ?_
  rw [rounds_succ]
  go_wp2
  go_ret
  exact ⟨rfl, rfl⟩

set_option maxRecDepth 100000 in
set_option maxHeartbeats 4000000 in
theorem as1_27 (c : Int) (t vb : Addr) (old : Value) (w : World) (hv : w.cell? vb = some (.pointer (some t))) (hvl : vb.block < w.heap.size) (ht : w.cell? t = some old) (hf : w.frozen? t = false) (htl : t.block < w.heap.size) :
    Calls Tryd.prog 54 #[.iface 27 (.int .i64 c), .iface 68 (.pointer (some t)), .agg #[.pointer (some ⟨4, 68, none⟩), .pointer (some vb), .int .u64 150], .iface 96 (.agg #[.pointer (some ⟨4, 27, none⟩)])] w fun ev w' =>
      ev = .returned (.bool true) ∧ w' = ((w.alloc (.cells #[.pointer (some ⟨4, 68, none⟩), .pointer (some vb), .int .u64 150] 82)).alloc (.cells #[.int .i64 c] 27)).setCell t (.int .i64 c) := by
  have hTypeOf := @run_callFunc_extern Tryd.prog 60 _ ReflectliteType.typeOf Tryd.func60 (by kernel_rfl) (by kernel_rfl) (by kernel_rfl) (by kernel_rfl)
  have hAssignableTo := @run_callFunc_extern Tryd.prog 93 _ (ReflectliteType.relation "AssignableTo" ReflectliteType.assignableTo) Tryd.func93 (by kernel_rfl) (by kernel_rfl) (by kernel_rfl) (by kernel_rfl)
  have hVElem := @run_callFunc_extern Tryd.prog 61 _ (ReflectliteValue.method (ReflectliteValue.valueError "reflectlite.Value.Elem" 0) ReflectliteValue.elem) Tryd.func61 (by kernel_rfl) (by kernel_rfl) (by kernel_rfl) (by kernel_rfl)
  have hValueOf := @run_callFunc_extern Tryd.prog 51 _ (fun args => ReflectliteValue.unpack (args.getD 0 (.tuple #[]))) Tryd.func51 (by kernel_rfl) (by kernel_rfl) (by kernel_rfl) (by kernel_rfl)
  have hSet := @run_callFunc_extern Tryd.prog 62 _ ReflectliteValue.set Tryd.func62 (by kernel_rfl) (by kernel_rfl) (by kernel_rfl) (by kernel_rfl)
  have mA := method_AssignableTo
  have tO := typeOf27
  have aT := assign27
  have vO := valueOf27
  have el := elemV68 vb t (w.alloc (.cells #[.pointer (some ⟨4, 68, none⟩), .pointer (some vb), .int .u64 150] 82)) (by rw [World.cell?_alloc_lt _ _ vb hvl]; exact hv)
  have st := set27 t ⟨w.heap.size + 1, 0, none⟩ c old ((w.alloc (.cells #[.pointer (some ⟨4, 68, none⟩), .pointer (some vb), .int .u64 150] 82)).alloc (.cells #[.int .i64 c] 27))
    (by rw [World.cell?_alloc_at _ _ _ _ (by simp)]; rfl)
    (by rw [World.cell?_alloc_lt _ _ t (by simp; omega), World.cell?_alloc_lt _ _ t htl]; exact ht)
    (by rw [World.frozen?_alloc_old _ _ t (by simp; omega), World.frozen?_alloc_old _ _ t (Nat.ne_of_lt htl)]; exact hf)
  clear hv ht hf
  go_enter Tryd.func54, Tryd.ntmps54
  go_wp2
  refine wp_loop_rounds 1 ?_
  rw [rounds_succ]
  go_wp2
  go_ret
  exact ⟨rfl, rfl⟩

set_option maxRecDepth 100000 in
set_option maxHeartbeats 4000000 in
theorem as1_27_59 (c : Int) (t vb : Addr) (w : World) :
    Calls Tryd.prog 54 #[.iface 27 (.int .i64 c), .iface 78 (.pointer (some t)), .agg #[.pointer (some ⟨4, 78, none⟩), .pointer (some vb), .int .u64 150], .iface 96 (.agg #[.pointer (some ⟨4, 59, none⟩)])] w fun ev w' =>
      ev = .returned (.bool false) ∧ w' = w.alloc (.cells #[.pointer (some ⟨4, 78, none⟩), .pointer (some vb), .int .u64 150] 82) := by
  have hTypeOf := @run_callFunc_extern Tryd.prog 60 _ ReflectliteType.typeOf Tryd.func60 (by kernel_rfl) (by kernel_rfl) (by kernel_rfl) (by kernel_rfl)
  have hAssignableTo := @run_callFunc_extern Tryd.prog 93 _ (ReflectliteType.relation "AssignableTo" ReflectliteType.assignableTo) Tryd.func93 (by kernel_rfl) (by kernel_rfl) (by kernel_rfl) (by kernel_rfl)
  have mA := method_AssignableTo
  have tO := typeOf27
  have aT := assign27_59
  have x1 := ta27_As
  have x2 := ta27_U1
  have x3 := ta27_U2
  go_enter Tryd.func54, Tryd.ntmps54
  go_wp2
  refine wp_loop_rounds 1 ?_
  rw [rounds_succ]
  go_wp2
  go_ret
  exact ⟨rfl, rfl⟩

set_option maxRecDepth 100000 in
set_option maxHeartbeats 4000000 in
theorem as1_59_27 (b : Nat) (c : Int) (t vb : Addr) (old : Value) (w : World) (hb : w.cell? ⟨b, 1, none⟩ = some (.iface 27 (.int .i64 c))) (hbl : b < w.heap.size) (hv : w.cell? vb = some (.pointer (some t))) (hvl : vb.block < w.heap.size) (ht : w.cell? t = some old) (hf : w.frozen? t = false) (htl : t.block < w.heap.size) :
    Calls Tryd.prog 54 #[.iface 59 (.pointer (some ⟨b, 0, none⟩)), .iface 68 (.pointer (some t)), .agg #[.pointer (some ⟨4, 68, none⟩), .pointer (some vb), .int .u64 150], .iface 96 (.agg #[.pointer (some ⟨4, 27, none⟩)])] w fun ev w' =>
      ev = .returned (.bool true) ∧ w' = ((w.alloc (.cells #[.pointer (some ⟨4, 68, none⟩), .pointer (some vb), .int .u64 150] 82)).alloc (.cells #[.int .i64 c] 27)).setCell t (.int .i64 c) := by
  have hTypeOf := @run_callFunc_extern Tryd.prog 60 _ ReflectliteType.typeOf Tryd.func60 (by kernel_rfl) (by kernel_rfl) (by kernel_rfl) (by kernel_rfl)
  have hAssignableTo := @run_callFunc_extern Tryd.prog 93 _ (ReflectliteType.relation "AssignableTo" ReflectliteType.assignableTo) Tryd.func93 (by kernel_rfl) (by kernel_rfl) (by kernel_rfl) (by kernel_rfl)
  have hVElem := @run_callFunc_extern Tryd.prog 61 _ (ReflectliteValue.method (ReflectliteValue.valueError "reflectlite.Value.Elem" 0) ReflectliteValue.elem) Tryd.func61 (by kernel_rfl) (by kernel_rfl) (by kernel_rfl) (by kernel_rfl)
  have hValueOf := @run_callFunc_extern Tryd.prog 51 _ (fun args => ReflectliteValue.unpack (args.getD 0 (.tuple #[]))) Tryd.func51 (by kernel_rfl) (by kernel_rfl) (by kernel_rfl) (by kernel_rfl)
  have hSet := @run_callFunc_extern Tryd.prog 62 _ ReflectliteValue.set Tryd.func62 (by kernel_rfl) (by kernel_rfl) (by kernel_rfl) (by kernel_rfl)
  have mA := method_AssignableTo
  have tO := typeOf27
  have tO' := typeOf59
  have aT := assign27
  have aT' := assign59_27
  have vO := valueOf27
  have x1 := ta59_As
  have x2 := ta59_U1
  have mU := method_Unwrap
  have hb1 : (w.alloc (.cells #[.pointer (some ⟨4, 68, none⟩), .pointer (some vb), .int .u64 150] 82)).cell? ⟨b, 1, none⟩ = some (.iface 27 (.int .i64 c)) := by rw [World.cell?_alloc_lt _ _ ⟨b, 1, none⟩ hbl]; exact hb
  have el := elemV68 vb t (w.alloc (.cells #[.pointer (some ⟨4, 68, none⟩), .pointer (some vb), .int .u64 150] 82)) (by rw [World.cell?_alloc_lt _ _ vb hvl]; exact hv)
  have st := set27 t ⟨w.heap.size + 1, 0, none⟩ c old ((w.alloc (.cells #[.pointer (some ⟨4, 68, none⟩), .pointer (some vb), .int .u64 150] 82)).alloc (.cells #[.int .i64 c] 27))
    (by rw [World.cell?_alloc_at _ _ _ _ (by simp)]; rfl)
    (by rw [World.cell?_alloc_lt _ _ t (by simp; omega), World.cell?_alloc_lt _ _ t htl]; exact ht)
    (by rw [World.frozen?_alloc_old _ _ t (by simp; omega), World.frozen?_alloc_old _ _ t (Nat.ne_of_lt htl)]; exact hf)
  clear hv ht hf hb
  go_enter Tryd.func54, Tryd.ntmps54
  go_wp2
  refine wp_loop_rounds 2 ?_
  rw [rounds_succ]
  go_wp2
  rw [rounds_succ]
  go_wp2
  go_ret
  exact ⟨rfl, rfl⟩

set_option maxRecDepth 100000 in
set_option maxHeartbeats 4000000 in
theorem as_59 (e : Addr) (t : Addr) (old : Value) (w : World) (hg : w.cell? ⟨0, 0, none⟩ = some (.iface 96 (.agg #[.pointer (some ⟨4, 24, none⟩)]))) (hgl : 0 < w.heap.size) (ht : w.cell? t = some old) (hf : w.frozen? t = false) (htl : t.block < w.heap.size)  :
    Calls Tryd.prog 41 #[.iface 59 (.pointer (some e)), .iface 78 (.pointer (some t))] w fun ev w' => ev = .returned (.bool true) ∧ ∃ w1, Below w.heap.size w w1 ∧ w' = w1.setCell t (.pointer (some e)) := by
  have hValueOf := @run_callFunc_extern Tryd.prog 51 _ (fun args => ReflectliteValue.unpack (args.getD 0 (.tuple #[]))) Tryd.func51 (by kernel_rfl) (by kernel_rfl) (by kernel_rfl) (by kernel_rfl)
  have hType := @run_callFunc_extern Tryd.prog 52 _ (ReflectliteValue.methodAny (ReflectliteValue.valueError "reflectlite.Value.Type" 0) (fun t _ _ _ => ReflectliteType.toType t)) Tryd.func52 (by kernel_rfl) (by kernel_rfl) (by kernel_rfl) (by kernel_rfl)
  have hIsNil := @run_callFunc_extern Tryd.prog 53 _ (ReflectliteValue.method (ReflectliteValue.valueError "reflectlite.Value.IsNil" 0) ReflectliteValue.isNil) Tryd.func53 (by kernel_rfl) (by kernel_rfl) (by kernel_rfl) (by kernel_rfl)
  have hKind := @run_callFunc_extern Tryd.prog 83 _ (ReflectliteType.abiMethod fun t => do pure (.int .u8 (← Rtype.kind t))) Tryd.func83 (by kernel_rfl) (by kernel_rfl) (by kernel_rfl) (by kernel_rfl)
  have hElem := @run_callFunc_extern Tryd.prog 95 _ (ReflectliteType.method ReflectliteType.elem) Tryd.func95 (by kernel_rfl) (by kernel_rfl) (by kernel_rfl) (by kernel_rfl)
  have hImplements := @run_callFunc_extern Tryd.prog 96 _ (ReflectliteType.relation "Implements" ReflectliteType.implements_) Tryd.func96 (by kernel_rfl) (by kernel_rfl) (by kernel_rfl) (by kernel_rfl)
  have mK := method_Kind
  have mE := method_Elem
  have mI := method_Implements
  have vT := valueOf78
  have tT := type78
  have kT := kind78
  have kE := kind59
  have eT := elem78
  have iE := implements59
  have nT := isNil78 ⟨w.heap.size, 0, none⟩ t ((w.alloc (.cells #[.pointer (some t)] 78)).alloc (.cells #[.pointer (some ⟨4, 78, none⟩), .pointer (some ⟨w.heap.size, 0, none⟩), .int .u64 150] 82)) (by simp)
  have hB1 : Below w.heap.size w ((w.alloc (.cells #[.pointer (some t)] 78)).alloc (.cells #[.pointer (some ⟨4, 78, none⟩), .pointer (some ⟨w.heap.size, 0, none⟩), .int .u64 150] 82)) := ((Below.refl _ _).alloc (Nat.le_refl _) _).alloc (by simp) _
  have hg2 : ((w.alloc (.cells #[.pointer (some t)] 78)).alloc (.cells #[.pointer (some ⟨4, 78, none⟩), .pointer (some ⟨w.heap.size, 0, none⟩), .int .u64 150] 82)).cell? ⟨0, 0, none⟩ = some (.iface 96 (.agg #[.pointer (some ⟨4, 24, none⟩)])) := (hB1.cell hgl).trans hg
  have ht2 : ((w.alloc (.cells #[.pointer (some t)] 78)).alloc (.cells #[.pointer (some ⟨4, 78, none⟩), .pointer (some ⟨w.heap.size, 0, none⟩), .int .u64 150] 82)).cell? t = some old := (hB1.cell htl).trans ht
  have hf2 : ((w.alloc (.cells #[.pointer (some t)] 78)).alloc (.cells #[.pointer (some ⟨4, 78, none⟩), .pointer (some ⟨w.heap.size, 0, none⟩), .int .u64 150] 82)).frozen? t = false := (hB1.frozen htl).trans hf
  have hv2 : ((w.alloc (.cells #[.pointer (some t)] 78)).alloc (.cells #[.pointer (some ⟨4, 78, none⟩), .pointer (some ⟨w.heap.size, 0, none⟩), .int .u64 150] 82)).cell? ⟨w.heap.size, 0, none⟩ = some (.pointer (some t)) := by simp
  clear hg ht hf
  go_enter Tryd.func41, Tryd.ntmps41
  go_wp2_with fail
  refine (as1_59 e t _ old _ hv2 (by simp; omega) ht2 hf2 (by simp; omega)).mono ?_
  rintro ev w9 ⟨rfl, rfl⟩
  go_wp2
  go_ret
  exact ⟨rfl, _, ((hB1.alloc (by simp; omega) _).alloc (by simp; omega) _), rfl⟩

set_option maxRecDepth 100000 in
set_option maxHeartbeats 4000000 in
theorem as_27_59 (c : Int) (t : Addr) (old : Value) (w : World) (hg : w.cell? ⟨0, 0, none⟩ = some (.iface 96 (.agg #[.pointer (some ⟨4, 24, none⟩)]))) (hgl : 0 < w.heap.size) (ht : w.cell? t = some old) (hf : w.frozen? t = false) (htl : t.block < w.heap.size)  :
    Calls Tryd.prog 41 #[.iface 27 (.int .i64 c), .iface 78 (.pointer (some t))] w fun ev w' => ev = .returned (.bool false) ∧ Below w.heap.size w w' := by
  have hValueOf := @run_callFunc_extern Tryd.prog 51 _ (fun args => ReflectliteValue.unpack (args.getD 0 (.tuple #[]))) Tryd.func51 (by kernel_rfl) (by kernel_rfl) (by kernel_rfl) (by kernel_rfl)
  have hType := @run_callFunc_extern Tryd.prog 52 _ (ReflectliteValue.methodAny (ReflectliteValue.valueError "reflectlite.Value.Type" 0) (fun t _ _ _ => ReflectliteType.toType t)) Tryd.func52 (by kernel_rfl) (by kernel_rfl) (by kernel_rfl) (by kernel_rfl)
  have hIsNil := @run_callFunc_extern Tryd.prog 53 _ (ReflectliteValue.method (ReflectliteValue.valueError "reflectlite.Value.IsNil" 0) ReflectliteValue.isNil) Tryd.func53 (by kernel_rfl) (by kernel_rfl) (by kernel_rfl) (by kernel_rfl)
  have hKind := @run_callFunc_extern Tryd.prog 83 _ (ReflectliteType.abiMethod fun t => do pure (.int .u8 (← Rtype.kind t))) Tryd.func83 (by kernel_rfl) (by kernel_rfl) (by kernel_rfl) (by kernel_rfl)
  have hElem := @run_callFunc_extern Tryd.prog 95 _ (ReflectliteType.method ReflectliteType.elem) Tryd.func95 (by kernel_rfl) (by kernel_rfl) (by kernel_rfl) (by kernel_rfl)
  have hImplements := @run_callFunc_extern Tryd.prog 96 _ (ReflectliteType.relation "Implements" ReflectliteType.implements_) Tryd.func96 (by kernel_rfl) (by kernel_rfl) (by kernel_rfl) (by kernel_rfl)
  have mK := method_Kind
  have mE := method_Elem
  have mI := method_Implements
  have vT := valueOf78
  have tT := type78
  have kT := kind78
  have kE := kind59
  have eT := elem78
  have iE := implements59
  have nT := isNil78 ⟨w.heap.size, 0, none⟩ t ((w.alloc (.cells #[.pointer (some t)] 78)).alloc (.cells #[.pointer (some ⟨4, 78, none⟩), .pointer (some ⟨w.heap.size, 0, none⟩), .int .u64 150] 82)) (by simp)
  have hB1 : Below w.heap.size w ((w.alloc (.cells #[.pointer (some t)] 78)).alloc (.cells #[.pointer (some ⟨4, 78, none⟩), .pointer (some ⟨w.heap.size, 0, none⟩), .int .u64 150] 82)) := ((Below.refl _ _).alloc (Nat.le_refl _) _).alloc (by simp) _
  have hg2 : ((w.alloc (.cells #[.pointer (some t)] 78)).alloc (.cells #[.pointer (some ⟨4, 78, none⟩), .pointer (some ⟨w.heap.size, 0, none⟩), .int .u64 150] 82)).cell? ⟨0, 0, none⟩ = some (.iface 96 (.agg #[.pointer (some ⟨4, 24, none⟩)])) := (hB1.cell hgl).trans hg
  have ht2 : ((w.alloc (.cells #[.pointer (some t)] 78)).alloc (.cells #[.pointer (some ⟨4, 78, none⟩), .pointer (some ⟨w.heap.size, 0, none⟩), .int .u64 150] 82)).cell? t = some old := (hB1.cell htl).trans ht
  have hf2 : ((w.alloc (.cells #[.pointer (some t)] 78)).alloc (.cells #[.pointer (some ⟨4, 78, none⟩), .pointer (some ⟨w.heap.size, 0, none⟩), .int .u64 150] 82)).frozen? t = false := (hB1.frozen htl).trans hf
  have hv2 : ((w.alloc (.cells #[.pointer (some t)] 78)).alloc (.cells #[.pointer (some ⟨4, 78, none⟩), .pointer (some ⟨w.heap.size, 0, none⟩), .int .u64 150] 82)).cell? ⟨w.heap.size, 0, none⟩ = some (.pointer (some t)) := by simp
  clear hg ht hf
  go_enter Tryd.func41, Tryd.ntmps41
  go_wp2_with fail
  refine (as1_27_59 c t _ _).mono ?_
  rintro ev w9 ⟨rfl, rfl⟩
  go_wp2
  go_ret
  exact ⟨rfl, hB1.alloc (by simp; omega) _⟩

set_option maxRecDepth 100000 in
set_option maxHeartbeats 4000000 in
theorem as_59_27 (b : Nat) (c : Int) (t : Addr) (old : Value) (w : World) (hg : w.cell? ⟨0, 0, none⟩ = some (.iface 96 (.agg #[.pointer (some ⟨4, 24, none⟩)]))) (hgl : 0 < w.heap.size) (ht : w.cell? t = some old) (hf : w.frozen? t = false) (htl : t.block < w.heap.size) (hb : w.cell? ⟨b, 1, none⟩ = some (.iface 27 (.int .i64 c))) (hbl : b < w.heap.size) :
    Calls Tryd.prog 41 #[.iface 59 (.pointer (some ⟨b, 0, none⟩)), .iface 68 (.pointer (some t))] w fun ev w' => ev = .returned (.bool true) ∧ ∃ w1, Below w.heap.size w w1 ∧ w' = w1.setCell t (.int .i64 c) := by
  have hValueOf := @run_callFunc_extern Tryd.prog 51 _ (fun args => ReflectliteValue.unpack (args.getD 0 (.tuple #[]))) Tryd.func51 (by kernel_rfl) (by kernel_rfl) (by kernel_rfl) (by kernel_rfl)
  have hType := @run_callFunc_extern Tryd.prog 52 _ (ReflectliteValue.methodAny (ReflectliteValue.valueError "reflectlite.Value.Type" 0) (fun t _ _ _ => ReflectliteType.toType t)) Tryd.func52 (by kernel_rfl) (by kernel_rfl) (by kernel_rfl) (by kernel_rfl)
  have hIsNil := @run_callFunc_extern Tryd.prog 53 _ (ReflectliteValue.method (ReflectliteValue.valueError "reflectlite.Value.IsNil" 0) ReflectliteValue.isNil) Tryd.func53 (by kernel_rfl) (by kernel_rfl) (by kernel_rfl) (by kernel_rfl)
  have hKind := @run_callFunc_extern Tryd.prog 83 _ (ReflectliteType.abiMethod fun t => do pure (.int .u8 (← Rtype.kind t))) Tryd.func83 (by kernel_rfl) (by kernel_rfl) (by kernel_rfl) (by kernel_rfl)
  have hElem := @run_callFunc_extern Tryd.prog 95 _ (ReflectliteType.method ReflectliteType.elem) Tryd.func95 (by kernel_rfl) (by kernel_rfl) (by kernel_rfl) (by kernel_rfl)
  have hImplements := @run_callFunc_extern Tryd.prog 96 _ (ReflectliteType.relation "Implements" ReflectliteType.implements_) Tryd.func96 (by kernel_rfl) (by kernel_rfl) (by kernel_rfl) (by kernel_rfl)
  have mK := method_Kind
  have mE := method_Elem
  have mI := method_Implements
  have vT := valueOf68
  have tT := type68
  have kT := kind68
  have kE := kind27
  have eT := elem68
  have iE := implements27
  have nT := isNil68 ⟨w.heap.size, 0, none⟩ t ((w.alloc (.cells #[.pointer (some t)] 68)).alloc (.cells #[.pointer (some ⟨4, 68, none⟩), .pointer (some ⟨w.heap.size, 0, none⟩), .int .u64 150] 82)) (by simp)
  have hB1 : Below w.heap.size w ((w.alloc (.cells #[.pointer (some t)] 68)).alloc (.cells #[.pointer (some ⟨4, 68, none⟩), .pointer (some ⟨w.heap.size, 0, none⟩), .int .u64 150] 82)) := ((Below.refl _ _).alloc (Nat.le_refl _) _).alloc (by simp) _
  have hg2 : ((w.alloc (.cells #[.pointer (some t)] 68)).alloc (.cells #[.pointer (some ⟨4, 68, none⟩), .pointer (some ⟨w.heap.size, 0, none⟩), .int .u64 150] 82)).cell? ⟨0, 0, none⟩ = some (.iface 96 (.agg #[.pointer (some ⟨4, 24, none⟩)])) := (hB1.cell hgl).trans hg
  have ht2 : ((w.alloc (.cells #[.pointer (some t)] 68)).alloc (.cells #[.pointer (some ⟨4, 68, none⟩), .pointer (some ⟨w.heap.size, 0, none⟩), .int .u64 150] 82)).cell? t = some old := (hB1.cell htl).trans ht
  have hf2 : ((w.alloc (.cells #[.pointer (some t)] 68)).alloc (.cells #[.pointer (some ⟨4, 68, none⟩), .pointer (some ⟨w.heap.size, 0, none⟩), .int .u64 150] 82)).frozen? t = false := (hB1.frozen htl).trans hf
  have hv2 : ((w.alloc (.cells #[.pointer (some t)] 68)).alloc (.cells #[.pointer (some ⟨4, 68, none⟩), .pointer (some ⟨w.heap.size, 0, none⟩), .int .u64 150] 82)).cell? ⟨w.heap.size, 0, none⟩ = some (.pointer (some t)) := by simp
  clear hg ht hf
  have hb2 := (hB1.cell (p := ⟨b, 1, none⟩) hbl).trans hb
  clear hb
  go_enter Tryd.func41, Tryd.ntmps41
  go_wp2_with fail
  refine (as1_59_27 b c t _ old _ hb2 (by simp; omega) hv2 (by simp; omega) ht2 hf2 (by simp; omega)).mono ?_
  rintro ev w9 ⟨rfl, rfl⟩
  go_wp2
  go_ret
  exact ⟨rfl, _, ((hB1.alloc (by simp; omega) _).alloc (by simp; omega) _), rfl⟩
end Go.Proofs.YtlhekohecbiljaaDoor
