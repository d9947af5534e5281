/-
  PROVED HERE: contracts of errors.As at a target of type *api.Errno (the error nil, an Errno, a *api.At), of api.Tell, plain.Place and the laws' own bare. Conditions: as each theorem states.
-/
import Derived.Test.YtkopjmofdnlplaaGreatDoorRows
import Derived.WalkKit
import Derived.WalkLawsBesides
import Derived.WalkSpells
import Derived.Outline
import Derived.LaidEql
import Derived.Stop.Asserts
import Derived.RowKitTokens
namespace Go.Proofs.YtkopjmofdnlplaaGreatDoor.Err
open Go.RowKit Go.Extern.Stop Go.Stop Go.Extern

theorem valueOfT (t : Addr) (w : World) : (ReflectliteValue.unpack (.iface 190 (.pointer (some t)))).run Tryz.prog w
    = .ok (.agg #[.pointer (some ⟨2, 190, none⟩), .pointer (some ⟨w.heap.size, 0, none⟩), .int .u64 150]) (w.alloc (.cells #[.pointer (some t)] 190)) := by kernel_rfl
theorem typeT (a : Addr) (w : World) : (ReflectliteValue.methodAny (ReflectliteValue.valueError "reflectlite.Value.Type" 0) (fun t _ _ _ => ReflectliteType.toType t) #[.agg #[.pointer (some ⟨2, 190, none⟩), .pointer (some a), .int .u64 150]]).run Tryz.prog w
    = .ok (.iface 234 (.agg #[.pointer (some ⟨2, 190, none⟩)])) w := by kernel_rfl
theorem methodKind (h : Value) (w : World) : (Go.method 386 234 (.agg #[h]) "Kind").run Tryz.prog w = .ok (197, h) w := by kernel_rfl
theorem kindT (w : World) : ((ReflectliteType.abiMethod fun t => (fun a : Nat => Value.int IntKind.u8 (a : Int)) <$> Rtype.kind t) #[.pointer (some ⟨2, 190, none⟩)]).run Tryz.prog w = .ok (.int .u8 22) w := by kernel_rfl
theorem kindE (w : World) : ((ReflectliteType.abiMethod fun t => (fun a : Nat => Value.int IntKind.u8 (a : Int)) <$> Rtype.kind t) #[.pointer (some ⟨2, 28, none⟩)]).run Tryz.prog w = .ok (.int .u8 2) w := by kernel_rfl
theorem rlm (z : Sem Value) (f : TypeId → Addr → Nat → Nat → Sem Value) (v : Value) :
    ReflectliteValue.method z f #[v] = (do match ← ReflectliteValue.parts v with | none => z | some (t, a, fl) => f t a fl (fl % 32)) := rfl
theorem partsT (a : Addr) (w : World) : (ReflectliteValue.parts (.agg #[.pointer (some ⟨2, 190, none⟩), .pointer (some a), .int .u64 150])).run Tryz.prog w = .ok (some (190, a, 150)) w := by kernel_rfl
theorem isNilT (a p : Addr) (W : World) (ha : W.cell? a = some (.pointer (some p))) :
    (ReflectliteValue.method (ReflectliteValue.valueError "reflectlite.Value.IsNil" 0) ReflectliteValue.isNil #[.agg #[.pointer (some ⟨2, 190, none⟩), .pointer (some a), .int .u64 150]]).run Tryz.prog W = .ok (.bool false) W := by
  rw [rlm]
  simp only [Sem.run_bind, partsT, Result.andThen]
  simp [ReflectliteValue.isNil, loadVar, isAgg, underlying, Tryz.underlying190, ha, Result.andThen]
theorem methodElem (h : Value) (w : World) : (Go.method 386 234 (.agg #[h]) "Elem").run Tryz.prog w = .ok (209, .agg #[h]) w := by kernel_rfl
theorem methodImplements (h : Value) (w : World) : (Go.method 386 234 (.agg #[h]) "Implements").run Tryz.prog w = .ok (210, .agg #[h]) w := by kernel_rfl
theorem methodAssignableTo (h : Value) (w : World) : (Go.method 386 234 (.agg #[h]) "AssignableTo").run Tryz.prog w = .ok (207, .agg #[h]) w := by kernel_rfl
theorem elemT (w : World) : (ReflectliteType.method ReflectliteType.elem #[.agg #[.pointer (some ⟨2, 190, none⟩)]]).run Tryz.prog w = .ok (.iface 234 (.agg #[.pointer (some ⟨2, 28, none⟩)])) w := by kernel_rfl
theorem implementsE (w : World) : (ReflectliteType.relation "Implements" ReflectliteType.implements_ #[.agg #[.pointer (some ⟨2, 28, none⟩)], .iface 234 (.agg #[.pointer (some ⟨2, 34, none⟩)])]).run Tryz.prog w = .ok (.bool true) w := by kernel_rfl
theorem typeOfE (v : Value) (w : World) : (ReflectliteType.typeOf #[.iface 28 v]).run Tryz.prog w = .ok (.iface 234 (.agg #[.pointer (some ⟨2, 28, none⟩)])) w := by kernel_rfl
theorem typeOfA (v : Value) (w : World) : (ReflectliteType.typeOf #[.iface 140 v]).run Tryz.prog w = .ok (.iface 234 (.agg #[.pointer (some ⟨2, 140, none⟩)])) w := by kernel_rfl
theorem assignableE (w : World) : (ReflectliteType.relation "AssignableTo" ReflectliteType.assignableTo #[.agg #[.pointer (some ⟨2, 28, none⟩)], .iface 234 (.agg #[.pointer (some ⟨2, 28, none⟩)])]).run Tryz.prog w = .ok (.bool true) w := by kernel_rfl
theorem assignableA (w : World) : (ReflectliteType.relation "AssignableTo" ReflectliteType.assignableTo #[.agg #[.pointer (some ⟨2, 140, none⟩)], .iface 234 (.agg #[.pointer (some ⟨2, 28, none⟩)])]).run Tryz.prog w = .ok (.bool false) w := by kernel_rfl
theorem valueOfE (n : Int) (w : World) : (ReflectliteValue.unpack (.iface 28 (.int .i64 n))).run Tryz.prog w
    = .ok (.agg #[.pointer (some ⟨2, 28, none⟩), .pointer (some ⟨w.heap.size, 0, none⟩), .int .u64 130]) (w.alloc (.cells #[.int .i64 n] 28)) := by kernel_rfl
theorem elemOfT (w : World) : (Rtype.elem? 190).run Tryz.prog w = .ok (some 28) w := by kernel_rfl
theorem mkE (p : Addr) (w : World) : (ReflectliteValue.mk 28 p ReflectliteValue.flagAddr).run Tryz.prog w = .ok (.agg #[.pointer (some ⟨2, 28, none⟩), .pointer (some p), .int .u64 386]) w := by kernel_rfl
theorem elemVT (a p : Addr) (W : World) (ha : W.cell? a = some (.pointer (some p))) :
    (ReflectliteValue.method (ReflectliteValue.valueError "reflectlite.Value.Elem" 0) ReflectliteValue.elem #[.agg #[.pointer (some ⟨2, 190, none⟩), .pointer (some a), .int .u64 150]]).run Tryz.prog W
      = .ok (.agg #[.pointer (some ⟨2, 28, none⟩), .pointer (some p), .int .u64 386]) W := by
  rw [rlm]
  simp only [Sem.run_bind, partsT, Result.andThen]
  simp [ReflectliteValue.elem, loadVar, isAgg, underlying, Tryz.underlying190, ha, Result.andThen, elemOfT, mkE]
theorem rls (v x : Value) : ReflectliteValue.set #[v, x] = (do
    let (some (dst, a, fl), some (src, b, _)) := (← ReflectliteValue.parts v, ← ReflectliteValue.parts x)
      | unsupported (.noEntry "extern/(internal/reflectlite.Value).Set.zeroValue")
    if fl / ReflectliteValue.flagAddr % 2 == 0 then unsupported (.noEntry "extern/(internal/reflectlite.Value).Set.unaddressable")
    let val ← loadVar src b
    if ← Rtype.directlyAssignable dst src then storeVar dst a val
    else if ← Rtype.implements dst src then
      if (← Rtype.kind src) == 20 then
        match val with
        | .nilIface => unsupported (.noEntry "extern/reflectlite: a nil value of one interface type handed on as a value of another")
        | _ => storeVar dst a val
      else storeVar dst a (.iface src val)
    else panicString ("reflectlite.Set: value of type " ++ (← Rtype.spelt src) ++ " is not assignable to type " ++ (← Rtype.spelt dst))
    pure (.tuple #[])) := rfl
theorem partsEa (a : Addr) (w : World) : (ReflectliteValue.parts (.agg #[.pointer (some ⟨2, 28, none⟩), .pointer (some a), .int .u64 386])).run Tryz.prog w = .ok (some (28, a, 386)) w := by kernel_rfl
theorem partsE (a : Addr) (w : World) : (ReflectliteValue.parts (.agg #[.pointer (some ⟨2, 28, none⟩), .pointer (some a), .int .u64 130])).run Tryz.prog w = .ok (some (28, a, 130)) w := by kernel_rfl
theorem directE (w : World) : (Rtype.directlyAssignable 28 28).run Tryz.prog w = .ok true w := by kernel_rfl
theorem setE (ta b : Addr) (n : Int) (old : Value) (W : World) (hb : W.cell? b = some (.int .i64 n)) (ht : W.cell? ta = some old) (hf : W.frozen? ta = false) :
    (ReflectliteValue.set #[.agg #[.pointer (some ⟨2, 28, none⟩), .pointer (some ta), .int .u64 386], .agg #[.pointer (some ⟨2, 28, none⟩), .pointer (some b), .int .u64 130]]).run Tryz.prog W
      = .ok (.tuple #[]) (W.setCell ta (.int .i64 n)) := by
  rw [rls]
  simp only [Sem.run_bind, partsEa, partsE, Result.andThen]
  simp [ReflectliteValue.flagAddr, loadVar, isAgg, underlying, Tryz.underlying28, hb, Result.andThen, directE, storeVar, Value.cells, storeCells, Addr.add]
  rw [run_store Tryz.prog W ta _ _ (by rfl)]
  simp [ht, hf]

theorem noAsA (v : Value) (xT : TypeId) (w : World) : (Instr.typeAssert (.iface 140 v) xT 239 true).run Tryz.prog w = .ok (.tuple #[.nilIface, .bool false]) w := run_typeAssert_lacksB Tryz.underlying239 (by kernel_rfl) (by kernel_rfl) v xT w
theorem hasUnwrapA (v : Value) (xT : TypeId) (w : World) : (Instr.typeAssert (.iface 140 v) xT 145 true).run Tryz.prog w = .ok (.tuple #[.iface 140 v, .bool true]) w := run_typeAssert_hasB Tryz.underlying145 (by kernel_rfl) v xT w
theorem nilAheadA (a : Addr) (w : World) : (nilAhead 386 140 (.pointer (some a)) "Unwrap").run Tryz.prog w = .ok (some false) w := by kernel_rfl
theorem methodUnwrapA (a : Addr) (w : World) : (Go.method 386 140 (.pointer (some a)) "Unwrap").run Tryz.prog w = .ok (202, .pointer (some a)) w := by kernel_rfl
theorem c3 (w : World) (o1 o2 : Obj) (x : Value) (ty : TypeId) : (((w.alloc (.cells #[x] ty)).alloc o1).alloc o2).cell? ⟨w.heap.size, 0, none⟩ = some x := by
  have s0 : w.heap.size < (w.alloc (.cells #[x] ty)).heap.size := by simp
  have s1 : w.heap.size < ((w.alloc (.cells #[x] ty)).alloc o1).heap.size := by simp; omega
  rw [World.cell?_alloc_lt _ _ ⟨w.heap.size, 0, none⟩ s1, World.cell?_alloc_lt _ _ ⟨w.heap.size, 0, none⟩ s0, World.cell?_alloc_new]
  rfl
theorem block_lt {w : World} {a : Addr} {v : Value} (h : w.cell? a = some v) : a.block < w.heap.size := block_lt_of_cell h

set_option maxHeartbeats 4000000 in
theorem as_hit (n : Int) (t : Addr) (old : Value) (w : World) (hg : w.cell? ⟨0, 0, none⟩ = some (.iface 234 (.agg #[.pointer (some ⟨2, 34, none⟩)]))) (ht0 : w.cell? t = some old) (hf0 : w.frozen? t = false) :
    Calls Tryz.prog 125 #[.iface 28 (.int .i64 n), .iface 190 (.pointer (some t))] w fun ev w' => ev = .returned (.bool true) ∧ w' = ((((w.alloc (.cells #[.pointer (some t)] 190)).alloc (.cells #[.pointer (some ⟨2, 190, none⟩), .pointer (some ⟨w.heap.size, 0, none⟩), .int .u64 150] 215)).alloc (.cells #[.pointer (some ⟨2, 190, none⟩), .pointer (some ⟨w.heap.size, 0, none⟩), .int .u64 150] 215)).alloc (.cells #[.int .i64 n] 28)).setCell t (.int .i64 n) := by
  have h6 := @run_callFunc_extern Tryz.prog 148 _ (fun args => ReflectliteValue.unpack (args.getD 0 (.tuple #[]))) Tryz.func148 (by kernel_rfl) (by kernel_rfl) (by kernel_rfl) (by kernel_rfl)
  have h7 := @run_callFunc_extern Tryz.prog 149 _ (ReflectliteValue.methodAny (ReflectliteValue.valueError "reflectlite.Value.Type" 0) (fun t _ _ _ => ReflectliteType.toType t)) Tryz.func149 (by kernel_rfl) (by kernel_rfl) (by kernel_rfl) (by kernel_rfl)
  have h8 := @run_callFunc_extern Tryz.prog 150 _ (ReflectliteValue.method (ReflectliteValue.valueError "reflectlite.Value.IsNil" 0) ReflectliteValue.isNil) Tryz.func150 (by kernel_rfl) (by kernel_rfl) (by kernel_rfl) (by kernel_rfl)
  have h27 := @run_callFunc_extern Tryz.prog 197 _ (ReflectliteType.abiMethod fun t => do pure (.int .u8 (← Rtype.kind t))) Tryz.func197 (by kernel_rfl) (by kernel_rfl) (by kernel_rfl) (by kernel_rfl)
  have h37 := @run_callFunc_extern Tryz.prog 209 _ (ReflectliteType.method ReflectliteType.elem) Tryz.func209 (by kernel_rfl) (by kernel_rfl) (by kernel_rfl) (by kernel_rfl)
  have h38 := @run_callFunc_extern Tryz.prog 210 _ (ReflectliteType.relation "Implements" ReflectliteType.implements_) Tryz.func210 (by kernel_rfl) (by kernel_rfl) (by kernel_rfl) (by kernel_rfl)
  have h10 := @run_callFunc_extern Tryz.prog 167 _ ReflectliteType.typeOf Tryz.func167 (by kernel_rfl) (by kernel_rfl) (by kernel_rfl) (by kernel_rfl)
  have h35 := @run_callFunc_extern Tryz.prog 207 _ (ReflectliteType.relation "AssignableTo" ReflectliteType.assignableTo) Tryz.func207 (by kernel_rfl) (by kernel_rfl) (by kernel_rfl) (by kernel_rfl)
  have h11 := @run_callFunc_extern Tryz.prog 168 _ (ReflectliteValue.method (ReflectliteValue.valueError "reflectlite.Value.Elem" 0) ReflectliteValue.elem) Tryz.func168 (by kernel_rfl) (by kernel_rfl) (by kernel_rfl) (by kernel_rfl)
  have h12 := @run_callFunc_extern Tryz.prog 169 _ ReflectliteValue.set Tryz.func169 (by kernel_rfl) (by kernel_rfl) (by kernel_rfl) (by kernel_rfl)
  have tO := typeOfE
  have mA := methodAssignableTo
  have aE := assignableE
  have vE := valueOfE
  have f6 := valueOfT
  have f7 := typeT
  have mK := methodKind
  have mE := methodElem
  have mI := methodImplements
  have kT := kindT
  have kE := kindE
  have eT := elemT
  have iE := implementsE
  have hlt : 0 < w.heap.size := block_lt hg
  have htl := block_lt ht0
  have n8 := isNilT ⟨w.heap.size, 0, none⟩ t ((w.alloc (.cells #[.pointer (some t)] 190)).alloc (.cells #[.pointer (some ⟨2, 190, none⟩), .pointer (some ⟨w.heap.size, 0, none⟩), .int .u64 150] 215)) (by simp)
  have hg2 : ((w.alloc (.cells #[.pointer (some t)] 190)).alloc (.cells #[.pointer (some ⟨2, 190, none⟩), .pointer (some ⟨w.heap.size, 0, none⟩), .int .u64 150] 215)).cell? ⟨0, 0, none⟩ = some (.iface 234 (.agg #[.pointer (some ⟨2, 34, none⟩)])) := by
    rw [World.cell?_alloc_lt _ _ _ (by simp <;> omega), World.cell?_alloc_lt _ _ _ hlt]; exact hg
  have el := elemVT ⟨w.heap.size, 0, none⟩ t (((w.alloc (.cells #[.pointer (some t)] 190)).alloc (.cells #[.pointer (some ⟨2, 190, none⟩), .pointer (some ⟨w.heap.size, 0, none⟩), .int .u64 150] 215)).alloc (.cells #[.pointer (some ⟨2, 190, none⟩), .pointer (some ⟨w.heap.size, 0, none⟩), .int .u64 150] 215)) (c3 w _ _ _ _)
  have st := setE t ⟨w.heap.size + 1 + 1 + 1, 0, none⟩ n old ((((w.alloc (.cells #[.pointer (some t)] 190)).alloc (.cells #[.pointer (some ⟨2, 190, none⟩), .pointer (some ⟨w.heap.size, 0, none⟩), .int .u64 150] 215)).alloc (.cells #[.pointer (some ⟨2, 190, none⟩), .pointer (some ⟨w.heap.size, 0, none⟩), .int .u64 150] 215)).alloc (.cells #[.int .i64 n] 28)) (by rw [World.cell?_alloc_at _ _ _ _ (by simp)]; rfl)
    (by rw [World.cell?_alloc_lt _ _ t (by simp <;> omega), World.cell?_alloc_lt _ _ t (by simp <;> omega), World.cell?_alloc_lt _ _ t (by simp <;> omega), World.cell?_alloc_lt _ _ t htl]; exact ht0)
    (by rw [World.frozen?_alloc_old _ _ t (by simp <;> omega), World.frozen?_alloc_old _ _ t (by simp <;> omega), World.frozen?_alloc_old _ _ t (by simp <;> omega), World.frozen?_alloc_old _ _ t (Nat.ne_of_lt htl)]; exact hf0)
  clear hlt htl
  go_enter Tryz.func125, Tryz.ntmps125
  go_wp2
  refine wp_loop_rounds 1 ?_
  rw [rounds_succ]
  go_wp2
  go_ret
  exact ⟨rfl, rfl⟩

set_option maxHeartbeats 4000000 in
theorem as_at (n : Int) (b o : Nat) (t : Addr) (old : Value) (w : World) (hg : w.cell? ⟨0, 0, none⟩ = some (.iface 234 (.agg #[.pointer (some ⟨2, 34, none⟩)]))) (hA : w.cell? ⟨b, o, none⟩ = some (.int .i64 n)) (ht0 : w.cell? t = some old) (hf0 : w.frozen? t = false) :
    Calls Tryz.prog 125 #[.iface 140 (.pointer (some ⟨b, o, none⟩)), .iface 190 (.pointer (some t))] w fun ev w' => ev = .returned (.bool true) ∧ w' = ((((w.alloc (.cells #[.pointer (some t)] 190)).alloc (.cells #[.pointer (some ⟨2, 190, none⟩), .pointer (some ⟨w.heap.size, 0, none⟩), .int .u64 150] 215)).alloc (.cells #[.pointer (some ⟨2, 190, none⟩), .pointer (some ⟨w.heap.size, 0, none⟩), .int .u64 150] 215)).alloc (.cells #[.int .i64 n] 28)).setCell t (.int .i64 n) := by
  have h6 := @run_callFunc_extern Tryz.prog 148 _ (fun args => ReflectliteValue.unpack (args.getD 0 (.tuple #[]))) Tryz.func148 (by kernel_rfl) (by kernel_rfl) (by kernel_rfl) (by kernel_rfl)
  have h7 := @run_callFunc_extern Tryz.prog 149 _ (ReflectliteValue.methodAny (ReflectliteValue.valueError "reflectlite.Value.Type" 0) (fun t _ _ _ => ReflectliteType.toType t)) Tryz.func149 (by kernel_rfl) (by kernel_rfl) (by kernel_rfl) (by kernel_rfl)
  have h8 := @run_callFunc_extern Tryz.prog 150 _ (ReflectliteValue.method (ReflectliteValue.valueError "reflectlite.Value.IsNil" 0) ReflectliteValue.isNil) Tryz.func150 (by kernel_rfl) (by kernel_rfl) (by kernel_rfl) (by kernel_rfl)
  have h27 := @run_callFunc_extern Tryz.prog 197 _ (ReflectliteType.abiMethod fun t => do pure (.int .u8 (← Rtype.kind t))) Tryz.func197 (by kernel_rfl) (by kernel_rfl) (by kernel_rfl) (by kernel_rfl)
  have h37 := @run_callFunc_extern Tryz.prog 209 _ (ReflectliteType.method ReflectliteType.elem) Tryz.func209 (by kernel_rfl) (by kernel_rfl) (by kernel_rfl) (by kernel_rfl)
  have h38 := @run_callFunc_extern Tryz.prog 210 _ (ReflectliteType.relation "Implements" ReflectliteType.implements_) Tryz.func210 (by kernel_rfl) (by kernel_rfl) (by kernel_rfl) (by kernel_rfl)
  have h10 := @run_callFunc_extern Tryz.prog 167 _ ReflectliteType.typeOf Tryz.func167 (by kernel_rfl) (by kernel_rfl) (by kernel_rfl) (by kernel_rfl)
  have h35 := @run_callFunc_extern Tryz.prog 207 _ (ReflectliteType.relation "AssignableTo" ReflectliteType.assignableTo) Tryz.func207 (by kernel_rfl) (by kernel_rfl) (by kernel_rfl) (by kernel_rfl)
  have h11 := @run_callFunc_extern Tryz.prog 168 _ (ReflectliteValue.method (ReflectliteValue.valueError "reflectlite.Value.Elem" 0) ReflectliteValue.elem) Tryz.func168 (by kernel_rfl) (by kernel_rfl) (by kernel_rfl) (by kernel_rfl)
  have h12 := @run_callFunc_extern Tryz.prog 169 _ ReflectliteValue.set Tryz.func169 (by kernel_rfl) (by kernel_rfl) (by kernel_rfl) (by kernel_rfl)
  have tO := typeOfE
  have mA := methodAssignableTo
  have aE := assignableE
  have vE := valueOfE
  have f6 := valueOfT
  have f7 := typeT
  have mK := methodKind
  have mE := methodElem
  have mI := methodImplements
  have kT := kindT
  have kE := kindE
  have eT := elemT
  have iE := implementsE
  have hlt : 0 < w.heap.size := block_lt hg
  have htl := block_lt ht0
  have n8 := isNilT ⟨w.heap.size, 0, none⟩ t ((w.alloc (.cells #[.pointer (some t)] 190)).alloc (.cells #[.pointer (some ⟨2, 190, none⟩), .pointer (some ⟨w.heap.size, 0, none⟩), .int .u64 150] 215)) (by simp)
  have hg2 : ((w.alloc (.cells #[.pointer (some t)] 190)).alloc (.cells #[.pointer (some ⟨2, 190, none⟩), .pointer (some ⟨w.heap.size, 0, none⟩), .int .u64 150] 215)).cell? ⟨0, 0, none⟩ = some (.iface 234 (.agg #[.pointer (some ⟨2, 34, none⟩)])) := by
    rw [World.cell?_alloc_lt _ _ _ (by simp <;> omega), World.cell?_alloc_lt _ _ _ hlt]; exact hg
  have el := elemVT ⟨w.heap.size, 0, none⟩ t (((w.alloc (.cells #[.pointer (some t)] 190)).alloc (.cells #[.pointer (some ⟨2, 190, none⟩), .pointer (some ⟨w.heap.size, 0, none⟩), .int .u64 150] 215)).alloc (.cells #[.pointer (some ⟨2, 190, none⟩), .pointer (some ⟨w.heap.size, 0, none⟩), .int .u64 150] 215)) (c3 w _ _ _ _)
  have st := setE t ⟨w.heap.size + 1 + 1 + 1, 0, none⟩ n old ((((w.alloc (.cells #[.pointer (some t)] 190)).alloc (.cells #[.pointer (some ⟨2, 190, none⟩), .pointer (some ⟨w.heap.size, 0, none⟩), .int .u64 150] 215)).alloc (.cells #[.pointer (some ⟨2, 190, none⟩), .pointer (some ⟨w.heap.size, 0, none⟩), .int .u64 150] 215)).alloc (.cells #[.int .i64 n] 28)) (by rw [World.cell?_alloc_at _ _ _ _ (by simp)]; rfl)
    (by rw [World.cell?_alloc_lt _ _ t (by simp <;> omega), World.cell?_alloc_lt _ _ t (by simp <;> omega), World.cell?_alloc_lt _ _ t (by simp <;> omega), World.cell?_alloc_lt _ _ t htl]; exact ht0)
    (by rw [World.frozen?_alloc_old _ _ t (by simp <;> omega), World.frozen?_alloc_old _ _ t (by simp <;> omega), World.frozen?_alloc_old _ _ t (by simp <;> omega), World.frozen?_alloc_old _ _ t (Nat.ne_of_lt htl)]; exact hf0)
  have hA0 : b < w.heap.size := block_lt hA
  have hA2 : (((w.alloc (.cells #[.pointer (some t)] 190)).alloc (.cells #[.pointer (some ⟨2, 190, none⟩), .pointer (some ⟨w.heap.size, 0, none⟩), .int .u64 150] 215)).alloc (.cells #[.pointer (some ⟨2, 190, none⟩), .pointer (some ⟨w.heap.size, 0, none⟩), .int .u64 150] 215)).cell? ⟨b, o, none⟩ = some (.int .i64 n) := by
    rw [World.cell?_alloc_lt _ _ _ (by simp <;> omega), World.cell?_alloc_lt _ _ _ (by simp <;> omega), World.cell?_alloc_lt _ _ _ hA0]; exact hA
  clear hlt htl
  have tA := typeOfA
  have aA := assignableA
  have nAs := noAsA
  have hUn := hasUnwrapA
  have nU := nilAheadA
  have mU := methodUnwrapA
  go_enter Tryz.func125, Tryz.ntmps125
  go_wp2
  refine wp_loop_rounds 2 ?_
  rw [rounds_succ]
  go_wp2
  rw [rounds_succ]
  go_wp2
  go_ret
  exact ⟨rfl, rfl⟩

end Go.Proofs.YtkopjmofdnlplaaGreatDoor.Err
