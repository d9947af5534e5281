/-
  PROVED HERE: the contract of the program's Check. Conditions: as each theorem states.
-/
import Derived.Test.YtpnjlmpamincoaaDoorTfG
import Derived.Defers
import Derived.Recover
namespace Go.Proofs.YtpnjlmpamincoaaDoor.Tm
open Go.RowKit Go.Proofs.YtpnjlmpamincoaaDoor.Lex Go.Proofs.YtpnjlmpamincoaaDoor.Dig
set_option maxRecDepth 100000 in
theorem catch_thrown (p : Addr) (x : Value) (b : Nat) (w : World) (hc : w.cell? p = some x) (hz : w.frozen? p = false) :
    CallsD Tryd.prog 20 #[.pointer (some p)] (.panicking [{ v := .iface 53 (.agg #[.iface 73 (.pointer (some ⟨b, 0, none⟩))]), recovered := false }]) w fun e u' w' =>
      e = .returned (.tuple #[]) ∧ u' = .panicking [{ v := .iface 53 (.agg #[.iface 73 (.pointer (some ⟨b, 0, none⟩))]), recovered := true }] ∧ w' = (w.alloc (.cells #[.iface 73 (.pointer (some ⟨b, 0, none⟩))] 53)).setCell p (.iface 73 (.pointer (some ⟨b, 0, none⟩))) := by
  have hp : p.block < w.heap.size := World.block_lt_of_cell? w p hc
  have hta : ∀ (v : Value) (w : World), (Instr.typeAssert (.iface 53 v) 20 53 true).run Tryd.prog w = .ok (.tuple #[v, .bool true]) w := fun _ _ => rfl
  refine callsD_of_wpS Tryd.func20 rfl fun c₀ cs hu => ?_
  apply wpS_seq
  apply wpS_region
  simp [wpOpsS, go_sem, recoverD, hu, Tryd.ntmps20, Exit.thenS]
  apply wpS_seq
  apply wpS_region
  simp [wpOpsS, go_sem, Exit.thenS]
  refine wpS_cond (t := true) (by simp [Act.eval, Array.replicate]) ?_
  simp only [if_true]
  apply wpS_seq
  apply wpS_region
  simp [wpOpsS, go_sem, Exit.thenS, Array.replicate, hta]
  apply wpS_seq
  apply wpS_seq
  apply wpS_region
  simp [wpOpsS, go_sem, Exit.thenS]
  refine wpS_cond (t := false) (by simp [Act.eval]) ?_
  simp only [Bool.false_eq_true, if_false]
  refine wpS_of_wp (wp_skip ?_)
  simp only [Exit.thenS]
  apply wpS_region
  have hc' := (World.cell?_alloc_lt w (.cells #[.iface 73 (.pointer (some ⟨b, 0, none⟩))] 53) p hp).trans hc
  have hz' : (w.alloc (.cells #[.iface 73 (.pointer (some ⟨b, 0, none⟩))] 53)).frozen? p = false := (World.frozen?_alloc_old w _ p (Nat.ne_of_lt hp)).trans hz
  simp [wpOpsS, go_sem, hc', hz', bodyPostS, results, Tryd.results20]
set_option maxRecDepth 100000 in
theorem catch_idle (p : Addr) (w : World) :
    CallsD Tryd.prog 20 #[.pointer (some p)] .returning w fun e u' w' => e = .returned (.tuple #[]) ∧ u' = .returning ∧ w' = w := by
  refine callsD_of_wpS Tryd.func20 rfl fun c₀ cs hu => ?_
  apply wpS_seq
  apply wpS_region
  simp [wpOpsS, go_sem, recoverD, hu, Tryd.ntmps20, Exit.thenS]
  apply wpS_seq
  apply wpS_region
  simp [wpOpsS, go_sem, Exit.thenS]
  refine wpS_cond (t := false) (by simp [Act.eval, Array.replicate]) ?_
  simp only [Bool.false_eq_true, if_false]
  refine wpS_of_wp (wp_skip ?_)
  cases c₀
  simp_all [bodyPostS, results, Tryd.results20]
end Go.Proofs.YtpnjlmpamincoaaDoor.Tm
