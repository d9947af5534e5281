/-
  PROVED HERE: append of one state in a region that draws its order, and the contract of undo's Add. Conditions: as each theorem states.
-/
import Derived.Test.YtijcehimdhbceaaDoorUnH
namespace Go.Proofs.YtijcehimdhbceaaDoor.Un
open Go.RowKit
theorem infoSt : (Tryd.prog.info? 65).map (fun i => (i.zero, i.size, i.bytes)) = some (some (.agg #[.int .i64 0, .int .i64 0, .int .i64 0]), 3, 24) := by kernel_rfl
/-- append of one state, at a step of a region that draws its order. -/
theorem ownS_append_step {w : World} {ops : Array Oper} {o : Oper} {a : Act} {K : Act → World → Prop} {Q : Exit → Act → World → Prop} {F : Prop} (hgd : o.guard = none) (s x : Operand)
    (ho : o.op = .call { callee := .builtin .append, args := #[s, x], argTypes := #[66, 66] })
    (v : Value) (l : List St) (hs : a.eval s = v) (hown : OwnS w v l)
    (g c : Nat) (e : St) (hx : a.eval x = .slice (some ⟨g, 0, none⟩) 1 c) (hnew : w.heap[g]? = some (.cells #[.int .i64 e.what, .int .i64 e.up, .int .i64 e.down] 65 (0, 0)))
    (hlen : l.length + 1 ≤ 1000000)
    (h : ∀ v' w', OwnS w' v' (l ++ [e]) → w.grownBy w' v.ownBlock → (v'.ownBlock = v.ownBlock ∨ v'.ownBlock = some w.heap.size) → K (a.put o.dst v') w') :
    if Region.wanted o (yielded ops a.tmps) = true then Oper.wp Tryd.prog o a w K Q else F := by
  have hw : Region.wanted o (yielded ops a.tmps) = true := by simp [Region.wanted, hgd]
  rw [if_pos hw]
  obtain ⟨i, hi, hz0, hz1, hz2⟩ := info_parts infoSt
  have hnews : ∀ j u, e.cells[j]? = some u → w.cell? ((⟨g, 0, none⟩ : Addr).add j) = some u := by
    intro j u hu
    rw [Addr.add_mid, Nat.zero_add]
    have e1 : w.cell? ⟨g, j, none⟩ = (#[Value.int .i64 e.what, .int .i64 e.up, .int .i64 e.down] : Array Value)[j]? := by simp [World.cell?, hnew]
    rw [e1]
    simpa [St.cells] using hu
  obtain ⟨v', w', hr, h2, h3, _, h5⟩ := run_append_own_at (P := Tryd.prog) w 0 66 o.type 65 i _ 3 24 Tryd.underlying66 hi hz0 hz1 hz2 rfl (by decide) v l.length (stCells l) hown ⟨g, 0, none⟩ 1 c e.cells rfl hnews (by simp [St.cells, Value.oneCell']) (by unfold maxLen; omega) (by omega) (Nat.zero_le _)
  unfold Oper.wp execOp
  simp only [ho, resolve, invoke, builtin, Sem.run_bind, Sem.run_pure, Result.andThen_ok, List.map_toArray, List.map_cons, List.map_nil, hs, hx, hr]
  refine h v' w' ?_ h3 h5
  unfold OwnS
  rw [List.length_append, ← stCells_snoc]
  exact h2
end Go.Proofs.YtijcehimdhbceaaDoor.Un
