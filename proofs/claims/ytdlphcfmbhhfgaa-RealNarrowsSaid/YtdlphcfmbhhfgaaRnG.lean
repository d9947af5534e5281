/-
  PROVED HERE: the contract of the document's realUnits. Conditions: as each theorem states.
-/
import Derived.Test.YtdlphcfmbhhfgaaRnF
namespace Go.Proofs.Ytdlphcfmbhhfgaa.Rn
open Go.RowKit Real
attribute [local go_sem ↓] Go.wp_at_zero Go.wp_at_succ
/-- 34 words by a function. -/
def fn (f : Nat → Nat) : List Value := (List.range 34).map fun j => .int .u64 ((f j : Nat) : Int)
theorem fn_get (f : Nat → Nat) (j : Nat) (h : j < 34) : (fn f)[j]? = some (.int .u64 ((f j : Nat) : Int)) := by simp [fn, h]
theorem fn_len (f : Nat → Nat) : (fn f).length = 34 := by simp [fn]
theorem fn_arr (f : Nat → Nat) (n : Nat) (h : ∀ j, j < 34 → f j = wo n j) : fn f = arr n := by
  unfold fn arr
  apply List.map_congr_left
  intro j hj
  rw [h j (List.mem_range.1 hj)]
theorem fn_set {w : World} {g k x : Nat} {f : Nat → Nat} (h : w.rangeAt g 0 (fn f)) (v : Value) (hv : v = .int .u64 ((x : Nat) : Int)) : (w.setCell ⟨g, k, none⟩ v).rangeAt g 0 (fn fun j => if j = k then x else f j) := fun j u hu => by
  have hj : j < 34 := by have := (List.getElem?_eq_some_iff.1 hu).1; rwa [fn_len] at this
  rw [fn_get _ _ hj] at hu
  rw [Nat.zero_add]
  have h0 := h j _ (fn_get f j hj)
  rw [Nat.zero_add] at h0
  by_cases e : j = k
  · subst e
    rw [World.cell?_setCell_same _ _ _ h0, hv, ← hu, if_pos rfl]
  · rw [World.cell?_setCell_other _ _ _ _ (by intro e2; injection e2 with _ e3; exact e e3.symm), h0, ← hu, if_neg e]
def zeros : Array Value := #[Value.int .u64 0, Value.int .u64 0, Value.int .u64 0, Value.int .u64 0, Value.int .u64 0, Value.int .u64 0, Value.int .u64 0, Value.int .u64 0, Value.int .u64 0, Value.int .u64 0, Value.int .u64 0, Value.int .u64 0, Value.int .u64 0, Value.int .u64 0, Value.int .u64 0, Value.int .u64 0, Value.int .u64 0, Value.int .u64 0, Value.int .u64 0, Value.int .u64 0, Value.int .u64 0, Value.int .u64 0, Value.int .u64 0, Value.int .u64 0, Value.int .u64 0, Value.int .u64 0, Value.int .u64 0, Value.int .u64 0, Value.int .u64 0, Value.int .u64 0, Value.int .u64 0, Value.int .u64 0, Value.int .u64 0, Value.int .u64 0]
theorem zeros_fn : zeros.toList = fn fun _ => 0 := rfl
theorem zeros_size : zeros.size = 34 := rfl
theorem u64_shl (m s : Nat) : Value.int .u64 (IntKind.u64.wrap ((m : Int) * 2 ^ s)) = .int .u64 ((m * 2 ^ s % B64 : Nat) : Int) := by
  refine congrArg (Value.int .u64) ?_
  have e : ∀ x : Int, IntKind.u64.wrap x = x % 18446744073709551616 := fun x => by simp [IntKind.wrap, IntKind.bits, IntKind.signed]
  have e2 : (m : Int) * 2 ^ s = ((m * 2 ^ s : Nat) : Int) := by rw [Int.natCast_mul, Int.natCast_pow]; rfl
  rw [e, e2]
  first | rfl | done
theorem u64_shr (m s : Nat) : Value.int .u64 ((m : Int) / 2 ^ s) = .int .u64 ((m / 2 ^ s : Nat) : Int) := by
  refine congrArg (Value.int .u64) ?_
  rw [Int.natCast_ediv, Int.natCast_pow]
  first | rfl | done
theorem shl_top (m s : Nat) (hs : s ≤ 64) : m * 2 ^ s / B64 = m / 2 ^ (64 - s) := by
  have e : B64 = 2 ^ (64 - s) * 2 ^ s := by rw [b64_pow, ← Nat.pow_add]; congr 1; omega
  rw [e, Nat.mul_comm (2 ^ (64 - s)), Nat.mul_comm m, Nat.mul_div_mul_left _ _ (Nat.two_pow_pos _)]
theorem run_alloc_units (w : World) : (Instr.alloc 42 true (.tuple #[])).run Try.prog w = .ok (.pointer (some ⟨w.heap.size, 0, none⟩)) (w.alloc (.cells zeros 42)) := by kernel_rfl
/-- 'var u units': a new block of 34 noughts; the world behind it is a letter. -/
theorem wpList_alloc_units {ops : Array Oper} {rest : List Oper} {op : Oper} {a : Act} {w : World} {Q : Exit → Act → World → Prop} (hgd : op.guard = none) (ho : op.op = .alloc 42) (g : Nat) (hg : w.heap.size = g)
    (h : ∀ w', w'.rangeAt g 0 (fn fun _ => 0) → w'.there g 0 34 → Below g w w' → w'.heap.size = g + 1 → wpList Try.prog ops Q rest (a.put op.dst (.pointer (some ⟨g, 0, none⟩))) w') : wpList Try.prog ops Q (op :: rest) a w := by
  refine wpList_plain hgd fun K hK => ?_
  subst hg
  have h0 := new_range w zeros 42
  rw [zeros_fn, zeros_size] at h0
  unfold Oper.wp execOp
  simp only [ho, Sem.run_bind, run_alloc_units, Result.andThen_ok, Sem.run_pure]
  exact hK _ _ (h _ h0.1 h0.2 ((Below.refl _ _).alloc (Nat.le_refl _) _) (by rw [World.size_alloc]))
/-- What is owed at a load of an array, and at a store of one: asked where the operation is one. -/
def LoadAt (P : Program) (ops : Array Oper) (rest : List Oper) (op : Oper) (a : Act) (w : World) (Q : Exit → Act → World → Prop) (ty : TypeId) (x : Operand) : Prop :=
  ∃ (b o : Nat) (cs : List Value) (d : TypeDesc), a.eval x = .pointer (some ⟨b, o, none⟩) ∧ w.rangeAt b o cs ∧ P.underlying ty = some d ∧ d.isRow = true ∧ (P.info? ty).map (·.size) = some cs.length ∧ wpList P ops Q rest (a.put op.dst (.agg cs.toArray)) w
theorem wpList_load_stage {P : Program} {ops : Array Oper} {rest : List Oper} {op : Oper} {a : Act} {w : World} {Q : Exit → Act → World → Prop} (hgd : op.guard = none) (ty : TypeId) (x : Operand) (ho : op.op = .load ty x) (h : LoadAt P ops rest op a w Q ty x) : wpList P ops Q (op :: rest) a w := by
  obtain ⟨b, o, cs, d, h1, h2, h3, h4, h5, h6⟩ := h
  exact wpList_load_mid hgd ty x ho b o h1 cs d h2 h3 h4 h5 h6
def StoreAt (P : Program) (ops : Array Oper) (rest : List Oper) (op : Oper) (a : Act) (w : World) (Q : Exit → Act → World → Prop) (ty : TypeId) (x y : Operand) : Prop :=
  ∃ (b o : Nat) (cells : Array Value), a.eval x = .pointer (some ⟨b, o, none⟩) ∧ a.eval y = .agg cells ∧ w.there b o cells.size ∧ (P.info? ty).map (·.size) = some cells.size ∧ cells.all (·.oneCell') = true ∧ wpList P ops Q rest (a.put op.dst undef) (w.setCells b o cells.toList)
theorem wpList_store_stage {P : Program} {ops : Array Oper} {rest : List Oper} {op : Oper} {a : Act} {w : World} {Q : Exit → Act → World → Prop} (hgd : op.guard = none) (ty : TypeId) (x y : Operand) (ho : op.op = .store ty x y) (h : StoreAt P ops rest op a w Q ty x y) : wpList P ops Q (op :: rest) a w := by
  obtain ⟨b, o, cells, h1, h2, h3, h4, h5, h6⟩ := h
  exact wpList_store_mid hgd ty x y ho b o cells h1 h2 h3 h4 h5 h6
theorem one_set (X : World) (g m e : Nat) (h0 : X.rangeAt g 0 (fn fun _ => 0)) (hm : m < 2 ^ 53) (hs : e % 64 = 0) : (X.setCell ⟨g, e / 64, none⟩ (.int .u64 (IntKind.u64.wrap ((m : Int) * 2 ^ (e % 64))))).rangeAt g 0 (arr (m * 2 ^ e)) := by
  have h1 := fn_set (k := e / 64) h0 _ (u64_shl m (e % 64))
  rw [fn_arr _ (m * 2 ^ e)] at h1
  · exact h1
  · intro j hj
    rw [wo_shift m e j hm]
    by_cases c : j = e / 64
    · rw [if_pos c, if_pos c]
    · rw [if_neg c, if_neg c]
      by_cases d : j = e / 64 + 1
      · rw [if_pos d, hs, Nat.pow_zero, Nat.mul_one]
        have hB : B64 = 18446744073709551616 := rfl
        exact (Nat.div_eq_of_lt (by rw [hB]; omega)).symm
      · rw [if_neg d]
theorem two_set (X : World) (g m e : Nat) (h0 : X.rangeAt g 0 (fn fun _ => 0)) (hm : m < 2 ^ 53) : ((X.setCell ⟨g, e / 64, none⟩ (.int .u64 (IntKind.u64.wrap ((m : Int) * 2 ^ (e % 64))))).setCell ⟨g, e / 64 + 1, none⟩ (.int .u64 ((m : Int) / 2 ^ (64 - e % 64)))).rangeAt g 0 (arr (m * 2 ^ e)) := by
  have h1 := fn_set (k := e / 64) h0 _ (u64_shl m (e % 64))
  have h2 := fn_set (k := e / 64 + 1) h1 _ (u64_shr m (64 - e % 64))
  rw [fn_arr _ (m * 2 ^ e)] at h2
  · exact h2
  · intro j hj
    rw [wo_shift m e j hm]
    have hs : e % 64 < 64 := Nat.mod_lt _ (by decide)
    by_cases c : j = e / 64
    · rw [if_neg (by omega), if_pos c, if_pos c]
    · rw [if_neg c, if_neg c]
      by_cases d : j = e / 64 + 1
      · rw [if_pos d, if_pos d, shl_top m (e % 64) (by omega)]
      · rw [if_neg d, if_neg d]
end Go.Proofs.Ytdlphcfmbhhfgaa.Rn
