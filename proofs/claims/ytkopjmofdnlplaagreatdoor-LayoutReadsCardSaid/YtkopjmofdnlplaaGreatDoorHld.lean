/-
  PROVED HERE: regions that draw their order, whose last operation may undo what the loads read. Conditions: as each theorem states.
-/
import Derived.Test.YtkopjmofdnlplaaGreatDoorTac
import Derived.OrdersHeld
namespace Go.Proofs.YtkopjmofdnlplaaGreatDoor.Hld
open Go.RowKit
/-- Operation j waits for i, by others too. -/
def dep (md : Region.Mode) (ops : Array Oper) : Nat → Nat → Nat → Bool
  | 0, _, _ => false
  | f + 1, j, i => match ops[j]? with
    | none => false
    | some o => o.after.any fun e => Region.binds md e && (e.on == i || dep md ops f e.on i)
def closedB (md : Region.Mode) (ops : Array Oper) (li : Array Bool) : Bool := (List.range ops.size).all fun j => !li.getD j false || match ops[j]? with
  | some o => o.after.all fun e => !Region.binds md e || li.getD e.on false
  | none => true
section
variable {P : Program} {ops : Array Oper} {Q : Exit → Act → World → Prop} {md : Region.Mode} {S : World → Prop} {z : Nat}
def Closed (md : Region.Mode) (ops : Array Oper) (li : Array Bool) : Prop := ∀ j o, ops[j]? = some o → li.getD j false = true → ∀ e ∈ o.after, Region.binds md e = true → li.getD e.on false = true
theorem closed_of {li : Array Bool} (h : closedB md ops li = true) : Closed md ops li := by
  intro j o ho hj e he hb
  unfold closedB at h
  rw [List.all_eq_true] at h
  have h1 := h j (List.mem_range.2 (Array.getElem?_eq_some_iff.1 ho).1)
  rw [hj, ho] at h1
  simp only [Bool.not_true, Bool.false_or] at h1
  have h2 := Array.all_eq_true_iff_forall_mem.1 h1 e he
  rw [hb] at h2
  simpa using h2
theorem Closed.set {li : Array Bool} {j : Nat} (h : Closed md ops li) (hj : j ∈ Region.ready md ops li) : Closed md ops (li.setIfInBounds j true) := by
  intro k o ho hk e he hb
  refine getD_set_true ?_
  by_cases e2 : k = j
  · subst e2
    obtain ⟨_, o', ho', hall⟩ := mem_ready.1 hj
    rw [ho] at ho'
    injection ho' with ho'
    subst ho'
    exact hall e he hb
  · refine h k o ho ?_ e he hb
    rwa [getD_set_ne false (Ne.symm e2)] at hk
theorem dep_listed {li : Array Bool} {i : Nat} (h : Closed md ops li) : ∀ (f j : Nat), dep md ops f j i = true → (∀ o, ops[j]? = some o → ∀ e ∈ o.after, Region.binds md e = true → li.getD e.on false = true) → li.getD i false = true := by
  intro f
  induction f with
  | zero => intro j hd; cases hd
  | succ f ih =>
    intro j hd hj
    unfold dep at hd
    cases ho : ops[j]? with
    | none => rw [ho] at hd; cases hd
    | some o =>
      rw [ho] at hd
      obtain ⟨e, he, h1⟩ := Array.any_eq_true'.1 hd
      simp only [Bool.and_eq_true, Bool.or_eq_true, beq_iff_eq] at h1
      have h2 := hj o ho e he h1.1
      rcases h1.2 with h3 | h3
      · rw [← h3]; exact h2
      · exact ih e.on h3 fun o' ho' e' he' hb' => h e.on o' ho' h2 e' he' hb'
theorem not_last {li : Array Bool} {i f : Nat} (h : Closed md ops li) (hd : dep md ops f z i = true) (hi : i ∈ Region.ready md ops li) : z ∉ Region.ready md ops li := by
  intro hz
  obtain ⟨_, o, ho, hall⟩ := mem_ready.1 hz
  have h1 := dep_listed h f z hd (fun o' ho' e he hb => by rw [ho] at ho'; injection ho' with ho'; subst ho'; exact hall e he hb)
  have h0 := (mem_ready.1 hi).1
  rcases Nat.lt_or_ge i li.size with h' | h'
  · simp [h'] at h0 h1; rw [h0] at h1; cases h1
  · simp [Array.getElem?_eq_none h'] at h1
/-- Whatever order is picked: S holds behind each operation but z. -/
def Run (P : Program) (md : Region.Mode) (ops : Array Oper) (Q : Exit → Act → World → Prop) (S : World → Prop) (z : Nat) : Nat → Array Bool → Act → World → Prop
  | 0, li, a, w => Region.ready md ops li = [] ∧ Q .normal a w
  | f + 1, li, a, w => (Region.ready md ops li = [] → Q .normal a w) ∧ ∀ j ∈ Region.ready md ops li, wpOp P ops Q j (fun b v => (j ≠ z → S v) ∧ Run P md ops Q S z f (li.setIfInBounds j true) b v) a w
theorem Run.any : ∀ (f : Nat) (li : Array Bool) (a : Act) (w : World), Run P md ops Q S z f li a w → wpAny P md ops Q f li a w
  | 0, _, _, _, h => h
  | f + 1, _, _, _, h => ⟨h.1, fun j hj => wpOp_mono (fun b v g => Run.any f _ b v g.2) (h.2 j hj)⟩
theorem ready_after {i j : Nat} {li : Array Bool} {oj : Oper} (hi : i ∈ Region.ready md ops li) (hoj : ops[j]? = some oj) (hj : j ∈ Region.ready md ops li) : ∀ e ∈ oj.after, Region.binds md e = true → e.on ≠ i := by
  obtain ⟨hjun, oj', hoj', hall⟩ := mem_ready.1 hj
  rw [hoj] at hoj'
  injection hoj' with hoj'
  subst hoj'
  intro e he hb heq
  have h1 := hall e he hb
  have h0 := (mem_ready.1 hi).1
  rw [heq] at h1
  rcases Nat.lt_or_ge i li.size with h' | h'
  · simp [h'] at h0 h1; rw [h0] at h1; cases h1
  · simp [Array.getElem?_eq_none h'] at h1
/-- An operation that yields the same wherever S holds, and for which z waits, may be taken first. -/
theorem Run.first {i d : Nat} {oi : Oper} {v : Value} (hi : ops[i]? = some oi) (hsel : ∀ (j : Nat) (o : Oper) cs b, ops[j]? = some o → o.op ≠ .select cs b) (hQ : ∀ c a w, Q (.panic c) (a.put oi.dst v) w → Q (.panic c) a w) (hd : dep md ops d z i = true) :
    ∀ (f : Nat) (li : Array Bool) (a : Act) (w : World), (∀ j oj, ops[j]? = some oj → j ≠ i → li.getD j true = false → (∀ e ∈ oj.after, Region.binds md e = true → e.on ≠ i) → oi.apart ops oj = true) →
      i ∈ Region.ready md ops li → i ≠ z → Closed md ops li → YieldsIf P ops S oi v a → S w → Run P md ops Q S z f (li.setIfInBounds i true) (a.put oi.dst v) w → Run P md ops Q S z (f + 1) li a w := by
  intro f
  induction f with
  | zero =>
    intro li a w _ hr _ _ hy hS H
    refine ⟨fun h => (by rw [h] at hr; cases hr), fun j hj => ?_⟩
    by_cases e : j = i
    · subst e; exact hy.wpOp hi hS ⟨fun _ => hS, H⟩
    · have := ready_mono hj e
      rw [H.1] at this
      cases this
  | succ f ih =>
    intro li a w hfree hr hz hcl hy hS H
    refine ⟨fun h => (by rw [h] at hr; cases hr), fun j hj => ?_⟩
    by_cases e : j = i
    · subst e; exact hy.wpOp hi hS ⟨fun _ => hS, H⟩
    · have h1 := H.2 j (ready_mono hj e)
      obtain ⟨hjun, oj, hoj, _⟩ := mem_ready.1 hj
      have hjz : j ≠ z := fun e2 => by subst e2; exact not_last hcl hd hr hj
      have h2 := wpOp_putIf hoj (hfree j oj hoj e hjun (ready_after hr hoj hj)) (fun cs b => hsel i oi cs b hi) (fun cs b => hsel j oj cs b hoj) hQ hy h1
      refine wpOp_mono (fun b x h3 => ⟨h3.2.1, ih (li.setIfInBounds j true) b x (fun k ok hk hki hun hno => ?_) (ready_mono hr (Ne.symm e)) hz (hcl.set hj) h3.1 (h3.2.1 hjz) ?_⟩) h2
      · refine hfree k ok hk hki ?_ hno
        by_cases hjk : j = k
        · subst hjk; exact hjun
        · rw [getD_set_ne true hjk] at hun; exact hun
      · rw [Array.setIfInBounds_comm _ _ e]
        exact h3.2.2
theorem Run.take {i d f : Nat} {oi : Oper} {v : Value} {li : Array Bool} {a : Act} {w : World} (hi : ops[i]? = some oi) (hs : Region.noSelect ops = true) (hf : Region.free md ops li i = true) (hr : (Region.ready md ops li).contains i = true) (hz : (i != z) = true) (hcl : closedB md ops li = true) (hd : dep md ops d z i = true)
    (hQ : ∀ c a w, Q (.panic c) (a.put oi.dst v) w → Q (.panic c) a w) (hy : YieldsIf P ops S oi v a) (hS : S w) (h : Run P md ops Q S z f (li.setIfInBounds i true) (a.put oi.dst v) w) : Run P md ops Q S z (f + 1) li a w :=
  Run.first hi (Region.noSelect_spec hs) hQ hd f li a w (Region.free_spec hi hf) (by simpa using hr) (by simpa using hz) (closed_of hcl) hy hS h
theorem Run.one {i f : Nat} {o : Oper} {li : Array Bool} {a : Act} {w : World} (hr : Region.ready md ops li = [i]) (ho : ops[i]? = some o)
    (h : ∀ K' : Act → World → Prop, (∀ a w, ((i ≠ z → S w) ∧ Run P md ops Q S z f (li.setIfInBounds i true) a w) → K' a w) → if Region.wanted o (yielded ops a.tmps) = true then Oper.wp P o a w K' Q else K' (a.put o.dst undef) w) : Run P md ops Q S z (f + 1) li a w := by
  refine ⟨fun h0 => (by rw [hr] at h0; cases h0), fun j hj => ?_⟩
  rw [hr] at hj
  obtain rfl : j = i := by simpa using hj
  exact wpOp_step ho h
theorem Run.done {li : Array Bool} {a : Act} {w : World} (hr : Region.ready md ops li = []) (h : Q .normal a w) : ∀ f, Run P md ops Q S z f li a w
  | 0 => ⟨hr, h⟩
  | _ + 1 => ⟨fun _ => h, by rw [hr]; simp⟩
theorem run_region {id : Nat} {a : Act} {w : World} (S : World → Prop) (z : Nat) (hm : P.follows .mixedOrders = true) (h : Run P .any ops Q S z ops.size (Array.replicate ops.size false) a w.drew) : (Code.region id ops true).wp P Q a w :=
  wp_region_any hm (Run.any _ _ _ _ h)
end
end Go.Proofs.YtkopjmofdnlplaaGreatDoor.Hld
