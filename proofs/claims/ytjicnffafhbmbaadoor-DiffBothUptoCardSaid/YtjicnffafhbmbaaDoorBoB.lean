/-
  PROVED HERE: what the edits between two texts add up to. Conditions: as each theorem states.
-/
import Derived.Test.YtjicnffafhbmbaaDoorBoA
namespace Go.Proofs.YtjicnffafhbmbaaDoor.Bo
open Go.RowKit Go.Proofs.YtjicnffafhbmbaaDoor.My

def edits (a b : ByteArray) : List Ed := (steps a b 0 0).foldl addE []
theorem addE_ok {l : List Ed} {e : Ed} (hl : ∀ x ∈ l, EdOk x) (he : EdOk e) : (∀ x ∈ addE l e, EdOk x) ∧ sumN (addE l e) = sumN l + e.n.toNat ∧ sumT (addE l e) = sumT l + e.text.size := by
  rcases List.eq_nil_or_concat l with e0 | ⟨d, q, e0⟩
  · subst e0
    refine ⟨fun x hx => ?_, ?_, ?_⟩
    · rw [show addE [] e = [e] from rfl, List.mem_singleton] at hx; subst hx; exact he
    · simp [addE, sumN]
    · simp [addE, sumT]
  · rw [List.concat_eq_append] at e0
    subst e0
    have hq := hl q (by simp)
    by_cases hw : q.what = e.what
    · have e1 : addE (d ++ [q]) e = d ++ [⟨q.what, q.n + e.n, q.text ++ e.text⟩] := by simp [addE, hw]
      rw [e1]
      refine ⟨fun x hx => ?_, ?_, ?_⟩
      · rcases List.mem_append.1 hx with hx | hx
        · exact hl x (List.mem_append_left _ hx)
        · rw [List.mem_singleton] at hx; subst hx
          exact ⟨by have := hq.1; have := he.1; show 0 ≤ q.n + e.n; omega, fun h => by have := hq.2 h; have := he.1; show 1 ≤ q.n + e.n; omega⟩
      · have := hq.1; have := he.1
        simp [sumN]
        omega
      · simp [sumT, ByteArray.size_append]
        omega
    · have e1 : addE (d ++ [q]) e = (d ++ [q]) ++ [e] := by simp [addE, hw]
      rw [e1]
      refine ⟨fun x hx => ?_, ?_, ?_⟩
      · rcases List.mem_append.1 hx with hx | hx
        · exact hl x hx
        · rw [List.mem_singleton] at hx; subst hx; exact he
      · simp [sumN]; omega
      · simp [sumT]; omega
theorem foldE_ok (l : List Ed) : ∀ acc : List Ed, (∀ x ∈ acc, EdOk x) → (∀ x ∈ l, EdOk x) → (∀ x ∈ l.foldl addE acc, EdOk x) ∧ sumN (l.foldl addE acc) = sumN acc + sumN l ∧ sumT (l.foldl addE acc) = sumT acc + sumT l := by
  induction l with
  | nil => intro acc h _; exact ⟨h, by simp [sumN], by simp [sumT]⟩
  | cons e r ih =>
    intro acc h hl
    obtain ⟨h1, h2, h3⟩ := addE_ok h (hl e (by simp))
    obtain ⟨k1, k2, k3⟩ := ih (addE acc e) h1 (fun x hx => hl x (List.mem_cons_of_mem _ hx))
    refine ⟨k1, ?_, ?_⟩
    · rw [List.foldl_cons, k2, h2]; simp [sumN]; omega
    · rw [List.foldl_cons, k3, h3]; simp [sumT]; omega
theorem steps_sum {a b : ByteArray} (s : Nat) : ∀ i j, i ≤ a.size → j ≤ b.size → (a.size - i) + (b.size - j) ≤ s → (∀ e ∈ steps a b i j, EdOk e) ∧ sumN (steps a b i j) = a.size - i ∧ sumT (steps a b i j) ≤ b.size - j := by
  induction s with
  | zero => intro i j hi hj h; rw [steps_end (by omega)]; exact ⟨fun e he => by simp at he, by simp [sumN]; omega, by simp [sumT]⟩
  | succ s ih =>
    intro i j hi hj h
    by_cases hl : i < a.size ∨ j < b.size
    · by_cases h1 : sames a b i j
      · obtain ⟨k1, k2, k3⟩ := ih (i + 1) (j + 1) h1.1 h1.2.1 (by have := h1.1; have := h1.2.1; omega)
        have := h1.1
        rw [steps_same h1]
        refine ⟨fun e he => ?_, ?_, ?_⟩
        · rcases List.mem_cons.1 he with rfl | he
          · exact ⟨(by decide : (0 : Int) ≤ 1), fun _ => (by decide : (1 : Int) ≤ 1)⟩
          · exact k1 e he
        · have : sumN (⟨1, 1, ⟨#[]⟩⟩ :: steps a b (i + 1) (j + 1)) = 1 + sumN (steps a b (i + 1) (j + 1)) := by simp [sumN]
          omega
        · have : sumT (⟨1, 1, ⟨#[]⟩⟩ :: steps a b (i + 1) (j + 1)) = sumT (steps a b (i + 1) (j + 1)) := by simp [sumT]; rfl
          omega
      · by_cases h2 : outs a b i j
        · obtain ⟨k1, k2, k3⟩ := ih (i + 1) j h2.1 hj (by have := h2.1; omega)
          have := h2.1
          rw [steps_out h1 h2]
          refine ⟨fun e he => ?_, ?_, ?_⟩
          · rcases List.mem_cons.1 he with rfl | he
            · exact ⟨(by decide : (0 : Int) ≤ 1), fun h => absurd h (by decide)⟩
            · exact k1 e he
          · have : sumN (⟨2, 1, ⟨#[]⟩⟩ :: steps a b (i + 1) j) = 1 + sumN (steps a b (i + 1) j) := by simp [sumN]
            omega
          · have : sumT (⟨2, 1, ⟨#[]⟩⟩ :: steps a b (i + 1) j) = sumT (steps a b (i + 1) j) := by simp [sumT]; rfl
            omega
        · have hj2 : j < b.size := by
            by_cases e : j = b.size
            · exact absurd ⟨by omega, .inl e⟩ h2
            · omega
          obtain ⟨k1, k2, k3⟩ := ih i (j + 1) hi hj2 (by omega)
          rw [steps_in h1 h2 hj2]
          refine ⟨fun e he => ?_, ?_, ?_⟩
          · rcases List.mem_cons.1 he with rfl | he
            · exact ⟨Int.le_refl 0, fun h => absurd h (show ¬ (3 : Int) = 1 by decide)⟩
            · exact k1 e he
          · have : sumN (⟨3, 0, b.extract j (j + 1)⟩ :: steps a b i (j + 1)) = sumN (steps a b i (j + 1)) := by simp [sumN]
            omega
          · have : sumT (⟨3, 0, b.extract j (j + 1)⟩ :: steps a b i (j + 1)) = (b.extract j (j + 1)).size + sumT (steps a b i (j + 1)) := by simp [sumT]
            have e1 : (b.extract j (j + 1)).size = 1 := by rw [ByteArray.size_extract]; omega
            omega
    · rw [steps_end hl]; exact ⟨fun e he => by simp at he, by simp [sumN]; omega, by simp [sumT]⟩
theorem fold_len (l : List Ed) : ∀ acc : List Ed, (l.foldl addE acc).length ≤ acc.length + l.length := by
  induction l with
  | nil => intro acc; exact Nat.le_refl _
  | cons e r ih =>
    intro acc
    rw [List.foldl_cons, List.length_cons]
    have := ih (addE acc e)
    have := addE_len acc e
    omega
theorem edits_ok (a b : ByteArray) : (∀ e ∈ edits a b, EdOk e) ∧ sumN (edits a b) = a.size ∧ sumT (edits a b) ≤ b.size ∧ (edits a b).length ≤ a.size + b.size := by
  obtain ⟨h1, h2, h3⟩ := steps_sum (a := a) (b := b) _ 0 0 (Nat.zero_le _) (Nat.zero_le _) (Nat.le_refl _)
  obtain ⟨k1, k2, k3⟩ := foldE_ok (steps a b 0 0) [] (fun x hx => by simp at hx) h1
  refine ⟨k1, ?_, ?_, ?_⟩
  · rw [edits, k2, h2]; simp [sumN]
  · rw [edits, k3]; simp [sumT] at h3 ⊢; exact h3
  · have := fold_len (steps a b 0 0) []
    have := steps_len (a := a) (b := b) (a.size + b.size) 0 0 (Nat.zero_le _) (Nat.zero_le _) (by omega)
    rw [edits]
    simp at *; omega
/-- The changes that make b of a. -/
def changes (a b : ByteArray) : List Ch := chg (edits a b)
theorem changes_ok (a b : ByteArray) : Sep a.size (changes a b) ∧ ∀ c ∈ changes a b, c.text.size ≤ b.size := by
  obtain ⟨h1, h2, h3, _⟩ := edits_ok a b
  obtain ⟨k1, k2⟩ := chg_ok (edits a b) h1
  rw [h2] at k1
  exact ⟨k1, fun c hc => Nat.le_trans (k2 c hc) h3⟩
theorem lastTo_len (l : List Ch) (t : ByteArray) (k : Nat) : (lastTo l t k).length ≤ l.length := by
  rcases List.eq_nil_or_concat l with rfl | ⟨d, c, rfl⟩
  · exact Nat.le_refl _
  · rw [List.concat_eq_append, lastTo_snoc]; simp
theorem chgStep_len (s : St) (e : Ed) : (chgStep s e).out.length ≤ s.out.length + 1 := by
  unfold chgStep; split
  · exact Nat.le_succ _
  · refine Nat.le_trans (lastTo_len _ _ _) ?_
    unfold opened; split <;> simp
theorem chg_len (l : List Ed) : ∀ s : St, (l.foldl chgStep s).out.length ≤ s.out.length + l.length := by
  induction l with
  | nil => intro s; exact Nat.le_refl _
  | cons e r ih =>
    intro s
    rw [List.foldl_cons, List.length_cons]
    have := ih (chgStep s e)
    have := chgStep_len s e
    omega
theorem changes_len (a b : ByteArray) : (changes a b).length ≤ a.size + b.size := by
  have := chg_len (edits a b) ⟨[], 0, true⟩
  have := (edits_ok a b).2.2.2
  unfold changes chg
  simp at *; omega
end Go.Proofs.YtjicnffafhbmbaaDoor.Bo
