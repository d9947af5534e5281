/-
  PROVED HERE: putting one number more into a rising row, and what of a map is still to come. Conditions: as each theorem states.
-/
import Derived.Test.YthpenogkejoljaaSpF
namespace Go.Proofs.Ythpenogkejoljaa.Sp
open Go.RowKit
theorem up_insert {o : List Int} {k : Nat} {n : Int} (h : Up o) (h1 : ∀ x ∈ o.take k, x < n) (h2 : ∀ x ∈ o.drop k, n < x) : Up (o.take k ++ ([n] ++ o.drop k)) := by
  have h' : Up (o.take k ++ o.drop k) := by rw [List.take_append_drop]; exact h
  obtain ⟨a, b, c⟩ := List.pairwise_append.1 h'
  refine List.pairwise_append.2 ⟨a, List.pairwise_append.2 ⟨List.pairwise_singleton _ _, b, fun x hx y hy => ?_⟩, fun x hx y hy => ?_⟩
  · obtain rfl := List.mem_singleton.1 hx
    exact h2 y hy
  · rcases List.mem_append.1 hy with hy | hy
    · obtain rfl := List.mem_singleton.1 hy
      exact h1 x hx
    · exact c x hx y hy
theorem ins_mem {o : List Int} {k : Nat} {n x : Int} : x ∈ o.take k ++ ([n] ++ o.drop k) ↔ x ∈ o ∨ x = n := by
  have e : x ∈ o ↔ x ∈ o.take k ∨ x ∈ o.drop k := by
    rw [← List.mem_append, List.take_append_drop]
  rw [List.mem_append, List.mem_append, List.mem_singleton, e]
  constructor
  · rintro (h | h | h)
    · exact .inl (.inl h)
    · exact .inr h
    · exact .inl (.inr h)
  · rintro ((h | h) | h)
    · exact .inl h
    · exact .inr (.inr h)
    · exact .inr (.inl h)
theorem ins_len {o : List Int} {k : Nat} {n : Int} (hk : k ≤ o.length) : (o.take k ++ ([n] ++ o.drop k)).length = o.length + 1 := by
  simp
  omega
/-- What the inner loop holds: all from place k on are greater. -/
def Gt (o : List Int) (n : Int) (k : Nat) : Prop := ∀ x ∈ o.drop k, n < x
theorem gt_start (o : List Int) (n : Int) : Gt o n o.length := fun x hx => by rw [List.drop_length] at hx; cases hx
theorem gt_step {o : List Int} {n : Int} {k : Nat} (h : Gt o n (k + 1)) (hk : k < o.length) (hn : n < o[k]) : Gt o n k := fun x hx => by
  rw [List.drop_eq_getElem_cons hk] at hx
  rcases List.mem_cons.1 hx with rfl | hx
  · exact hn
  · exact h x hx
theorem lt_end {o : List Int} {n : Int} {k : Nat} (hu : Up o) (hno : n ∉ o) (hk : k ≤ o.length) (he : k = 0 ∨ ∃ h : k - 1 < o.length, ¬ n < o[k - 1]) : ∀ x ∈ o.take k, x < n := by
  intro x hx
  rcases he with rfl | ⟨h, hn⟩
  · simp at hx
  · obtain ⟨j, hj, rfl⟩ := List.getElem_of_mem hx
    rw [List.length_take] at hj
    rw [List.getElem_take]
    have h1 := hu.le (show j ≤ k - 1 by omega) h
    have h2 : o[k - 1] ≠ n := fun e => hno (e ▸ List.getElem_mem h)
    omega
theorem rb_bool {v : Value} {y : DataW Unit × List MemPlace} (h : RB v = some y) : ∃ c, v = .bool c := by
  unfold RB plainElem at h
  rw [Try.underlying4] at h
  cases v <;> simp at h
  exact ⟨_, rfl⟩
/-- What the ranging holds. -/
def Out (D : DataW Unit) (left : Lit → Bool) (o : List Int) : Prop := Up o ∧ ∀ x, x ∈ o ↔ (Maps.has D (.int .i64 x) = true ∧ left (.int .i64 x) = false)
theorem out_step {D : DataW Unit} {left : Lit → Bool} {o : List Int} {n : Int} {k : Nat} (h : Out D left o) (hl : left (.int .i64 n) = true) (hD : Maps.has D (.int .i64 n) = true) (hk : k ≤ o.length) (hg : Gt o n k) (he : k = 0 ∨ ∃ h : k - 1 < o.length, ¬ n < o[k - 1]) :
    Out D (fun z => left z && !z.sameKey (.int .i64 n)) (o.take k ++ ([n] ++ o.drop k)) := by
  have hno : n ∉ o := fun hm => by have := ((h.2 n).1 hm).2; rw [hl] at this; cases this
  refine ⟨up_insert h.1 (lt_end h.1 hno hk he) hg, fun x => ?_⟩
  rw [ins_mem, h.2 x]
  by_cases c : x = n
  · subst c
    simp [hD, Lit.sameKey]
  · simp [c, Lit.sameKey]
theorem out_done {D : DataW Unit} {left : Lit → Bool} {o : List Int} (h : Out D left o) (hl : ∀ kl, left kl = false) : ∀ x, x ∈ o ↔ Maps.has D (.int .i64 x) = true := fun x => by
  rw [h.2 x]
  simp [hl]
theorem Own.part {w : World} {B E g n cap : Nat} {xs : List Value} (h : Own w B E (.slice (some ⟨g, 0, none⟩) n cap) xs) (k : Nat) (hk : k ≤ xs.length) : Own w B E (.slice (some ⟨g, 0, none⟩) k cap) (xs.take k) := by
  obtain ⟨h1, h2 | ⟨g', cap', cur, e, h3, h4, h5, h6, h7, h8⟩⟩ := h
  · exact absurd h2.1 (by simp)
  · simp only [Value.slice.injEq, Option.some.injEq, Addr.mk.injEq, and_true] at e
    obtain ⟨rfl, rfl, rfl⟩ := e
    have hl : (xs.take k).length = k := by rw [List.length_take]; omega
    refine ⟨by rw [hl]; omega, .inr ⟨g, cap, cur, by rw [hl], h3, h4, by omega, h6, h7, ?_⟩⟩
    rw [hl, ← h8, List.take_take]
    congr 1
    omega
theorem Own.cells {w : World} {B E g n cap : Nat} {xs : List Value} (h : Own w B E (.slice (some ⟨g, 0, none⟩) n cap) xs) (k : Nat) : ∀ j u, (xs.drop k)[j]? = some u → w.cell? ((⟨g, k, none⟩ : Addr).add j) = some u := by
  intro j u hu
  rw [List.getElem?_drop] at hu
  have := World.ownsRow.cells h (g := g) rfl (k + j) u hu
  rw [Addr.add_mid] at this
  rw [Addr.add_mid]
  simpa using this
end Go.Proofs.Ythpenogkejoljaa.Sp
